/- What the claim of this folder leans on: our own texts, joined, without what it does not use. -/
import Derived.Test.YtgpcickgjngglaaGreatRows
import Derived.WalkKit
import Derived.ProofKit
import Derived.OpenShut
import Derived.RowKit3
import Derived.OrdersHeld
import Derived.Scope
import Derived.KernelRfl
import Derived.Laws.Sem
import Derived.Laws.StructEq
import Derived.Deep.AppendSrc
import Derived.Laws.BytesArg
import Derived.Laws.RangeString
import Derived.Maps.RangeRun
import Derived.Lib.ConvBytes
import Derived.Lib.SlBytesConst
import Derived.ChangeSlices
import Derived.ChangeMaps5
import Derived.ChangeSame
import Derived.Deep.Slices
import Derived.Deep.Fields
import Derived.Test.YtgpcickgjngglaaGreatProg
import Derived.Laws.MakeOwn
import Derived.WideKeyRuns
import Derived.DeepKeys3
import Derived.Sort.MapsRangeIn
import Derived.Sort.KeysCollected
import Derived.RangeFuncNested
import Derived.RangeFuncBound
import Derived.RangeFuncCalls
import Derived.RangeFuncLeaves
import Derived.RangeFuncBox
import Derived.OwnWalkIn
import Derived.TacticsInMore
import Derived.RegionIn
import Derived.LoopNIn
import Derived.LoopIn
import Derived.Maps.AppendAt
import Derived.Shelf.Abstract
import Derived.Shelf.Sort.Plain
import Derived.Shelf.Slices.In.SortNone
import Derived.Test.YtgpcickgjngglaaGreatQORec1
import Derived.Test.YtgpcickgjngglaaGreatQORec2
import Derived.Test.YtgpcickgjngglaaGreatQORec3
import Derived.Test.YtgpcickgjngglaaGreatQORec4
import Derived.Test.YtgpcickgjngglaaGreatQORec5
import Derived.Test.YtgpcickgjngglaaGreatQORec6
import Derived.Test.YtgpcickgjngglaaGreatQORec7
import Derived.Test.YtgpcickgjngglaaGreatQORec8
set_option linter.unusedVariables false
set_option linter.unusedSimpArgs false
namespace Go.Dec
structure PartA where
 L:LogA
 most:Int
 T:TabA
 V:ViewA
def paP (p:Nat) (A:PartA):HP:=HP.ex λM:Nat × Nat × Nat=>HP.star (pt p (.cells #[.pointer (some ⟨M.1,0,none⟩),.pointer (some ⟨A.L.d,0,none⟩),.string A.L.pre,.int .i64 A.most,.pointer (some ⟨M.2.1,0,none⟩),.pointer (some ⟨M.2.2,0,none⟩)] T.a36))
 (HP.star (lgP M.1 A.L) (HP.star (tb M.2.1 A.T) (vw M.2.2 A.V)))
def z5n (A:PartA):Int:=if A.V.op.length=0 then zt A.L.l else max (z6q A.V) (z15 A.L.l)
section
variable {w:World} {l r r1 r2 r3 r4 l':List HP} {p lg t v:Nat} {A:PartA} {D:DiskA}
theorem z58 (hs:Sat w (paP p A::l)):∃ lg t v:Nat,Sat w (pt p (.cells #[.pointer (some ⟨lg,0,none⟩),.pointer (some ⟨A.L.d,0,none⟩),.string A.L.pre,.int .i64 A.most,.pointer (some ⟨t,0,none⟩),.pointer (some ⟨v,0,none⟩)] T.a36)::lgP lg A.L::tb t A.T::vw v A.V::l):=by
 obtain ⟨⟨lg,t,v⟩,hs⟩:=hs.ex
 have hs:=hs.star
 have hs:=(hs.pick [1]).star
 have hs:=(hs.pick [1]).star
 exact ⟨lg,t,v,hs.pick [3,2,0]⟩
theorem z099 (lg t v:Nat) (hs:Sat w (pt p (.cells #[.pointer (some ⟨lg,0,none⟩),.pointer (some ⟨A.L.d,0,none⟩),.string A.L.pre,.int .i64 A.most,.pointer (some ⟨t,0,none⟩),.pointer (some ⟨v,0,none⟩)] T.a36)::lgP lg A.L::tb t A.T::vw v A.V::l)):Sat w (paP p A::l):=by
 have h1:=(hs.pick [2,2]).star_mk
 have h2:=(h1.pick [2,0]).star_mk
 exact .ex_mk (lg,t,v) ((h2.pick [1]).star_mk)
theorem z2m (A:PartA) (hs:Sat w l) [h1:FocB l p (.cells [.pointer (some ⟨lg,0,none⟩),.pointer (some ⟨A.L.d,0,none⟩),.string A.L.pre,.int .i64 A.most,.pointer (some ⟨t,0,none⟩),.pointer (some ⟨v,0,none⟩)].toArray T.a36) r1] [h2:Fo r1 lgP lg A.L r2] [h3:Fo r2 tb t A.T r3] [h4:Fo r3 vw v A.V r4] [h5:Sub r4 l']:Sat w (paP p A::l'):=by
 have hs:=hs.perm (h1.perm.trans (.cons _ (h2.perm.trans (.cons _ (h3.perm.trans (.cons _ h4.perm))))))
 have hs:Sat w (paP p A::r4):=z099 lg t v hs
 exact hs.sub
theorem zqo [hf:Fo l paP p A r] (hlen:A.L.l.length<=1000000000) (hs:Sat w l):Ret P F.a91 #[.pointer (some ⟨p,0,none⟩)] w λvs w'=>vs=[.int .i64 (zt A.L.l)]/\Sat w' (paP p A::r) :=
 zv4 _ <| by
  delta z08u Aa Ab Ac Ad Ah Ai Aj Bw
  obtain ⟨lg,t,v,hs⟩:=z58 (hs.perm hf.perm)
  refine zy ?_ (by simp)
  refine zi ?_
  refine za hs ?_
  refine z8 (zyk (lg:=lg) (A:=A.L) hlen hs) λ_ w' hs=>?_
  obtain ⟨rfl,hs⟩:=hs
  refine zb ?_
  refine wp_lt ?_
  exact ⟨rfl,rfl,z2m A hs⟩
theorem zlx [hf:Fo l paP p A r] (hs:Sat w l):Ret P F.a89 #[.pointer (some ⟨p,0,none⟩)] w λvs w'=>vs=[.int .i64 (z15 A.L.l)]/\Sat w' (paP p A::r) :=
 zv2 _ <| by
  delta z08s Aa Ab Ac Ad Ah Ai Aj Bw
  obtain ⟨lg,t,v,hs⟩:=z58 (hs.perm hf.perm)
  refine zy ?_ (by simp)
  refine zi ?_
  refine za hs ?_
  obtain ⟨M,hM,hsl⟩:=z7w (hs.pick [1])
  refine z8 (zhm (lg:=lg) hsl) λ_ w' hs=>?_
  obtain ⟨rfl,hs⟩:=hs
  refine zb ?_
  refine wp_lt ?_
  have hMl:M.l=A.L.l:=congrArg LogA.l hM
  have hs:=z4g M hs
  rw [hM] at hs
  rw [hMl]
  exact ⟨rfl,rfl,z2m A hs⟩
def zav (A:PartA):Prop:=∀ {w:World} {l r:List HP} {p:Nat},Fo l paP p A r->A.L.l.length<=1000000000->Sat w l->Ret P F.a93 #[.pointer (some ⟨p,0,none⟩)] w λvs w'=>vs=[.int .i64 (z5n A)]/\Sat w' (paP p A::r)
end
def zcr (A:PartA) (b:BatM):VerA × Int:=if (z1t A.T b).2≠0\/(z1t A.T b).1.again=true then z1t A.T b else ((z1t A.T b).1,z8b A.V b)
def z4z (A:PartA) (b:BatM):PartA:=⟨A.L,A.most,(zkb A.T b).2,(zka A.V b).2⟩
def PartA.log (A:PartA) (l:List SegA):PartA:=⟨A.L.set l,A.most,A.T,A.V⟩
def zrj (A:PartA) (D:DiskA) (c:BatM):(Int × Bool × Int) × PartA × DiskA :=
 if (z0v A.L.pre A.L.seg A.L.l D [c]).1.2≠0 then ((0,false,(z0v A.L.pre A.L.seg A.L.l D [c]).1.2),A.log (z0v A.L.pre A.L.seg A.L.l D [c]).2.1,(z0v A.L.pre A.L.seg A.L.l D [c]).2.2) else
 if (z0i A.L.pre (z0v A.L.pre A.L.seg A.L.l D [c]).2.1 (z0v A.L.pre A.L.seg A.L.l D [c]).2.2).1≠0 then ((0,false,(z0i A.L.pre (z0v A.L.pre A.L.seg A.L.l D [c]).2.1 (z0v A.L.pre A.L.seg A.L.l D [c]).2.2).1),A.log (z0v A.L.pre A.L.seg A.L.l D [c]).2.1,(z0i A.L.pre (z0v A.L.pre A.L.seg A.L.l D [c]).2.1 (z0v A.L.pre A.L.seg A.L.l D [c]).2.2).2) else
 (((z0v A.L.pre A.L.seg A.L.l D [c]).1.1,false,0),z4z (A.log (z0v A.L.pre A.L.seg A.L.l D [c]).2.1) (c.to (z0v A.L.pre A.L.seg A.L.l D [c]).1.1),(z0i A.L.pre (z0v A.L.pre A.L.seg A.L.l D [c]).2.1 (z0v A.L.pre A.L.seg A.L.l D [c]).2.2).2)
def z0l (A:PartA) (D:DiskA) (b:BatM):(Int × Bool × Int) × PartA × DiskA :=
 if (zcr A (b.to (zt A.L.l))).2≠0\/(zcr A (b.to (zt A.L.l))).1.again=true then (((zcr A (b.to (zt A.L.l))).1.base,(zcr A (b.to (zt A.L.l))).1.again,(zcr A (b.to (zt A.L.l))).2),A,D)
 else zrj A D (b.to (zt A.L.l))
instance {n k:Int} {b:Bool}:IsR (.tup [.one (.int .i64),.one .bool,.one (.int .i64)]) [.int .i64 n,.bool b,.int .i64 k] (n,b,k,()):=⟨rfl⟩
section
variable {w:World} {l r r1 r2 r3 r4 l':List HP} {p lg t v:Nat} {A:PartA} {D:DiskA}
theorem zqt (b:BatM) [hf:Fo l paP p A r] [hb:FocR r b.x 4 (b.rs.flatMap z00)] (hs:Sat w l):Ret P F.a98 #[.pointer (some ⟨p,0,none⟩),.agg (zr b).toArray] w λvs w'=>vs=[]/\Sat w' (paP p (z4z A b)::r) :=
 zn8 _ b.base b.pid b.epoch b.seq b.kind b.time b.x <| by
  delta z00o AC AG AW Ab Ad Ae Ai Aj Bn Bw
  obtain ⟨lg,t,v,hs⟩:=z58 (hs.perm hf.perm)
  refine zp hs λa0 w' hs=>?_
  refine zw hs λw' hs=>?_
  refine zi ?_
  refine za hs ?_
  refine ze hs ?_
  refine z8 (z04t (t:=t) (A:=A.T) b hs) λ_ _ hs=>?_
  obtain ⟨rfl,hs⟩:=hs
  refine zb ?_
  refine zd ?_
  refine zw hs λw' hs=>?_
  refine zi ?_
  refine za hs ?_
  refine ze hs ?_
  refine z8 (z03r (v:=v) (A:=A.V) b hs) λ_ _ hs=>?_
  obtain ⟨rfl,hs⟩:=hs
  refine zb ?_
  refine zd ?_
  exact ⟨rfl,rfl,z2m (lg:=lg) (t:=t) (v:=v) (z4z A b) hs⟩
theorem z048 (b:BatM) (hs:Sat w l):Ret P F.a101 #[.agg (zr b).toArray] w λvs w'=>vs=[.bool (z0h b)]/\Sat w' l :=
 znb b.base b.pid b.epoch b.seq b.kind b.time b.x <| by
  delta z00r AD AW Ab Ae Ao Bz
  refine zp hs λa0 w' hs=>?_
  refine za hs ?_
  refine za hs ?_
  refine wp_lt ?_
  refine ⟨rfl,?_,hs.tail⟩
  unfold z0h
  rfl
theorem z06b (b:BatM) [hf:Fo l paP p A r] [hb:FocR r b.x 4 (b.rs.flatMap z00)] (hs:Sat w l):Ret P F.a94 #[.pointer (some ⟨p,0,none⟩),.agg (zr b).toArray] w λvs w'=>vs=[.agg (zgi (zcr A b).1).toArray,.int .i64 (zcr A b).2]/\Sat w' (paP p A::r) :=
 zv7 _ b.base b.pid b.epoch b.seq b.kind b.time b.x <| by
  delta z08x AC AG AI AW Aa Ab Ac Ad Ae Af Ah Ai Aj Aq Ar Au B4 BW BX Bn Bw Cb;unfold zcr
  obtain ⟨lg,t,v,hs⟩:=z58 (hs.perm hf.perm)
  refine zp hs λa0 w' hs=>?_
  refine zm hs λa1 w' hs=>?_
  refine zk (λq w'=>∃ a:Nat,q=(⟨a,0,none⟩,(z1t A.T b).2,())/\Sat w' (pt a (.cells #[.bool (z1t A.T b).1.again,.int .i64 (z1t A.T b).1.base] T.a7)::pt a1 (.cells #[.bool false,.int .i64 0] T.a7)::pt a0 (.cells #[.int .i64 b.base,.int .i64 b.pid,.int .i64 b.epoch,.int .i64 b.seq,.int .i64 b.kind,.int .i64 b.time,.slice b.x.a b.x.len b.x.cap] T.a0)::paP p A::r)) ?_ ?_
  ·refine zw hs λw' hs=>?_
   refine zi ?_
   refine z0z hs ?_
   refine zbg hs ?_
   refine ⟨?_,?_⟩
   ·refine zd ?_
    refine z8 (zg5 (t:=t) (A:=A.T) b hs) λ_ _ hs=>?_
    obtain ⟨rfl,hs⟩:=hs
    refine zb ?_
    refine zm hs λa15 w' hs=>?_
    refine zl hs λw' hs=>?_
    refine wp_lt ?_
    refine zd ?_
    have hs:Sat w' (pt a15 (.cells #[.bool (z1t A.T b).1.again,.int .i64 (z1t A.T b).1.base] T.a7)::_):=hs
    refine zf ⟨a15,rfl,?_⟩
    have hs:Sat w' (paP p A::pt a15 (.cells #[.bool (z1t A.T b).1.again,.int .i64 (z1t A.T b).1.base] T.a7)::pt a1 (.cells #[.bool false,.int .i64 0] T.a7)::pt a0 (.cells #[.int .i64 b.base,.int .i64 b.pid,.int .i64 b.epoch,.int .i64 b.seq,.int .i64 b.kind,.int .i64 b.time,.slice b.x.a b.x.len b.x.cap] T.a0)::r):=z2m (lg:=lg) (t:=t) (v:=v) A hs
    exact hs.pick [1,1,1,0]
   ·refine zm hs λa17 w' hs=>?_
    refine zd ?_
    refine z8 (zg5 (t:=t) (A:=A.T) b hs) λ_ _ hs=>?_
    obtain ⟨rfl,hs⟩:=hs
    refine zb ?_
    refine zl hs λw' hs=>?_
    refine wp_lt ?_
    refine zd ?_
    refine zf ⟨a17,rfl,?_⟩
    have hs:Sat w' (paP p A::pt a17 (.cells #[.bool (z1t A.T b).1.again,.int .i64 (z1t A.T b).1.base] T.a7)::pt a1 (.cells #[.bool false,.int .i64 0] T.a7)::pt a0 (.cells #[.int .i64 b.base,.int .i64 b.pid,.int .i64 b.epoch,.int .i64 b.seq,.int .i64 b.kind,.int .i64 b.time,.slice b.x.a b.x.len b.x.cap] T.a0)::r):=z2m (lg:=lg) (t:=t) (v:=v) A hs
    exact hs.pick [1,1,1,0]
  clear hs
  rintro _ w ⟨a,rfl,hs⟩
  refine z38 _ _ ?_
  generalize z1t A.T b=j at *
  obtain ⟨v0,e⟩:=j
  simp only at hs ⊢
  refine za hs ?_
  refine zg (λh=>?_) λh=>?_
  ·rw [if_pos h]
   refine ze hs ?_
   refine zl hs λw' hs=>?_
   refine wp_lt ?_
   refine ze hs ?_
   exact ⟨rfl,rfl,hs.sub⟩
  rw [if_neg h]
  refine zk (λq w'=>q=(z8b A.V b,())/\Sat w' (pt a1 (.cells #[.bool v0.again,.int .i64 v0.base] T.a7)::paP p A::r)) ?_ ?_
  ·refine zw hs λw' hs=>?_
   refine zbg hs ?_
   obtain ⟨lg,t,v,hs⟩:=z58 (hs.pick [3])
   refine zi ?_
   refine za hs ?_
   refine ze hs ?_
   refine z8 (zw3 (v:=v) (A:=A.V) b hs) λ_ w' hs=>?_
   obtain ⟨rfl,hs⟩:=hs
   refine zb ?_ (by first|trivial|(repeat (first|exact trivial|exact λ_=>z05 hs|exact λ_=>z0b hs|refine And.intro ?_ ?_)))
   refine zd ?_
   refine zl hs λw' hs=>?_
   refine wp_lt ?_
   refine zd ?_
   refine zf ⟨rfl,?_⟩
   have hs:Sat w' (paP p A::pt a1 (.cells #[.bool v0.again,.int .i64 v0.base] T.a7)::r):=z2m (lg:=lg) (t:=t) (v:=v) A hs
   exact hs.pick [1]
  clear hs
  rintro _ w ⟨rfl,hs⟩
  refine zj ?_
  refine ze hs ?_
  exact ⟨rfl,rfl,hs.sub⟩
theorem zyh (pre:ByteArray) (seg:Int) (l:List SegA) (D:DiskA) (bs:List BatM):(z0v pre seg l D bs).2.1.length<=l.length+1:=by
 unfold z0v
 split
 ·exact Nat.le_succ _
 split
 ·exact Nat.le_succ _
 split
 ·split
  ·exact Nat.le_succ _
  ·unfold z54
   split <;> simp
 split
 ·exact Nat.le_succ _
 split
 ·exact Nat.le_succ _
 ·simp
set_option maxHeartbeats 1000000 in
theorem zwo (b:BatM) {r1:List HP} [hf:Fo l paP p A r1] [hf2:Fo r1 dk A.L.d D r] (hb:FocR r b.x 4 (b.rs.flatMap z00)) (hlen:A.L.l.length<=100000) (hok:z0a 0 A.L.l) (hfl:∀ s ∈ A.L.l,s.file.length<=500000000) (hr:b.rs.length<=1000000) (hs:Sat w l) :
  Ret P F.a96 #[.pointer (some ⟨p,0,none⟩),.agg (zr b).toArray] w λvs w'=>vs=[.int .i64 (z0l A D b).1.1,.bool (z0l A D b).1.2.1,.int .i64 (z0l A D b).1.2.2]/\Sat w' (paP p (z0l A D b).2.1::dk A.L.d (z0l A D b).2.2::r) :=
 zn6 _ b.base b.pid b.epoch b.seq b.kind b.time b.x <| by
  delta z00m AA AC AD AE AG AI AL AP AW Aa Ab Ac Ad Ae Ah Ai Aj Am Ao Aq Ar Au B4 B9 BW BX Bb Bn Bw;unfold z0l
  have hs:=hs.perm (hf.perm.trans (.cons _ hf2.perm))
  clear hf hf2
  have hb':FocR r (b.to (zt A.L.l)).x 4 ((b.to (zt A.L.l)).rs.flatMap z00):=hb
  have hr':(b.to (zt A.L.l)).rs.length<=1000000:=hr
  refine zp hs λa0 w' hs=>?_
  refine z8 (zqo (p:=p) (A:=A) (by omega) hs) λ_ w' hs=>?_
  obtain ⟨rfl,hs⟩:=hs
  refine zb ?_
  refine z02 hs λw' hs=>?_
  have hs:Sat w' (pt a0 (.cells (zr (b.to (zt A.L.l))).toArray T.a0)::paP p A::dk A.L.d D::r):=hs
  generalize b.to (zt A.L.l)=c at *
  have hs:Sat w' (pt a0 (.cells #[.int .i64 c.base,.int .i64 c.pid,.int .i64 c.epoch,.int .i64 c.seq,.int .i64 c.kind,.int .i64 c.time,.slice c.x.a c.x.len c.x.cap] T.a0)::paP p A::dk A.L.d D::r):=hs
  refine ze hs ?_
  refine z8 (z06b (p:=p) (A:=A) c hs) λ_ w' hs=>?_
  obtain ⟨rfl,hs⟩:=hs
  refine zb ?_
  refine zm hs λa12 w' hs=>?_
  refine zl hs λw' hs=>?_
  refine wp_lt ?_
  refine za hs ?_
  refine zg (λh=>?_) λh=>?_
  ·rw [if_pos h]
   refine zw hs λw' hs=>?_
   refine za hs ?_
   refine za hs ?_
   refine wp_lt ?_
   refine wp_lt ?_
   refine wp_lt ?_
   refine zd ?_
   exact ⟨rfl,rfl,hs.sub⟩
  rw [if_neg h]
  have hs:Sat w' (pt a0 (.cells #[.int .i64 c.base,.int .i64 c.pid,.int .i64 c.epoch,.int .i64 c.seq,.int .i64 c.kind,.int .i64 c.time,.slice c.x.a c.x.len c.x.cap] T.a0)::paP p A::dk A.L.d D::r):=hs.sub
  unfold zrj
  have hlsg:=zw6 (pre:=A.L.pre) (seg:=A.L.seg) (D:=D) (bs:=[c]) hok
  have hlln:=zyh A.L.pre A.L.seg A.L.l D [c]
  generalize hla:z0v A.L.pre A.L.seg A.L.l D [c]=la at *
  refine zk (λq w'=>q=(la.1.2,la.1.1,())/\Sat w' (pt a0 (.cells #[.int .i64 c.base,.int .i64 c.pid,.int .i64 c.epoch,.int .i64 c.seq,.int .i64 c.kind,.int .i64 c.time,.slice c.x.a c.x.len c.x.cap] T.a0)::paP p (A.log la.2.1)::dk A.L.d la.2.2::r)) ?_ ?_
  ·refine zw hs λw' hs=>?_
   obtain ⟨lg,t,v,hs⟩:=z58 (hs.pick [1])
   refine zi ?_
   refine z0z hs ?_
   refine ze hs ?_
   refine z6r hs (enc:=zr) [c] λy w' hs=>⟨(by first|trivial|(repeat (first|exact trivial|exact λ_=>z05 hs|exact λ_=>z0b hs|refine And.intro ?_ ?_))),?_⟩
   refine zd ?_
   refine z8 (z05b (lg:=lg) (A:=A.L) (D:=D) c y (by omega) hok hfl inferInstance inferInstance hs) λ_ w' hs=>?_
   obtain ⟨rfl,hs⟩:=hs
   rw [hla] at hs ⊢
   refine ⟨(la.1.1,la.1.2,()),rfl,trivial,z38 _ _ ?_⟩
   refine wp_lt ?_
   refine wp_lt ?_
   refine zd ?_
   refine zf ⟨rfl,?_⟩
   have hs:Sat w' (lgP lg (A.log la.2.1).L::_):=hs
   have hs:Sat w' (paP p (A.log la.2.1)::dk A.L.d la.2.2::pt a0 (.cells #[.int .i64 c.base,.int .i64 c.pid,.int .i64 c.epoch,.int .i64 c.seq,.int .i64 c.kind,.int .i64 c.time,.slice c.x.a c.x.len c.x.cap] T.a0)::r):=z2m (lg:=lg) (t:=t) (v:=v) (A.log la.2.1) hs
   exact hs.pick [2]
  clear hs
  rintro _ w ⟨rfl,hs⟩
  refine z38 _ _ ?_
  obtain ⟨⟨at_,e⟩,l',D'⟩:=la
  simp only at hs hlsg hlln ⊢
  refine zk (λq w'=>q=((if e≠0 then e else (z0i A.L.pre l' D').1),())/\Sat w' (pt a0 (.cells #[.int .i64 c.base,.int .i64 c.pid,.int .i64 c.epoch,.int .i64 c.seq,.int .i64 c.kind,.int .i64 c.time,.slice c.x.a c.x.len c.x.cap] T.a0)::paP p (A.log l')::dk A.L.d (if e≠0 then D' else (z0i A.L.pre l' D').2)::r)) ?_ ?_
  ·refine zg (λh1=>?_) λh1=>?_
   ·have hs:Sat w (paP p (A.log l')::pt a0 (.cells #[.int .i64 c.base,.int .i64 c.pid,.int .i64 c.epoch,.int .i64 c.seq,.int .i64 c.kind,.int .i64 c.time,.slice c.x.a c.x.len c.x.cap] T.a0)::dk (A.log l').L.d D'::r):=hs.pick [1]
    obtain ⟨lg,t,v,hs⟩:=z58 hs
    refine zi ?_
    refine za hs ?_
    refine z8 (zym (lg:=lg) (A:=(A.log l').L) (D:=D') (by show l'.length<=_;omega) hlsg hs) λ_ w' hs=>?_
    obtain ⟨rfl,hs⟩:=hs
    refine zb ?_
    refine wp_lt ?_
    refine zf ⟨?_,?_⟩
    ·rw [if_neg (by simpa using h1)];rfl
    ·rw [if_neg (by simpa using h1)]
     have hs:Sat w' (lgP lg (A.log l').L::dk A.L.d (z0i A.L.pre l' D').2::_):=hs
     have hs:Sat w' (paP p (A.log l')::dk A.L.d (z0i A.L.pre l' D').2::pt a0 (.cells #[.int .i64 c.base,.int .i64 c.pid,.int .i64 c.epoch,.int .i64 c.seq,.int .i64 c.kind,.int .i64 c.time,.slice c.x.a c.x.len c.x.cap] T.a0)::r):=z2m (lg:=lg) (t:=t) (v:=v) (A.log l') hs
     exact hs.pick [2]
   ·refine zf ⟨?_,?_⟩
    ·rw [if_pos (by simpa using h1)]
    ·rw [if_pos (by simpa using h1)];exact hs
  clear hs
  rintro _ w ⟨rfl,hs⟩
  refine zj ?_
  by_cases he:e≠0
  ·rw [if_pos he] at hs ⊢
   rw [if_pos he]
   refine z0o ?_ (by simpa using he)
   refine wp_lt ?_
   exact ⟨rfl,rfl,hs.sub⟩
  rw [if_neg he] at hs ⊢
  rw [if_neg he]
  refine zg (λh2=>?_) λh2=>?_
  ·rw [if_pos h2]
   refine wp_lt ?_
   exact ⟨rfl,rfl,hs.sub⟩
  rw [if_neg h2]
  refine z02 hs λw' hs=>?_
  refine ze hs ?_
  have hb2:FocR r (c.to at_).x 4 ((c.to at_).rs.flatMap z00):=hb'
  refine z8 (zqu (c.to at_) hr' hs) λ_ w' hs=>?_
  obtain ⟨z,rfl,hs⟩:=hs
  refine ⟨(at_,c.pid,c.epoch,c.seq,c.kind,c.time,z,()),rfl,trivial,zkc _ _ _ _ _ _ _ ?_⟩
  have hb3:FocR (slc T.a2 4 z ((c.to at_).rs.flatMap z00)::dk A.L.d (z0i A.L.pre l' D').2::r) ((c.to at_).at z).x 4 (((c.to at_).at z).rs.flatMap z00):=(FocR.head:FocR (slc T.a2 4 z ((c.to at_).rs.flatMap z00)::_) z 4 ((c.to at_).rs.flatMap z00))
  have hs:Sat w' (paP p (A.log l')::slc T.a2 4 z ((c.to at_).rs.flatMap z00)::dk A.L.d (z0i A.L.pre l' D').2::r):=hs.sub
  refine z8 (zqt (p:=p) (A:=A.log l') ((c.to at_).at z) hs) λ_ w' hs=>?_
  obtain ⟨rfl,hs⟩:=hs
  refine zb ?_
  refine wp_lt ?_
  have hs:Sat w' (paP p (z4z (A.log l') (c.to at_))::_):=hs
  exact ⟨rfl,rfl,hs.sub⟩
theorem zwl (b:BatM) {r1:List HP} [hf:Fo l paP p A r1] [hf2:Fo r1 dk A.L.d D r] (hb:FocR r b.x 4 (b.rs.flatMap z00)) (hlen:A.L.l.length<=100000) (hok:z0a 0 A.L.l) (hfl:∀ s ∈ A.L.l,s.file.length<=500000000) (hr:b.rs.length<=1000000) (hm:z0h b=false) (hs:Sat w l) :
  Ret P F.a87 #[.pointer (some ⟨p,0,none⟩),.agg (zr b).toArray] w λvs w'=>vs=[.int .i64 (z0l A D b).1.1,.bool (z0l A D b).1.2.1,.int .i64 (z0l A D b).1.2.2]/\Sat w' (paP p (z0l A D b).2.1::dk A.L.d (z0l A D b).2.2::r) :=
 zv0 _ b.base b.pid b.epoch b.seq b.kind b.time b.x <| by
  delta z08q AM AW Ab Ac Ad Ae Ah Ao Az BK Bn
  have hs:=hs.perm (hf.perm.trans (.cons _ hf2.perm))
  clear hf hf2
  refine zp hs λa0 w' hs=>?_
  refine wp_lt ?_
  refine zy ?_ (by simp)
  refine ze hs ?_
  refine z8 (z048 b hs) λ_ w' hs=>?_
  obtain ⟨rfl,hs⟩:=hs
  refine zb ?_
  refine wp_lt ?_
  refine zy ?_ (by rw [hm];simp)
  refine ze hs ?_
  have hs:=hs.pick [1,1]
  refine z8 (zwo (p:=p) (A:=A) (D:=D) b inferInstance hlen hok hfl hr hs) λ_ w' hs=>?_
  obtain ⟨rfl,hs⟩:=hs
  refine zb ?_
  refine wp_lt ?_
  refine wp_lt ?_
  refine wp_lt ?_
  exact ⟨rfl,rfl,hs.sub⟩
def z1q (pid epoch:Int) (commit:Bool) (time:Int) (x:Sl):BatM:=⟨0,pid,epoch,0,if commit then 2 else 3,time,x,[]⟩
theorem z04j (pid epoch:Int) (commit:Bool) (time:Int) (hs:Sat w l):Ret P F.a107 #[.int .i64 pid,.int .i64 epoch,.bool commit,.int .i64 time] w λvs w'=>vs=[.agg (zr (z1q pid epoch commit time ⟨none,0,0⟩)).toArray]/\Sat w' l :=
 znh _ _ _ _ <| by
  delta z00y AB AE AW Aa Ab Ac Ar Au Bn
  refine zm hs λa0 w' hs=>?_
  refine zm hs λa1 w' hs=>?_
  refine zl hs λw' hs=>?_
  refine zk (λq w'=>Sat w' (pt a1 (.cells (zr (z1q pid epoch commit time ⟨none,0,0⟩)).toArray T.a0)::pt a0 (.cells #[.int .i64 0,.int .i64 0,.int .i64 0,.int .i64 0,.int .i64 0,.int .i64 0,.slice none 0 0] T.a0)::l)) ?_ ?_
  ·cases commit with
   | true =>
    refine z0o ?_ (by simp)
    refine z02 hs λw' hs=>?_
    exact zf hs
   | false =>
    refine zy ?_ (by simp)
    exact zf hs
  clear hs
  rintro _ w hs
  have hs:Sat w (pt a1 (.cells #[.int .i64 0,.int .i64 pid,.int .i64 epoch,.int .i64 0,.int .i64 (if commit then 2 else 3),.int .i64 time,.slice none 0 0] T.a0)::pt a0 (.cells #[.int .i64 0,.int .i64 0,.int .i64 0,.int .i64 0,.int .i64 0,.int .i64 0,.slice none 0 0] T.a0)::l):=hs
  refine zj ?_
  refine ze hs ?_
  refine zl hs λw' hs=>?_
  refine ze hs ?_
  exact ⟨rfl,rfl,hs.tail.tail⟩
theorem z046 (pid epoch:Int) (commit:Bool) (time:Int) {r1:List HP} [hf:Fo l paP p A r1] [hf2:Fo r1 dk A.L.d D r] (hlen:A.L.l.length<=100000) (hok:z0a 0 A.L.l) (hfl:∀ s ∈ A.L.l,s.file.length<=500000000) (hs:Sat w l) :
  Ret P F.a90 #[.pointer (some ⟨p,0,none⟩),.int .i64 pid,.int .i64 epoch,.bool commit,.int .i64 time] w λvs w'=>vs=[.int .i64 (z0l A D (z1q pid epoch commit time ⟨none,0,0⟩)).1.1,.bool (z0l A D (z1q pid epoch commit time ⟨none,0,0⟩)).1.2.1,.int .i64 (z0l A D (z1q pid epoch commit time ⟨none,0,0⟩)).1.2.2]/\Sat w' (paP p (z0l A D (z1q pid epoch commit time ⟨none,0,0⟩)).2.1::dk A.L.d (z0l A D (z1q pid epoch commit time ⟨none,0,0⟩)).2.2::r) :=
 zv3 _ _ _ _ _ <| by
  delta z08t AW Aa Ab Ac Ad Ah Ao B9 BK
  have hs:=hs.perm (hf.perm.trans (.cons _ hf2.perm))
  clear hf hf2
  refine zy ?_ (by simp)
  refine z8 (z04j pid epoch commit time hs) λ_ w' hs=>?_
  obtain ⟨rfl,hs⟩:=hs
  refine ⟨(0,pid,epoch,0,(if commit then 2 else 3),time,⟨none,0,0⟩,()),rfl,trivial,zkc _ _ _ _ _ _ _ ?_⟩
  have hs:Sat w' (slc T.a2 4 ⟨none,0,0⟩ (([]:List RecM).flatMap z00)::_):=hs.slc_nil
  have hb:FocR (slc T.a2 4 ⟨none,0,0⟩ (([]:List RecM).flatMap z00)::r) (z1q pid epoch commit time ⟨none,0,0⟩).x 4 ((z1q pid epoch commit time ⟨none,0,0⟩).rs.flatMap z00):=(FocR.head:FocR (slc T.a2 4 ⟨none,0,0⟩ (([]:List RecM).flatMap z00)::r) ⟨none,0,0⟩ 4 (([]:List RecM).flatMap z00))
  have hs:Sat w' (paP p A::dk A.L.d D::slc T.a2 4 ⟨none,0,0⟩ (([]:List RecM).flatMap z00)::r):=hs.sub
  refine z8 (zwo (p:=p) (A:=A) (D:=D) (z1q pid epoch commit time ⟨none,0,0⟩) hb hlen hok hfl (by show 0<=_;omega) hs) λ_ w' hs=>?_
  obtain ⟨rfl,hs⟩:=hs
  refine zb ?_
  refine wp_lt ?_
  refine wp_lt ?_
  refine wp_lt ?_
  exact ⟨rfl,rfl,hs.sub⟩
end
def z2z (A:PartA) (c:Bool):Int->List BatM->List AtM × Int
 | n,[]=>([],n)
 | n,b::bs=>if c=true/\b.base>=z5n A then ([],n) else ((if c=false\/z6w A.V b=1 then z2g b else [])++(z2z A c (z1p b) bs).1,(z2z A c (z1p b) bs).2)
def z1v (A:PartA) (off most:Int) (c:Bool):(List AtM × Int) × Int:=if (z4l A.L.l off most).1≠0 then (([],0),(z4l A.L.l off most).1) else (z2z A c off (z4l A.L.l off most).2,0)
theorem zqk (A:PartA) (c:Bool):∀ (bs:List BatM) (n:Int),z2z A c n (bs.map BatM.p)=z2z A c n bs
 | [],n=>rfl
 | b::bs,n=>by
  have ih:=zqk A c bs (z1p b)
  show (if c=true/\b.base>=z5n A then (([]:List AtM),n) else ((if c=false\/z6w A.V b=1 then z2g b else [])++(z2z A c (z1p b) (bs.map BatM.p)).1,(z2z A c (z1p b) (bs.map BatM.p)).2))=_
  rw [ih]
  rfl
theorem zjc {A:PartA} {c:Bool} {n:Int} {b:BatM} {bs:List BatM} (h:c=true/\b.base>=z5n A):z2z A c n (b::bs)=([],n):=if_pos h
theorem zql {A:PartA} {c:Bool} {n:Int} {b:BatM} {bs:List BatM} (h:¬ (c=true/\b.base>=z5n A)):z2z A c n (b::bs)=((if c=false\/z6w A.V b=1 then z2g b else [])++(z2z A c (z1p b) bs).1,(z2z A c (z1p b) bs).2):=if_neg h
theorem zwr (l:List SegA) (off most:Int):(z4l l off most).2.length<=(z06 l).length:=by
 unfold z4l
 split
 ·exact Nat.zero_le _
 split
 ·exact Nat.zero_le _
 ·simp only [List.length_take]
  exact Nat.le_trans (Nat.min_le_right _ _) (List.length_filterMap_le ..)
theorem zze {l:List SegA} {off most:Int} {b:BatM} (hok:z0a 0 l) (h:b ∈ (z4l l off most).2):b.rs.length<=64:=by
 unfold z4l at h
 split at h
 ·cases h
 split at h
 ·cases h
 ·obtain ⟨c,hc,hf⟩:=List.mem_filterMap.1 (List.mem_of_mem_take h)
  have hv:=((z9c (Int.le_refl 0) hok).valid c hc).1
  have h64:=(z26 hv).1
  unfold z0n at hf
  split at hf
  ·cases hf
  split at hf
  ·cases hf;exact h64
  ·cases hf
   show (c.rs.drop _).length<=64
   rw [List.length_drop];omega
section
variable {w:World} {l r:List HP} {p:Nat} {A:PartA} {D:DiskA}
set_option maxHeartbeats 1000000 in
theorem z04c (hst:zav A) (off most:Int) (c:Bool) (ho : -9223372036854775808<=off/\off<9223372036854775808) (hmo:most<9223372036854775808) {r1:List HP} [hf:Fo l paP p A r1] [hf2:Fo r1 dk A.L.d D r] (hok:z0a 0 A.L.l) (hhas:zkf A.L.pre A.L.l D) (hlen:A.L.l.length<=1000000) (hall:(z06 A.L.l).length<=1000000) (hs:Sat w l) :
  Ret P F.a92 #[.pointer (some ⟨p,0,none⟩),.int .i64 off,.int .i64 most,.bool c] w λvs w'=>∃ z:Sl,vs=[z.v,.int .i64 (z1v A off most c).1.2,.int .i64 (z1v A off most c).2]/\Sat w' (slc T.a37 5 z ((z1v A off most c).1.1.flatMap z08)::paP p A::dk A.L.d D::r) :=
 zv5 _ off most c <| by
  delta z08v AC AF AG AP AS AV AW Aa Ab Ac Ad Ag Ah Ai Aj Ap Ar Au Ay B7 BQ Bc Bn Bt Bw;unfold z1v
  have hs:=hs.perm (hf.perm.trans (.cons _ hf2.perm))
  clear hf hf2
  obtain ⟨lg,t,v,hs⟩:=z58 hs
  refine zy ?_ (by simp)
  refine zi ?_
  refine za hs ?_
  refine z8 (zqa (lg:=lg) (A:=A.L) (D:=D) off most ho hmo hok hhas hlen hall hs) λ_ w' hs=>?_
  obtain ⟨y,outs,rfl,hmap,hs⟩:=hs
  refine ⟨(y,(z4l A.L.l off most).1,()),rfl,trivial,z38 _ _ ?_⟩
  have hs:Sat w' (slc T.a0 7 y (outs.flatMap zr)::z10 outs::paP p A::dk A.L.d D::r):=by
   have hs:Sat w' (paP p A::slc T.a0 7 y (outs.flatMap zr)::z10 outs::dk A.L.d D::r):=z2m (lg:=lg) (t:=t) (v:=v) A hs
   exact hs.pick [1,1]
  refine wp_lt ?_
  refine zg (λh=>?_) λh=>?_
  ·rw [if_pos h]
   refine wp_lt ?_
   have hs:Sat w' (slc T.a37 5 ⟨none,0,0⟩ (([]:List AtM).flatMap z08)::_):=hs.slc_nil
   exact ⟨rfl,⟨none,0,0⟩,rfl,hs.sub⟩
  rw [if_neg h,<- hmap,zqk]
  have hol:outs.length<=1000000:=by
   have:=congrArg List.length hmap
   rw [List.length_map] at this
   rw [this]
   exact Nat.le_trans (zwr _ _ _) hall
  have hov:∀ b ∈ outs,b.rs.length<=64:=λb hb=>by
   have h1:b.p ∈ (z4l A.L.l off most).2:=by rw [<- hmap];exact List.mem_map.2 ⟨b,hb,rfl⟩
   have h2:=zze hok h1
   exact h2
  have hly:=hs.slen y (xs:=outs) (enc:=zr)
  refine wp_lt ?_
  refine zk (λq w'=>∃ z:Sl,q=(z,(z2z A c off outs).2,())/\Sat w' (slc T.a37 5 z ((z2z A c off outs).1.flatMap z08)::paP p A::dk A.L.d D::r)) ?_ ?_
  rotate_left
  ·rintro _ w2 ⟨z,rfl,hs⟩
   refine z38 _ _ ?_
   refine wp_lt ?_
   exact ⟨rfl,z,rfl,hs⟩
  have hs:Sat w' (slc T.a37 5 ⟨none,0,0⟩ (([]:List AtM).flatMap z08)::slc T.a0 7 y (outs.flatMap zr)::z10 outs::paP p A::dk A.L.d D::r):=hs.slc_nil
  refine z09 (λm q w=>∃ (i:Nat) (z:Sl) (n:Int) (done:List AtM),q=(z,n,(i:Int),())/\i<=outs.length/\outs.length-i=m/\done.length<=64*i /\
   z2z A c off outs=(done++(z2z A c n (outs.drop i)).1,(z2z A c n (outs.drop i)).2) /\
   Sat w (slc T.a37 5 z (done.flatMap z08)::slc T.a0 7 y (outs.flatMap zr)::z10 outs::paP p A::dk A.L.d D::r)) outs.length
   ⟨0,⟨none,0,0⟩,off,[],rfl,by omega,rfl,by simp,by simp,hs⟩ ?_
  clear hs
  rintro m _ w ⟨i,z,n,done,rfl,hi,hm,hdl,hq,hs⟩
  refine zhd _ _ _ ?_
  refine zg (λhc=>?_) λhc=>?_
  rotate_left
  ·have e:outs.drop i=[]:=List.drop_eq_nil_of_le (by omega)
   rw [e] at hq
   have hq:z2z A c off outs=(done++[],n):=hq
   rw [List.append_nil] at hq
   refine zn (zf ⟨z,by rw [hq],?_⟩)
   rw [hq]
   exact hs.sub
  have hil:i<outs.length:=by omega
  have hdrop:outs.drop i=outs[i]::outs.drop (i+1):=List.drop_eq_getElem_cons hil
  rw [hdrop] at hq
  have hrl:outs[i].rs.length<=64:=hov _ (List.getElem_mem hil)
  generalize hb:outs[i]=b at *
  have hbm:b ∈ outs:=by rw [<- hb];exact List.getElem_mem hil
  refine z39 hs i hil ?_
  rw [hb]
  refine zm hs λa w' hs=>?_
  refine zl hs λw' hs=>?_
  have hbr:FocR (z10 outs::paP p A::dk A.L.d D::r) b.x 4 (b.rs.flatMap z00):=zax hbm
  have hs:Sat w' (pt a (.cells #[.int .i64 b.base,.int .i64 b.pid,.int .i64 b.epoch,.int .i64 b.seq,.int .i64 b.kind,.int .i64 b.time,.slice b.x.a b.x.len b.x.cap] T.a0)::slc T.a37 5 z (done.flatMap z08)::slc T.a0 7 y (outs.flatMap zr)::z10 outs::paP p A::dk A.L.d D::r):=hs
  refine zk (λq w'=>q=(decide (c=true/\b.base>=z5n A),())/\Sat w' (pt a (.cells #[.int .i64 b.base,.int .i64 b.pid,.int .i64 b.epoch,.int .i64 b.seq,.int .i64 b.kind,.int .i64 b.time,.slice b.x.a b.x.len b.x.cap] T.a0)::slc T.a37 5 z (done.flatMap z08)::slc T.a0 7 y (outs.flatMap zr)::z10 outs::paP p A::dk A.L.d D::r)) ?_ ?_
  ·refine zw hs λw' hs=>?_
   refine z0z hs ?_
   cases c with
   | false =>
    refine zy ?_ (by simp)
    refine zd ?_
    exact zf ⟨by simp,hs⟩
   | true =>
    refine z0o ?_ (by simp)
    refine z8 (hst (p:=p) inferInstance (by omega) hs) λ_ w' hs=>?_
    obtain ⟨rfl,hs⟩:=hs
    refine zb ?_ (by first|trivial|(repeat (first|exact trivial|exact λ_=>z05 hs|exact λ_=>z0b hs|refine And.intro ?_ ?_)))
    refine zd ?_
    exact zf ⟨by simp,hs.pick [1,1,1,1]⟩
  clear hs
  rintro _ w ⟨rfl,hs⟩
  refine zj ?_
  by_cases hstop:c=true/\b.base>=z5n A
  ·refine z0o ?_ (by simpa using hstop)
   have hq:z2z A c off outs=(done++[],n):=by
    rw [hq,zjc hstop]
   rw [List.append_nil] at hq
   refine zn (zf ⟨z,by rw [hq],?_⟩)
   rw [hq]
   exact hs.sub
  refine zy ?_ (by simpa using hstop)
  have hq:z2z A c off outs=(done++((if c=false\/z6w A.V b=1 then z2g b else [])++(z2z A c (z1p b) (outs.drop (i+1))).1),(z2z A c (z1p b) (outs.drop (i+1))).2):=by
   rw [hq,zql hstop]
  refine zk (λq w'=>q=(decide (c=false\/z6w A.V b=1),())/\Sat w' (pt a (.cells #[.int .i64 b.base,.int .i64 b.pid,.int .i64 b.epoch,.int .i64 b.seq,.int .i64 b.kind,.int .i64 b.time,.slice b.x.a b.x.len b.x.cap] T.a0)::slc T.a37 5 z (done.flatMap z08)::slc T.a0 7 y (outs.flatMap zr)::z10 outs::paP p A::dk A.L.d D::r)) ?_ ?_
  ·refine zw hs λw' hs=>?_
   obtain ⟨lg,t,v,hs⟩:=z58 (hs.pick [4])
   refine z0j ?_
   refine za hs ?_
   refine ze hs ?_
   cases c with
   | false =>
    refine z0o ?_ (by simp)
    refine zd ?_
    refine zf ⟨by simp,?_⟩
    have hs:Sat w' (paP p A::pt a (.cells #[.int .i64 b.base,.int .i64 b.pid,.int .i64 b.epoch,.int .i64 b.seq,.int .i64 b.kind,.int .i64 b.time,.slice b.x.a b.x.len b.x.cap] T.a0)::slc T.a37 5 z (done.flatMap z08)::slc T.a0 7 y (outs.flatMap zr)::z10 outs::dk A.L.d D::r):=z2m (lg:=lg) (t:=t) (v:=v) A hs
    exact hs.pick [1,1,1,1]
   | true =>
    refine zy ?_ (by simp)
    refine z8 (z03p (v:=v) (A:=A.V) b hs) λ_ w' hs=>?_
    obtain ⟨rfl,hs⟩:=hs
    refine zb ?_
    refine zd ?_
    refine zf ⟨?_,?_⟩
    ·have:(z6w A.V b == 1)=decide (true=false\/z6w A.V b=1):=by rw [Bool.eq_iff_iff];simp
     rw [this]
    have hs:Sat w' (paP p A::pt a (.cells #[.int .i64 b.base,.int .i64 b.pid,.int .i64 b.epoch,.int .i64 b.seq,.int .i64 b.kind,.int .i64 b.time,.slice b.x.a b.x.len b.x.cap] T.a0)::slc T.a37 5 z (done.flatMap z08)::slc T.a0 7 y (outs.flatMap zr)::z10 outs::dk A.L.d D::r):=z2m (lg:=lg) (t:=t) (v:=v) A hs
    exact hs.pick [1,1,1,1]
  clear hs
  rintro _ w ⟨rfl,hs⟩
  refine zj ?_
  have hfl:=ziu b
  refine zk (λq w'=>∃ z':Sl,q=(z',())/\Sat w' (pt a (.cells #[.int .i64 b.base,.int .i64 b.pid,.int .i64 b.epoch,.int .i64 b.seq,.int .i64 b.kind,.int .i64 b.time,.slice b.x.a b.x.len b.x.cap] T.a0)::slc T.a37 5 z' ((done++(if c=false\/z6w A.V b=1 then z2g b else [])).flatMap z08)::slc T.a0 7 y (outs.flatMap zr)::z10 outs::paP p A::dk A.L.d D::r)) ?_ ?_
  ·by_cases hd:c=false\/z6w A.V b=1
   ·refine z0o ?_ (by simpa using hd)
    rw [if_pos hd]
    refine ze hs ?_
    refine zrc hs (enc:=zr) [b] λx1 w' hs=>?_
    refine z8 (z05o x1 [b] (λb' hb'=>by rw [List.mem_singleton.1 hb'];infer_instance) (by simp) (λb' hb'=>by rw [List.mem_singleton.1 hb'];omega) hs) λ_ w' hs=>?_
    obtain ⟨z2,rfl,hs⟩:=hs
    refine zb ?_
    have e:z4x [b]=z2g b:=by simp [z4x]
    rw [e] at hs
    refine wp_app' (xs:=done) (ys:=z2g b) (enc:=z08) hs (λz3 w' hs=>?_) (by omega)
    refine zf ⟨z3,rfl,?_⟩
    exact hs.sub
   ·refine zy ?_ (by simpa using hd)
    rw [if_neg hd,List.append_nil]
    exact zf ⟨z,rfl,hs⟩
  clear hs
  rintro _ w ⟨z',rfl,hs⟩
  refine zj ?_
  refine ze hs ?_
  refine z8 (z9e b hs) λ_ w' hs=>?_
  obtain ⟨rfl,hs⟩:=hs
  refine zb ?_
  refine wp_lt ?_
  refine z27 (us':=[z'.v,.int .i64 (z1p b),.int .i64 ((i+1:Nat):Int)]) (by (try simp (disch:=omega) only [w64]);first|rfl|(congr;omega)) ?_
  refine z0w (outs.length-(i+1)) ⟨i+1,z',z1p b,done++(if c=false\/z6w A.V b=1 then z2g b else []),rfl,by omega,rfl,?_,?_,hs.sub⟩
  ·rw [List.length_append]
   split
   ·omega
   ·simp only [List.length_nil];omega
  ·rw [hq,List.append_assoc]
end
section
variable {w:World} {l r:List HP}
theorem z03j (x:Sl) (bs:List UInt8) [hx:FocR l x 1 (bs.flatMap zh)] (hcap:x.len<=x.cap) (hn:bs.length<=1000000000) (hs:Sat w l) :
  Ret P F.a43 #[x.v] w λvs w'=>∃ z:Sl,vs=[z.v,.bool (zk4 bs).isSome]/\Sat w' (slc T.a57 1 z (((zk4 bs).getD []).flatMap zh)::l) :=
 zu3 x <| by
  delta z07v Aa Ab Ag Ah Ao B3
  have hl:=hs.slen x (xs:=bs) (enc:=zh)
  refine z8 (zbp x bs hcap hn hs) λ_ _ hs=>?_
  obtain ⟨z,rfl,hs⟩:=hs
  refine zb ?_
  refine wp_lt ?_
  refine wp_lt ?_
  unfold zk4
  cases hf:z0x bs with
  | none =>
   refine z0o ?_ (by simp)
   exact ⟨rfl,⟨none,0,0⟩,rfl,(hs.tail).slc_nil⟩
  | some q =>
   obtain ⟨body,n⟩:=q
   rw [hf] at hs
   dsimp only
   refine zg (λh=>?_) λh=>?_
   ·rw [if_neg (by simp at h;omega)]
    exact ⟨rfl,⟨none,0,0⟩,rfl,(hs.tail).slc_nil⟩
   ·rw [if_pos (by simp at h;omega)]
    exact ⟨rfl,z,rfl,hs⟩
end
def ze4 (pre:ByteArray):ByteArray:=pre++ByteArray.mk #[46,115,110,97,112]
def ze5 (pre:ByteArray):ByteArray:=pre++ByteArray.mk #[46,116,109,112]
def z6y (L:LogA) (most:Int):PartA:=⟨L,most,⟨most,0,[]⟩,⟨0,[],[]⟩⟩
def z5t (L:LogA) (most:Int):PartA:=(z06 L.l).foldl z4z (z6y L most)
theorem z06o (A:PartA) (b:BatM):z4z A b.p=z4z A b:=rfl
theorem zr6:∀ (bs:List BatM) (A:PartA),(bs.map BatM.p).foldl z4z A=bs.foldl z4z A
 | [],A=>rfl
 | b::bs,A=>by
  rw [List.map_cons,List.foldl_cons,List.foldl_cons,z06o]
  exact zr6 bs _
section
variable {w:World} {l r:List HP} {p d lg t v:Nat} {A:PartA} {D:DiskA} {c1 c2 c3 c4 c5:Value}
theorem z04d (pre:ByteArray) (hp:pre.size<=100) [hf:FocB l p (.cells [c1,c2,.string pre,c3,c4,c5].toArray T.a36) r] (hs:Sat w l):Ret P F.a97 #[.pointer (some ⟨p,0,none⟩)] w λvs w'=>vs=[.string (ze4 pre)]/\Sat w' l :=
 zn7 _ <| by
  delta z00n AQ AR Ab Aj
  refine zi ?_
  refine za hs ?_
  refine wp_must (by omega) ?_
  refine wp_lt ?_
  exact ⟨rfl,rfl,hs⟩
theorem zqq (pre:ByteArray) (hp:pre.size<=100) [hf:FocB l p (.cells [c1,c2,.string pre,c3,c4,c5].toArray T.a36) r] (hs:Sat w l):Ret P F.a99 #[.pointer (some ⟨p,0,none⟩)] w λvs w'=>vs=[.string (ze5 pre)]/\Sat w' l :=
 zn9 _ <| by
  delta z00p AQ AR Ab Aj
  refine zi ?_
  refine za hs ?_
  refine wp_must (by omega) ?_
  refine wp_lt ?_
  exact ⟨rfl,rfl,hs⟩
theorem z047 (n:ByteArray) (hno:∀ f ∈ D.fs,f.name≠n) [hf:Fo l dk d D r] (hs:Sat w l):Ret P F.a100 #[.pointer (some ⟨d,0,none⟩),.string n] w λvs w'=>vs=[.bool false]/\Sat w' (dk d D::r) :=
 zna _ n <| by
  delta z00q Ab Ad Ah Ao Bt
  refine z8 (zh2 (d:=d) (A:=D) n hs) λ_ w' h=>?_
  rcases h with ⟨f,hf1,hf2,-⟩|⟨-,rfl,hs⟩
  ·exact absurd hf2 (hno f hf1)
  refine ⟨(⟨none,0,0⟩,3,()),rfl,trivial,z38 _ _ ?_⟩
  refine wp_lt ?_
  refine wp_lt ?_
  exact ⟨rfl,rfl,hs⟩
theorem zz3 (pre:ByteArray) (most:Int) (hp:pre.size<=100) (hm:1<=most/\most<=4096) (hno:∀ f ∈ D.fs,f.name≠ze4 pre) (hs:Sat w (pt p (.cells #[c1,.pointer (some ⟨d,0,none⟩),.string pre,.int .i64 most,c2,c3] T.a36)::dk d D::r)) :
  Ret P F.a95 #[.pointer (some ⟨p,0,none⟩)] w λvs w'=>vs=[.int .i64 0]/\∃ t v:Nat,Sat w' (pt p (.cells #[c1,.pointer (some ⟨d,0,none⟩),.string pre,.int .i64 most,.pointer (some ⟨t,0,none⟩),.pointer (some ⟨v,0,none⟩)] T.a36)::tb t ⟨most,0,[]⟩::vw v ⟨0,[],[]⟩::dk d D::r) :=
 zv8 _ <| by
  delta z08y AC AD AE AF AG AP AR AS AU Aa Ab Ac Ad Ah Ai Aj Ao B1 B4 BC BT Bc Bj Bt Bu
  refine zi ?_
  refine za hs ?_
  refine z8 (z06p most hs) λ_ w' h=>?_
  rcases h with ⟨-,-,t,rfl,hs⟩|⟨h,-⟩
  rotate_left
  ·omega
  refine ⟨(some ⟨t,0,none⟩,0,()),rfl,trivial,z38 _ _ ?_⟩
  refine zi ?_
  refine z02 hs λw' hs=>?_
  refine z8 (z06s hs) λ_ w' hs=>?_
  obtain ⟨v,rfl,hs⟩:=hs
  refine zb ?_
  refine zi ?_
  refine z02 hs λw' hs=>?_
  refine zk (λq w'=>q=(⟨none,0,0⟩,())/\Sat w' (pt p (.cells #[c1,.pointer (some ⟨d,0,none⟩),.string pre,.int .i64 most,.pointer (some ⟨t,0,none⟩),.pointer (some ⟨v,0,none⟩)] T.a36)::tb t ⟨most,0,[]⟩::vw v ⟨0,[],[]⟩::dk d D::r)) ?_ ?_
  ·refine zw hs λw' hs=>?_
   refine zi ?_
   refine z0z hs ?_
   refine z8 (z04d (p:=p) pre hp hs) λ_ w' hs=>?_
   obtain ⟨rfl,hs⟩:=hs
   refine zb ?_ (by first|trivial|(repeat (first|exact trivial|exact λ_=>z05 hs|exact λ_=>z0b hs|refine And.intro ?_ ?_)))
   refine zd ?_
   refine z8 (zh2 (d:=d) (A:=D) (ze4 pre) hs) λ_ w' h=>?_
   rcases h with ⟨f,hf1,hf2,-⟩|⟨-,rfl,hs⟩
   ·exact absurd hf2 (hno f hf1)
   refine ⟨(⟨none,0,0⟩,3,()),rfl,trivial,z38 _ _ ?_⟩
   refine wp_lt ?_
   refine zd ?_
   refine zf ⟨rfl,?_⟩
   exact hs.sub
  clear hs
  rintro _ w ⟨rfl,hs⟩
  refine zj ?_
  have hs:Sat w (slc T.a57 1 ⟨none,0,0⟩ (([]:List UInt8).flatMap zh)::_):=hs.slc_nil
  refine z8 (z03j ⟨none,0,0⟩ [] (Nat.le_refl _) (Nat.zero_le _) hs) λ_ w' hs=>?_
  obtain ⟨z,rfl,hs⟩:=hs
  have e:(zk4 []).isSome=false:=by kernel_rfl
  rw [e]
  refine ⟨(z,false,()),rfl,trivial,z38 _ _ ?_⟩
  refine wp_lt ?_
  refine z0o ?_ (by simp)
  exact ⟨rfl,rfl,t,v,hs.tail.tail⟩
theorem zy3 {fs:List FileA} {n:ByteArray} (hno:∀ f ∈ fs,f.name≠n):(z98 fs n).1=0:=by rw [z98,zd3 hno]
set_option maxHeartbeats 1000000 in
theorem zz4 (pre:ByteArray) (seg gap most:Int) (hp:z3w pre=true) (hc:zdy seg gap) (hm:1<=most/\most<=1024) (hg:D.gone=false) (S:List SegA) (D':DiskA) (ho:z4i pre D=(0,S,D')) (hno:∀ f ∈ D'.fs,f.name≠ze4 pre/\f.name≠ze5 pre)
  (hok:z0a 0 S) (hhas:zkf pre S D') (hlen:S.length<=1000000) (hall:(z06 S).length<=1000000) [hf:Fo l dk d D r] (hs:Sat w l) :
  Ret P F.a86 #[.pointer (some ⟨d,0,none⟩),.string pre,.agg #[.int .i64 seg,.int .i64 gap,.int .i64 most]] w λvs w'=>∃ p:Nat,vs=[.pointer (some ⟨p,0,none⟩),.int .i64 0]/\Sat w' (paP p (z5t ⟨d,pre,seg,gap,S⟩ most)::dk d D'::r) :=
 zuz _ pre seg gap most <| by
  delta z08p AB AD AF AM AO AV AW Aa Ab Ac Ad Ae Af Ag Ah Ai Am Ar Au Ay B8 BC BO Bc Bn Br Bu Bz
  have hs:=hs.perm hf.perm
  clear hf
  have hps:pre.size<=100:=by
   unfold z3w at hp
   rw [Bool.and_eq_true,decide_eq_true_eq] at hp
   omega
  refine zp hs λa0 w' hs=>?_
  refine za hs ?_
  refine za hs ?_
  refine zy ?_ (by simp;omega)
  refine zds hs (seg,gap,()) ?_
  refine z8 (z03z (d:=d) (D:=D) pre seg gap hp hc hg hs) λ_ w' hs=>?_
  rw [ho] at hs
  rcases hs with ⟨he,-,-⟩|⟨-,lg,rfl,hs⟩
  ·exact absurd rfl he
  refine ⟨(some ⟨lg,0,none⟩,0,()),rfl,trivial,z38 _ _ ?_⟩
  refine wp_lt ?_
  refine zy ?_ (by simp)
  refine za hs ?_
  refine zp hs λa10 w' hs=>?_
  have hs:Sat w' (pt a10 (.cells #[.pointer (some ⟨lg,0,none⟩),.pointer (some ⟨d,0,none⟩),.string pre,.int .i64 most,.pointer none,.pointer none] T.a36)::dk d D'::lgP lg ⟨d,pre,seg,gap,S⟩::r):=hs.sub
  refine zk (λq w'=>q=(false,())/\Sat w' (pt a10 (.cells #[.pointer (some ⟨lg,0,none⟩),.pointer (some ⟨d,0,none⟩),.string pre,.int .i64 most,.pointer none,.pointer none] T.a36)::dk d D'::lgP lg ⟨d,pre,seg,gap,S⟩::r)) ?_ ?_
  ·refine z8 (zqq (p:=a10) pre hps hs) λ_ w' hs=>?_
   obtain ⟨rfl,hs⟩:=hs
   refine zb ?_
   refine z8 (z06m (d:=d) (A:=D') (ze5 pre) hs) λ_ w' hs=>?_
   obtain ⟨rfl,hs⟩:=hs
   refine zb ?_
   rw [zy3 λf hf=>(hno f hf).2]
   refine zy ?_ (by simp)
   refine z8 (zqq (p:=a10) pre hps hs) λ_ w' hs=>?_
   obtain ⟨rfl,hs⟩:=hs
   refine zb ?_
   refine z8 (z047 (d:=d) (D:=D') (ze5 pre) (λf hf=>(hno f hf).2) hs) λ_ w' hs=>?_
   obtain ⟨rfl,hs⟩:=hs
   refine zb ?_
   exact zf ⟨rfl,hs.sub⟩
  clear hs
  rintro _ w ⟨rfl,hs⟩
  refine zj ?_
  refine zk (λq w'=>Sat w' (pt a10 (.cells #[.pointer (some ⟨lg,0,none⟩),.pointer (some ⟨d,0,none⟩),.string pre,.int .i64 most,.pointer none,.pointer none] T.a36)::dk d D'::lgP lg ⟨d,pre,seg,gap,S⟩::r)) ?_ ?_
  ·refine zy ?_ (by simp)
   exact zf hs
  clear hs
  rintro _ w hs
  refine zj ?_
  refine z8 (zz3 (p:=a10) (d:=d) (D:=D') pre most hps (by omega) (λf hf=>(hno f hf).1) hs) λ_ w' hs=>?_
  obtain ⟨rfl,t,v,hs⟩:=hs
  refine zb ?_
  refine wp_lt ?_
  refine z8 (zw5 (lg:=lg) (A:=⟨d,pre,seg,gap,S⟩) (D:=D') hok hhas hlen hall hs) λ_ w' hs=>?_
  obtain ⟨y,outs,rfl,hmap,hs⟩:=hs
  refine zb ?_
  have hmap:outs.map BatM.p=z06 S:=hmap
  have hs:Sat w' (paP a10 (z6y ⟨d,pre,seg,gap,S⟩ most)::slc T.a0 7 y (outs.flatMap zr)::z10 outs::dk d D'::r):=by
   have hs:Sat w' (slc T.a0 7 y (outs.flatMap zr)::z10 outs::lgP lg (z6y ⟨d,pre,seg,gap,S⟩ most).L::dk d D'::pt a10 (.cells #[.pointer (some ⟨lg,0,none⟩),.pointer (some ⟨(z6y ⟨d,pre,seg,gap,S⟩ most).L.d,0,none⟩),.string (z6y ⟨d,pre,seg,gap,S⟩ most).L.pre,.int .i64 (z6y ⟨d,pre,seg,gap,S⟩ most).most,.pointer (some ⟨t,0,none⟩),.pointer (some ⟨v,0,none⟩)] T.a36)::tb t (z6y ⟨d,pre,seg,gap,S⟩ most).T::vw v (z6y ⟨d,pre,seg,gap,S⟩ most).V::r):=hs
   exact z2m (lg:=lg) (t:=t) (v:=v) (z6y ⟨d,pre,seg,gap,S⟩ most) hs
  have hlo:=congrArg List.length hmap
  rw [List.length_map] at hlo
  have hly:=hs.slen y (xs:=outs) (enc:=zr)
  have hov:∀ b ∈ outs,0<=b.base:=λb hb=>by
   have h1:b.p ∈ z06 S:=by rw [<- hmap];exact List.mem_map.2 ⟨b,hb,rfl⟩
   have hv:z04 b=0:=((z9c (Int.le_refl 0) hok).valid _ h1).1
   exact (z17 b hv).2.2.1.2.1.1
  have hop:z5t ⟨d,pre,seg,gap,S⟩ most=outs.foldl z4z (z6y ⟨d,pre,seg,gap,S⟩ most):=by
   unfold z5t
   show (z06 S).foldl z4z _=_
   rw [<- hmap,zr6]
  rw [hop]
  generalize z6y ⟨d,pre,seg,gap,S⟩ most=A0 at *
  refine zk (λq w'=>Sat w' (paP a10 (outs.foldl z4z A0)::dk d D'::r)) ?_ ?_
  rotate_left
  ·rintro _ w2 hs
   refine zj ?_
   exact ⟨rfl,a10,rfl,hs⟩
  refine z09 (λm q w=>∃ i:Nat,q=((i:Int),())/\i<=outs.length/\outs.length-i=m/\Sat w (paP a10 ((outs.take i).foldl z4z A0)::slc T.a0 7 y (outs.flatMap zr)::z10 outs::dk d D'::r)) outs.length ⟨0,rfl,by omega,rfl,hs⟩ ?_
  clear hs
  rintro m _ w ⟨i,rfl,hi,hm2,hs⟩
  refine zj ?_
  refine zg (λhc2=>?_) λhc2=>?_
  rotate_left
  ·rw [List.take_of_length_le (by omega)] at hs
   refine zn (zf ?_)
   exact hs.sub
  have hil:i<outs.length:=by omega
  have hb0:=hov _ (List.getElem_mem hil)
  have hbr:FocR (z10 outs::dk d D'::r) outs[i].x 4 (outs[i].rs.flatMap z00):=zax (List.getElem_mem hil)
  have htk:outs.take (i+1)=outs.take i++[outs[i]]:=by rw [List.take_add_one,List.getElem?_eq_getElem hil,Option.toList_some]
  refine z39 hs i hil ?_
  refine zm hs λa33 w' hs=>?_
  refine zl hs λw' hs=>?_
  refine za hs ?_
  refine zk (λq w'=>Sat w' (paP a10 ((outs.take (i+1)).foldl z4z A0)::slc T.a0 7 y (outs.flatMap zr)::z10 outs::dk d D'::r)) ?_ ?_
  ·refine z0o ?_ (by simpa using hb0)
   refine ze hs ?_
   refine z8 (zqt (p:=a10) (A:=(outs.take i).foldl z4z A0) outs[i] hs) λ_ w' hs=>?_
   obtain ⟨rfl,hs⟩:=hs
   refine zb ?_
   refine zf ?_
   rw [htk,List.foldl_append,List.foldl_cons,List.foldl_nil]
   exact hs.sub
  clear hs
  rintro _ w hs
  refine zj ?_
  refine z27 (us':=[.int .i64 ((i+1:Nat):Int)]) (by (try simp (disch:=omega) only [w64]);first|rfl|(congr;omega)) ?_
  exact z0w (outs.length-(i+1)) ⟨i+1,rfl,by omega,rfl,hs⟩
end
theorem zsq (A:PartA) (D:DiskA) (b:BatM):(z0l A D b).2.1.L.d=A.L.d/\(z0l A D b).2.1.L.pre=A.L.pre/\(z0l A D b).2.1.L.seg=A.L.seg/\(z0l A D b).2.1.L.gap=A.L.gap/\(z0l A D b).2.1.most=A.most:=by
 unfold z0l
 split
 ·exact ⟨rfl,rfl,rfl,rfl,rfl⟩
 unfold zrj
 split
 ·exact ⟨rfl,rfl,rfl,rfl,rfl⟩
 split
 ·exact ⟨rfl,rfl,rfl,rfl,rfl⟩
 ·exact ⟨rfl,rfl,rfl,rfl,rfl⟩
theorem zqs {A:PartA} {D:DiskA} (b:BatM) (hp:z3w A.L.pre=true) (h:Cpl A.L.pre A.L.l D):Cpl A.L.pre (z0l A D b).2.1.L.l (z0l A D b).2.2:=by
 unfold z0l
 split
 ·exact h
 have h1:=(zfp A.L.seg [b.to (zt A.L.l)] hp h).1
 unfold zrj
 split
 ·exact h1
 split
 ·exact (z8n h1).1
 ·exact (z8n h1).1
section
variable {w:World} {l r:List HP} {p d:Nat} {A:PartA} {D:DiskA}
theorem z06a (b:BatM) {r1:List HP} [hf:Fo l paP p A r1] [hf2:Fo r1 dk A.L.d D r] (hb:FocR r b.x 4 (b.rs.flatMap z00)) (h:Cpl A.L.pre A.L.l D) (hr:b.rs.length<=1000000) (hm:z0h b=false) (hs:Sat w l) :
  Ret P F.a87 #[.pointer (some ⟨p,0,none⟩),.agg (zr b).toArray] w λvs w'=>vs=[.int .i64 (z0l A D b).1.1,.bool (z0l A D b).1.2.1,.int .i64 (z0l A D b).1.2.2]/\Sat w' (paP p (z0l A D b).2.1::dk A.L.d (z0l A D b).2.2::r):=by
 obtain ⟨h1,h2,h3⟩:=h.len
 exact zwl b hb (by omega) h.segs (λs hs=>by have:=h3 s hs;omega) hr hm hs
theorem z049 (pid epoch:Int) (commit:Bool) (time:Int) {r1:List HP} [hf:Fo l paP p A r1] [hf2:Fo r1 dk A.L.d D r] (h:Cpl A.L.pre A.L.l D) (hs:Sat w l) :
  Ret P F.a90 #[.pointer (some ⟨p,0,none⟩),.int .i64 pid,.int .i64 epoch,.bool commit,.int .i64 time] w λvs w'=>vs=[.int .i64 (z0l A D (z1q pid epoch commit time ⟨none,0,0⟩)).1.1,.bool (z0l A D (z1q pid epoch commit time ⟨none,0,0⟩)).1.2.1,.int .i64 (z0l A D (z1q pid epoch commit time ⟨none,0,0⟩)).1.2.2]/\Sat w' (paP p (z0l A D (z1q pid epoch commit time ⟨none,0,0⟩)).2.1::dk A.L.d (z0l A D (z1q pid epoch commit time ⟨none,0,0⟩)).2.2::r):=by
 obtain ⟨h1,h2,h3⟩:=h.len
 exact z046 pid epoch commit time (by omega) h.segs (λs hs=>by have:=h3 s hs;omega) hs
theorem zz8 (hst:zav A) (off most:Int) (c:Bool) (ho : -9223372036854775808<=off/\off<9223372036854775808) (hmo:most<9223372036854775808) {r1:List HP} [hf:Fo l paP p A r1] [hf2:Fo r1 dk A.L.d D r] (h:Cpl A.L.pre A.L.l D) (hs:Sat w l) :
  Ret P F.a92 #[.pointer (some ⟨p,0,none⟩),.int .i64 off,.int .i64 most,.bool c] w λvs w'=>∃ z:Sl,vs=[z.v,.int .i64 (z1v A off most c).1.2,.int .i64 (z1v A off most c).2]/\Sat w' (slc T.a37 5 z ((z1v A off most c).1.1.flatMap z08)::paP p A::dk A.L.d D::r):=by
 obtain ⟨h1,h2,h3⟩:=h.len
 exact z04c hst off most c ho hmo h.segs h.has (by omega) (by omega) hs
theorem z04a (pre:ByteArray) (seg gap most:Int) (hp:z3w pre=true) (hc:zdy seg gap) (hm:1<=most/\most<=1024) (hg:D.gone=false) {S:List SegA} (h:Cpl pre S D) (hno:∀ f ∈ D.fs,f.name≠ze4 pre/\f.name≠ze5 pre) [hf:Fo l dk d D r] (hs:Sat w l) :
  Ret P F.a86 #[.pointer (some ⟨d,0,none⟩),.string pre,.agg #[.int .i64 seg,.int .i64 gap,.int .i64 most]] w λvs w'=>∃ p:Nat,vs=[.pointer (some ⟨p,0,none⟩),.int .i64 0]/\Sat w' (paP p (z5t ⟨d,pre,seg,gap,S⟩ most)::dk d D::r):=by
 obtain ⟨h1,h2,h3⟩:=h.len
 exact zz4 pre seg gap most hp hc hm hg S D h.opened hno h.segs h.has (by omega) (by omega) hs
end
def kR:List RecM:=[⟨ByteArray.mk #[107],ByteArray.mk #[],false,0⟩]
def kB (x:Sl):BatM:=⟨0,3,0,0,1,0,x,kR⟩
def kA (d:Nat):PartA:=z6y ⟨d,aP,100,9,[]⟩ 4
def kD:DiskA:=⟨10000,-1,false,[]⟩
theorem k1 (d:Nat) (x:Sl):(z0l (kA d) kD (kB x)).1=(0,false,0):=by kernel_rfl
section
variable {d:Nat} {x:Sl} {S U:PartA × DiskA}
theorem k2 (h:S=(z0l (kA d) kD (kB x)).2):z0l S.1 S.2 (kB x)=((0,true,0),S):=by subst h;kernel_rfl
theorem k3 (h:S=(z0l (kA d) kD (kB x)).2):z1v S.1 0 9 true=(([],0),0):=by subst h;kernel_rfl
end
section
variable {w:World} {l r:List HP} {p d a:Nat} {A:PartA} {D:DiskA} {R:RefM}
theorem zsl {r1:List HP} [hf:Fo l paP p A r1] [hf2:Fo r1 dk A.L.d D r] (h:Cpl A.L.pre A.L.l D) (hs:Sat w l) :
  Ret P F.a88 #[.pointer (some ⟨p,0,none⟩)] w λvs w'=>∃ (z:Sl) (outs:List BatM),vs=[z.v]/\outs.map BatM.p=z06 A.L.l/\Sat w' (slc T.a0 7 z (outs.flatMap zr)::z10 outs::paP p A::dk A.L.d D::r) :=
 zv1 _ <| by
  delta z08r Aa Ab Ad Aj Ay Bw
  obtain ⟨h1,h2,h3⟩:=h.len
  obtain ⟨lg,t,v,hs⟩:=z58 (hs.perm (hf.perm.trans (.cons _ hf2.perm)))
  refine zy ?_ (by simp)
  refine zi ?_
  refine za hs ?_
  refine z8 (zw5 (lg:=lg) (A:=A.L) (D:=D) h.segs h.has (by omega) (by omega) hs) λ_ w' hs=>?_
  obtain ⟨z,outs,rfl,hm,hs⟩:=hs
  refine zb ?_
  have hs:Sat w' (paP p A::slc T.a0 7 z (outs.flatMap zr)::z10 outs::dk A.L.d D::r):=z2m (lg:=lg) (t:=t) (v:=v) A hs
  exact ⟨rfl,z,outs,rfl,hm,hs.pick [1,1]⟩
end
structure TbC where
 next:Int
 l:List AtM
def z0p (l:List AtM) (k:ByteArray):Nat:=(l.filter λa=>ltS a.r.key k).length
def z3i (l:List AtM) (k:ByteArray):Bool:=(l[z0p l k]?).any λa=>decide (a.r.key=k)
def z2a (T:TbC) (r:AtM):TbC:=⟨r.off+1,if z3i T.l r.r.key=true then (if r.r.gone=true then T.l.take (z0p T.l r.r.key)++T.l.drop (z0p T.l r.r.key+1) else T.l.set (z0p T.l r.r.key) r) else if r.r.gone=true then T.l else T.l.take (z0p T.l r.r.key)++r::T.l.drop (z0p T.l r.r.key)⟩
def z22:Int->List AtM->Bool
 | _,[]=>true
 | f,a::l=>if a.off<f then false else z22 (a.off+1) l
def z99 (l:List AtM):Prop:=l.Pairwise λa b=>ltS a.r.key b.r.key=true
def zdx (xs:List AtM):Bool:=xs.getLast?.any λa=>decide (a.off>1099511627776)
def z7h (T:TbC) (xs:List AtM):Int × TbC:=if z22 T.next xs=false\/zdx xs=true then (8,T) else (0,xs.foldl z2a T)
def z1k (l:List AtM) (k:ByteArray):Option AtM:=if z3i l k=true then l[z0p l k]? else none
theorem z03m (l:List AtM) (k:ByteArray):z0p l k<=l.length:=List.length_filter_le ..
theorem zy6 {l:List AtM} {k:ByteArray} {i:Nat} (hs:z99 l) (hi:i<=l.length) (h1:∀ (h:i-1<l.length),0<i->ltS l[i-1].r.key k=true) (h2:∀ h:i<l.length,ltS l[i].r.key k=false):z0p l k=i:=by
 unfold z0p
 rw [zh6 (p:=λa=>ltS a.r.key k) hi (hs.imp λ{a b} hab hb=>z7a hab hb) h1 h2,List.length_take]
 omega
theorem zbs:∀ {l:List AtM} {k:ByteArray},z99 l->(∀ a ∈ l.take (z0p l k),ltS a.r.key k=true)/\∀ a ∈ l.drop (z0p l k),ltS a.r.key k=false
 | [],k,_=>⟨λa h=>by simp at h,λa h=>by simp at h⟩
 | a::l,k,hs=>by
  obtain ⟨h1,h2⟩:=List.pairwise_cons.1 hs
  obtain ⟨i1,i2⟩:=zbs (l:=l) (k:=k) h2
  by_cases h:ltS a.r.key k=true
  ·have e:z0p (a::l) k=z0p l k+1:=by unfold z0p;rw [List.filter_cons_of_pos (by simpa using h),List.length_cons]
   rw [e,List.take_succ_cons,List.drop_succ_cons]
   refine ⟨λb hb=>?_,i2⟩
   rcases List.mem_cons.1 hb with rfl|hb
   ·exact h
   ·exact i1 b hb
  ·have h0:∀ b ∈ a::l,ltS b.r.key k=false:=λb hb=>by
    rcases List.mem_cons.1 hb with rfl|hb
    ·simpa using h
    ·cases hk:ltS b.r.key k with
     | false=>rfl
     | true=>exact absurd (z7a (h1 b hb) hk) h
   have e:z0p (a::l) k=0:=by
    unfold z0p
    rw [List.filter_eq_nil_iff.2 λb hb=>by simp [h0 b hb]];rfl
   rw [e]
   exact ⟨λb hb=>by simp at hb,λb hb=>h0 b (by simpa using hb)⟩
theorem zak {l:List AtM} {k:ByteArray}:z3i l k=true↔∃ h:z0p l k<l.length,l[z0p l k].r.key=k:=by
 unfold z3i
 by_cases h:z0p l k<l.length
 ·rw [List.getElem?_eq_getElem h];simp [h]
 ·rw [List.getElem?_eq_none (by omega)];simp [h]
theorem z03l {l:List AtM} {k:ByteArray} (hs:z99 l) (ht:z3i l k=false):∀ a ∈ l.drop (z0p l k),ltS k a.r.key=true:=λa ha=>by
 have h1:=(zbs (k:=k) hs).2
 have hd:(l.drop (z0p l k)).Pairwise λa b=>ltS a.r.key b.r.key=true:=hs.sublist (List.drop_sublist ..)
 have hnt:¬ ∃ h:z0p l k<l.length,l[z0p l k].r.key=k:=λh=>by rw [zak.2 h] at ht;cases ht
 by_cases hl:z0p l k<l.length
 ·rw [List.drop_eq_getElem_cons hl] at ha hd h1
  have h0:ltS k l[z0p l k].r.key=true:=by
   rcases zj3 k l[z0p l k].r.key with h|h|h
   ·exact h
   ·exact absurd ⟨hl,h.symm⟩ hnt
   ·rw [h1 _ (List.mem_cons_self ..)] at h;cases h
  rcases List.mem_cons.1 ha with rfl|ha
  ·exact h0
  ·exact z7a h0 ((List.pairwise_cons.1 hd).1 a ha)
 ·rw [List.drop_eq_nil_of_le (by omega)] at ha;cases ha
theorem zzq {T:TbC} (r:AtM) (hs:z99 T.l):z99 (z2a T r).l:=by
 unfold z2a
 split
 ·rename_i ht
  obtain ⟨hi,hk⟩:=zak.1 ht
  split
  ·rw [<- List.eraseIdx_eq_take_drop_succ]
   exact hs.sublist (List.eraseIdx_sublist ..)
  ·have e:(T.l.set (z0p T.l r.r.key) r).map (λa=>a.r.key)=T.l.map λa=>a.r.key:=by
    rw [List.map_set]
    apply List.ext_getElem (by simp)
    intro j h1 h2
    rw [List.getElem_set]
    split
    ·rename_i e;subst e;simp [hk]
    ·rfl
   have h1:(T.l.map λa=>a.r.key).Pairwise λa b=>ltS a b=true:=by rw [List.pairwise_map];exact hs
   rw [<- e,List.pairwise_map] at h1
   exact h1
 ·rename_i ht
  have ht:z3i T.l r.r.key=false:=by simpa using ht
  split
  ·exact hs
  ·have hg:=z03l hs ht
   obtain ⟨h1,-⟩:=zbs (k:=r.r.key) hs
   refine List.pairwise_append.2 ⟨hs.sublist (List.take_sublist ..),List.pairwise_cons.2 ⟨hg,hs.sublist (List.drop_sublist ..)⟩,λa ha b hb=>?_⟩
   rcases List.mem_cons.1 hb with rfl|hb
   ·exact h1 a ha
   ·exact z7a (h1 a ha) (hg b hb)
theorem zr0 (T:TbC) (r:AtM):(z2a T r).l.length<=T.l.length+1:=by
 unfold z2a
 have:=z03m T.l r.r.key
 split
 ·split
  ·simp only [List.length_append,List.length_take,List.length_drop];omega
  ·simp
 ·split
  ·exact Nat.le_succ _
  ·simp only [List.length_append,List.length_cons,List.length_take,List.length_drop];omega
theorem zg2:∀ (xs:List AtM) (T:TbC),(xs.foldl z2a T).l.length<=T.l.length+xs.length
 | [],T=>Nat.le_refl _
 | x::xs,T=>by
  have h1:=zg2 xs (z2a T x)
  have h2:=zr0 T x
  rw [List.foldl_cons,List.length_cons];omega
instance:EncF z08 0 (.int .i64) (λa=>a.off):=⟨λ_=>rfl⟩
instance:EncF z08 1 .str (λa=>a.r.key):=⟨λ_=>rfl⟩
def tbC (t:Nat) (C:TbC):HP:=HP.ex λz:Sl=>HP.and (z99 C.l/\C.l.length<=1000000000) (HP.star (pt t (.cells #[.int .i64 C.next,.slice z.a z.len z.cap] T.a4)) (slc T.a37 5 z (C.l.flatMap z08)))
def orC (o:Option AtM):AtM:=o.getD ⟨0,⟨ByteArray.mk #[],ByteArray.mk #[],false,0⟩⟩
instance {a:AtM} {b:Bool}:IsR (.tup [.agg [.int .i64,.str,.str,.bool,.int .i64],.one .bool]) [.agg (z08 a).toArray,.bool b] (a.off,a.r.key,a.r.value,a.r.gone,a.r.time,b,()):=⟨rfl⟩
theorem add_zero (a:Addr):Addr.add a 0=a:=rfl
section
variable {w:World} {l r r1 r2:List HP} {t:Nat} {C:TbC} {z:Sl}
theorem z9z (hs:Sat w (tbC t C::l)):∃ z:Sl,(z99 C.l/\C.l.length<=1000000000)/\Sat w (pt t (.cells #[.int .i64 C.next,.slice z.a z.len z.cap] T.a4)::slc T.a37 5 z (C.l.flatMap z08)::l):=by
 obtain ⟨z,hs⟩:=hs.ex
 obtain ⟨h,hs⟩:=hs.and
 exact ⟨z,h,hs.star⟩
theorem z6d (C:TbC) {z:Sl} (h:z99 C.l/\C.l.length<=1000000000) (hs:Sat w (pt t (.cells #[.int .i64 C.next,.slice z.a z.len z.cap] T.a4)::slc T.a37 5 z (C.l.flatMap z08)::l)):Sat w (tbC t C::l) :=
 .ex_mk z (.and_mk h (.star_mk hs))
theorem z05e (hs:Sat w l):Ret P F.a5 #[] w λvs w'=>∃ t:Nat,vs=[.pointer (some ⟨t,0,none⟩)]/\Sat w' (tbC t ⟨0,[]⟩::l) :=
 zea <| by
  unfold zed
  refine zp hs λa w' hs=>?_
  refine ⟨rfl,a,rfl,?_⟩
  have h0:Sat w' (slc T.a37 5 ⟨none,0,0⟩ (([]:List AtM).flatMap z08)::_):=hs.slc_nil
  exact z6d ⟨0,[]⟩ (z:=⟨none,0,0⟩) ⟨.nil,by decide⟩ (h0.pick [1])
theorem zxs (i:Nat) (a0 a1:Nat) (k:ByteArray) (hi:i<C.l.length) [h0:FocB l a0 (.cells [.pointer (some ⟨t,0,none⟩)].toArray T.a26) r1] [h1:FocB l a1 (.cells [.string k].toArray T.a54) r2]
  [h2:FocB l t (.cells [.int .i64 C.next,.slice z.a z.len z.cap].toArray T.a4) r] [h3:FocR l z 5 (C.l.flatMap z08)] (hs:Sat w l) :
  Ret P F.a10 #[.int .i64 (i:Int),.pointer (some ⟨a0,0,none⟩),.pointer (some ⟨a1,0,none⟩)] w λvs w'=>vs=[.bool (!ltS C.l[i].r.key k)]/\Sat w' l :=
 zxl _ _ _ <| by
  delta zf9 AC AG AQ Ab Ad Ag Aj Ao Ax B2 B5
  refine zw hs λw' hs=>?_
  refine za hs ?_
  refine zi ?_
  refine za hs ?_
  simp only [add_zero]
  refine zxc hs (xs:=C.l) (enc:=z08) i hi ?_
  refine za hs ?_
  refine wp_lt ?_
  refine zd ?_
  exact ⟨rfl,rfl,hs⟩
theorem z034 (k:ByteArray) [hf:Fo l tbC t C r] (hs:Sat w l):Ret P F.a9 #[.pointer (some ⟨t,0,none⟩),.string k] w λvs w'=>vs=[.int .i64 (z0p C.l k:Nat)]/\Sat w' (tbC t C::r) :=
 zxk _ k <| by
  delta zf8 Ab Ac Ad Ae Af Ag Ah Ai Aj Ax Bv
  obtain ⟨z,hok,hs⟩:=z9z (hs.perm hf.perm)
  have hl:=hs.slen z (xs:=C.l) (enc:=z08)
  refine zp hs λa0 w' hs=>?_
  refine zp hs λa1 w' hs=>?_
  refine za hs ?_
  refine zi ?_
  refine za hs ?_
  rw [hl]
  have hlen:=hok.2
  refine z8 (zg1 C.l.length (by omega) F.a10 #[.pointer (some ⟨a0,0,none⟩),.pointer (some ⟨a1,0,none⟩)] (λi=>!ltS (orC C.l[i]?).r.key k) (by kernel_rfl) (λi w hi hs=>?_) hs) λ_ w' hs=>?_
  ·have e:orC C.l[i]? = C.l[i]:=by rw [List.getElem?_eq_getElem hi];rfl
   simp only [e]
   exact zxs (C:=C) (t:=t) (z:=z) i a0 a1 k hi hs
  obtain ⟨i,hi,h1,h2,rfl,hs⟩:=hs
  refine zb ?_
  refine wp_lt ?_
  have e:z0p C.l k=i:=by
   refine zy6 hok.1 hi (λh h0=>?_) λh=>?_
   ·have:=h1 h0
    rw [List.getElem?_eq_getElem h] at this
    have:(!ltS C.l[i-1].r.key k)=false:=this
    simpa using this
   ·have:=h2 h
    rw [List.getElem?_eq_getElem h] at this
    have:(!ltS C.l[i].r.key k)=true:=this
    simpa using this
  refine ⟨rfl,by rw [e],?_⟩
  exact z6d C (z:=z) hok hs.sub
theorem z00e (k:ByteArray) [hf:Fo l tbC t C r] (hs:Sat w l):Ret P F.a8 #[.pointer (some ⟨t,0,none⟩),.string k] w λvs w'=>vs=[.int .i64 (z0p C.l k:Nat),.bool (z3i C.l k)]/\Sat w' (tbC t C::r) :=
 zxj _ k <| by
  delta zf7 AC AG AX Ab Ac Ad Ag Ah Ai Aj Ao Ap Ax Bh
  refine z8 (z034 (t:=t) (C:=C) k hs) λ_ w' hs=>?_
  obtain ⟨rfl,hs⟩:=hs
  refine zb ?_
  obtain ⟨z,hok,hs⟩:=z9z hs
  have hl:=hs.slen z (xs:=C.l) (enc:=z08)
  refine wp_lt ?_
  refine zw hs λw' hs=>?_
  refine zi ?_
  refine za hs ?_
  refine z0j ?_
  refine za hs ?_
  simp only [add_zero]
  refine zcf (xs:=C.l) (enc:=z08) hs (orC C.l[z0p C.l k]?).r.key (λhg=>?_) ?_
  ·have hg:z0p C.l k<C.l.length:=by rw [<- hl];simpa using hg
   exact ⟨_,hg,rfl,by rw [List.getElem?_eq_getElem hg];rfl⟩
  refine wp_lt ?_
  refine wp_lt ?_
  refine zd ?_
  refine ⟨rfl,?_,z6d C (z:=z) hok hs.sub⟩
  have e:(decide (((z0p C.l k:Nat):Int)<((z.len:Nat):Int)) && (ByteArray.toList (orC C.l[z0p C.l k]?).r.key == ByteArray.toList k))=z3i C.l k:=by
   rw [hl]
   unfold z3i
   by_cases h:z0p C.l k<C.l.length
   ·rw [List.getElem?_eq_getElem h]
    show (_ && (ByteArray.toList C.l[z0p C.l k].r.key == ByteArray.toList k))=decide (C.l[z0p C.l k].r.key=k)
    rw [decide_eq_true (by omega:((z0p C.l k:Nat):Int)<(C.l.length:Int)),Bool.true_and,Bool.eq_iff_iff,beq_iff_eq,decide_eq_true_iff]
    exact ⟨λh=>by rw [ByteArray.toList_eq,ByteArray.toList_eq] at h;exact ByteArray.ext (Array.ext' h),λh=>by rw [h]⟩
   ·rw [List.getElem?_eq_none (by omega),decide_eq_false (by omega)];rfl
  rw [e]
theorem zkr (k:ByteArray) [hf:Fo l tbC t C r] (hs:Sat w l):Ret P F.a7 #[.pointer (some ⟨t,0,none⟩),.string k] w λvs w'=>vs=[.agg (z08 (orC (z1k C.l k))).toArray,.bool (z1k C.l k).isSome]/\Sat w' (tbC t C::r) :=
 zxi _ k <| by
  delta zf6 Aa Ab Ac Ad Ag Ah Aj Ao Ar Au Ax BN BR BS Bg
  refine zm (hs.perm hf.perm) λa0 w' hs=>?_
  refine zy ?_ (by simp)
  refine z8 (z00e (t:=t) (C:=C) k hs) λ_ w' hs=>?_
  obtain ⟨rfl,hs⟩:=hs
  refine ⟨(((z0p C.l k:Nat):Int),z3i C.l k,()),rfl,trivial,z38 _ _ ?_⟩
  refine wp_lt ?_
  refine wp_lt ?_
  by_cases ht:z3i C.l k=true
  ·refine zy ?_ (by rw [ht];simp)
   obtain ⟨hi,hk⟩:=zak.1 ht
   have e:z1k C.l k=some C.l[z0p C.l k]:=by unfold z1k;rw [if_pos ht,List.getElem?_eq_getElem hi]
   obtain ⟨z,hok,hs⟩:=z9z hs
   refine zi ?_
   refine za hs ?_
   refine z39 hs (xs:=C.l) (enc:=z08) (z0p C.l k) hi ?_
   refine zl hs λw' hs=>?_
   refine ze hs ?_
   rw [e]
   exact ⟨rfl,rfl,z6d C (z:=z) hok hs.sub⟩
  ·have ht:z3i C.l k=false:=by simpa using ht
   refine z0o ?_ (by rw [ht];simp)
   have e:z1k C.l k=none:=by unfold z1k;rw [if_neg (by rw [ht];simp)]
   refine zl hs λw' hs=>?_
   refine ze hs ?_
   rw [e]
   exact ⟨rfl,rfl,hs.sub⟩
theorem zjg:∀ (xs:List AtM) (f:Int) (a:AtM),z22 f (xs++[a])=(z22 f xs && decide ((match xs.getLast? with|none=>f|some b=>b.off+1)<=a.off))
 | [],f,a=>by
  show (if a.off<f then false else true)=(true && decide (f<=a.off))
  by_cases h:a.off<f
  ·rw [if_pos h,decide_eq_false (by omega)];rfl
  ·rw [if_neg h,decide_eq_true (by omega)];rfl
 | x::xs,f,a=>by
  have ih:=zjg xs (x.off+1) a
  show (if x.off<f then false else z22 (x.off+1) (xs++[a]))=((if x.off<f then false else z22 (x.off+1) xs) && _)
  by_cases h:x.off<f
  ·rw [if_pos h,if_pos h];rfl
  ·rw [if_neg h,if_neg h,ih]
   cases xs with
   | nil=>rfl
   | cons y ys =>
    rw [List.getLast?_cons_cons]
    have:∃ u,(y::ys).getLast? = some u:=⟨_,List.getLast?_eq_some_getLast (by simp)⟩
    obtain ⟨u,hu⟩:=this
    rw [hu]
theorem zm4:∀ (xs ys:List AtM) (f:Int),z22 f xs=false->z22 f (xs++ys)=false
 | [],ys,f,h=>by cases h
 | x::xs,ys,f,h=>by
  have h:(if x.off<f then false else z22 (x.off+1) xs)=false:=h
  show (if x.off<f then false else z22 (x.off+1) (xs++ys))=false
  by_cases hx:x.off<f
  ·rw [if_pos hx]
  ·rw [if_neg hx] at h ⊢
   exact zm4 xs ys _ h
theorem z037 (f:Int) (x:Sl) (xs:List AtM) (hn:xs.length<=1000000000) [hx:FocR l x 5 (xs.flatMap z08)] (hs:Sat w l):Ret P F.a12 #[.int .i64 f,x.v] w λvs w'=>vs=[.bool (z22 f xs)]/\Sat w' l :=
 zta _ x <| by
  delta z074 AB AC AF AG AO Aa Ab Ac Ag Ah Ar Au BN BR Bz
  have hl:=hs.slen x (xs:=xs) (enc:=z08)
  refine z4b ?_
  refine z09 (λm q w=>∃ i:Nat,q=((i:Int),())/\i<=xs.length/\xs.length-i=m/\z22 f (xs.take i)=true/\Sat w l) xs.length ⟨0,rfl,by omega,rfl,rfl,hs⟩ ?_
  clear hs
  rintro m _ w ⟨i,rfl,hi,hm,hr,hs⟩
  refine zj ?_
  refine zg (λhc=>?_) λhc=>?_
  rotate_left
  ·rw [List.take_of_length_le (by omega)] at hr
   refine zn (z4w ⟨(),rfl,?_⟩)
   exact ⟨rfl,by rw [hr],hs⟩
  have hil:i<xs.length:=by omega
  have htk:xs.take (i+1)=xs.take i++[xs[i]]:=by rw [List.take_add_one,List.getElem?_eq_getElem hil,Option.toList_some]
  have hst:z22 f (xs.take (i+1))=decide ((match (xs.take i).getLast? with|none=>f|some b=>b.off+1)<=xs[i].off):=by rw [htk,zjg,hr,Bool.true_and]
  have hlast:0<i->(xs.take i).getLast? = some (xs[i-1]'(by omega)):=λh0=>by
   rw [List.getLast?_eq_getElem?,List.length_take,Nat.min_eq_left (by omega),List.getElem?_take,if_pos (by omega),List.getElem?_eq_getElem (by omega)]
  refine z39 hs i hil ?_
  refine zm hs λa8 w' hs=>?_
  refine wp_lt ?_
  refine zl hs λw' hs=>?_
  refine zw hs λw' hs=>?_
  refine za hs ?_
  refine za hs ?_
  refine zcf (xs:=xs) (enc:=z08) hs (orC xs[i-1]?).off (λhg=>?_) ?_
  ·have h0:0<i:=by have:=hg.2;simp at this;omega
   exact ⟨i-1,by omega,by rw [w64 (by omega) (by omega)];omega,by rw [List.getElem?_eq_getElem (by omega)];rfl⟩
  refine zd ?_
  have hcond:((i:Int)=0/\xs[i].off<f\/(i:Int)>0/\xs[i].off<=(orC xs[i-1]?).off)↔z22 f (xs.take (i+1))=false:=by
   rw [hst]
   by_cases h0:i=0
   ·subst h0
    show _↔decide (f<=xs[0].off)=false
    rw [decide_eq_false_iff_not]
    omega
   ·have e:orC xs[i-1]? = xs[i-1]'(by omega):=by rw [List.getElem?_eq_getElem (by omega)];rfl
    rw [e,hlast (by omega)]
    show _↔decide ((xs[i-1]'(by omega)).off+1<=xs[i].off)=false
    rw [decide_eq_false_iff_not]
    omega
  refine zg (λh=>?_) λh=>?_
  ·have h:z22 f (xs.take (i+1))=false:=hcond.1 h
   refine zn (zn ?_)
   have:=zm4 _ (xs.drop (i+1)) f h
   rw [List.take_append_drop] at this
   exact ⟨rfl,by rw [this],hs.tail⟩
  ·have h:z22 f (xs.take (i+1))=true:=by
    cases hh:z22 f (xs.take (i+1)) with
    | true=>rfl
    | false=>exact absurd (hcond.2 hh) h
   refine z27 (us':=[.int .i64 ((i+1:Nat):Int)]) (by (try simp (disch:=omega) only [w64]);first|rfl|(congr;omega)) ?_
   exact z0w (xs.length-(i+1)) ⟨i+1,rfl,by omega,rfl,h,hs.tail⟩
theorem zvi (x:Sl) (xs:List AtM) (i:Nat) (hi:i<xs.length) (hn:xs.length<=1000000000) (hs:Sat w (slc T.a37 5 x (xs.flatMap z08)::l)) :
  Ret P F.a149 #[x.v,.int .i64 (i:Int),.int .i64 ((i+1:Nat):Int)] w λvs w'=>∃ z:Sl,vs=[z.v]/\Sat w' (slc T.a37 5 z ((xs.take i++xs.drop (i+1)).flatMap z08)::l) :=
 zom x _ _ <| by
  delta z023 AC AG AH AP Aa Ab Ag Ah
  have hl:=hs.slen x (xs:=xs) (enc:=z08)
  have hcap:=hs.slc_cap
  refine wp_must (by omega) ?_
  refine zy ?_ (by simp;omega)
  refine wp_lt ?_
  refine zw hs λw' hs=>?_
  refine wp_must (by omega) ?_
  refine wp_must (by omega) ?_
  rw [Int.toNat_natCast,Int.toNat_natCast]
  have hrd:Rd w' 5 ⟨z12 x.a 5 (i+1) x.cap,x.len-(i+1),x.cap-(i+1)⟩ ((xs.drop (i+1)).flatMap z08) :=
   (FocR.post (l:=slc T.a37 5 x (xs.flatMap z08)::l) (x:=x) (sz:=5) (xs:=xs) (enc:=z08) (n:=i+1) (m:=x.cap) (c:=x.cap-(i+1)) hcap).rd w' hs
  have hs:=hs.slc_pre (n:=i) (by omega)
  rw [z8q] at hs
  have hroom:i+(x.len-(i+1))<=x.cap:=by omega
  refine z04y (x:=⟨x.a,i,x.cap⟩) (y:=⟨z12 x.a 5 (i+1) x.cap,x.len-(i+1),x.cap-(i+1)⟩) (el:=T.a37) (sz:=5) (xs:=xs.take i) (ys:=xs.drop (i+1)) (enc:=z08) hs hrd hroom (λw' hs=>?_)
  refine zd ?_
  refine wp_must (by show (0:Int)<=((i+(x.len-(i+1)):Nat):Int)/\((i+(x.len-(i+1)):Nat):Int)<=((x.len:Nat):Int)/\((x.len:Nat):Int)<=((x.cap:Nat):Int);omega) ?_
  rw [Int.toNat_natCast,Int.toNat_natCast]
  have hroom2:i+(x.len-(i+1))+(x.len-(i+(x.len-(i+1))))<=x.cap:=by omega
  refine z06x (t:=T.a46) (el:=T.a37) (x:=⟨x.a,i+(x.len-(i+1)),x.cap⟩) (n:=i+(x.len-(i+1))) (m:=x.len-(i+(x.len-(i+1)))) hs (Nat.le_refl _) hroom2 (λw' hs=>?_)
  exact ⟨rfl,_,rfl,hs⟩
theorem zvl (x v:Sl) (xs:List AtM) (a:AtM) (hn:xs.length<=1000000000) [hv:FocR l v 5 ([a].flatMap z08)] (hs:Sat w (slc T.a37 5 x (xs.flatMap z08)::l)) :
  Ret P F.a151 #[x.v,.int .i64 (xs.length:Int),v.v] w λvs w'=>∃ z:Sl,vs=[z.v]/\Sat w' (slc T.a37 5 z ((xs++[a]).flatMap z08)::l) :=
 zoo x _ v <| by
  delta z025 AC AF AG AP Aa Ab Ac Ag Ah
  have hl:=hs.slen x (xs:=xs) (enc:=z08)
  have hl2:=hs.slen v (xs:=[a]) (enc:=z08)
  refine wp_must (by omega) ?_
  refine wp_lt ?_
  refine zy ?_ (by rw [hl2];simp)
  refine wp_lt ?_
  refine z0o ?_ (by rw [hl])
  refine wp_app' (xs:=xs) (ys:=[a]) (enc:=z08) hs (λz w' hs=>?_) (by simp only [List.length_cons,List.length_nil];omega)
  exact ⟨rfl,z,rfl,hs⟩
def zbm (C:TbC) (a:AtM):Bool:=z3i C.l a.r.key || a.r.gone || decide (z0p C.l a.r.key=C.l.length)
def z8c:TbC->List AtM->Bool
 | _,[]=>true
 | C,a::xs=>zbm C a && z8c (z2a C a) xs
theorem zpw:∀ (xs:List AtM) (C:TbC) (i:Nat) (h:i<xs.length),z8c C xs=true->zbm ((xs.take i).foldl z2a C) xs[i]=true
 | x::xs,C,0,_,h=>by
  have h:(zbm C x && z8c (z2a C x) xs)=true:=h
  rw [Bool.and_eq_true] at h
  exact h.1
 | x::xs,C,i+1,hi,h=>by
  have h:(zbm C x && z8c (z2a C x) xs)=true:=h
  rw [Bool.and_eq_true] at h
  exact zpw xs (z2a C x) i (by simpa using hi) h.2
set_option maxHeartbeats 1000000 in
theorem z05f (a:AtM) (he:zbm C a=true) (hlo : -9223372036854775808<=a.off) (hhi:a.off<=1099511627776) (hlen:C.l.length<1000000000) [hf:Fo l tbC t C r] (hs:Sat w l) :
  Ret P F.a11 #[.pointer (some ⟨t,0,none⟩),.agg (z08 a).toArray] w λvs w'=>vs=[]/\Sat w' (tbC t (z2a C a)::r) :=
 zt9 _ a.off a.r.key a.r.value a.r.gone a.r.time <| by
  delta z073 AA AB AC AD AE AF AG AP AQ Aa Ab Ac Ad Ae Ag Ah Aj Ao Aq Ax Ay BN BS Bg
  refine zp (hs.perm hf.perm) λa0 w' hs=>?_
  clear hf
  refine za hs ?_
  refine z8 (z00e (t:=t) (C:=C) a.r.key hs) λ_ w' hs=>?_
  obtain ⟨rfl,hs⟩:=hs
  refine ⟨(((z0p C.l a.r.key:Nat):Int),z3i C.l a.r.key,()),rfl,trivial,z38 _ _ ?_⟩
  refine wp_lt ?_
  refine wp_lt ?_
  refine za hs ?_
  refine wp_lt ?_
  obtain ⟨z,hok,hs⟩:=z9z hs
  have hl:=hs.slen z (xs:=C.l) (enc:=z08)
  have hokS:z99 (z2a C a).l/\(z2a C a).l.length<=1000000000:=⟨zzq a hok.1,by have:=zr0 C a;omega⟩
  refine zk (λq w'=>∃ z':Sl,Sat w' (pt a0 (.cells #[.int .i64 a.off,.string a.r.key,.string a.r.value,.bool a.r.gone,.int .i64 a.r.time] T.a37)::pt t (.cells #[.int .i64 C.next,.slice z'.a z'.len z'.cap] T.a4)::slc T.a37 5 z' ((z2a C a).l.flatMap z08)::r)) ?_ ?_
  rotate_left
  ·rintro _ w2 ⟨z',hs⟩
   refine zj ?_
   refine za hs ?_
   refine zi ?_
   rw [w64 (by omega) (by omega)]
   refine z02 hs λw' hs=>?_
   have hs:Sat w' (pt t (.cells #[.int .i64 (z2a C a).next,.slice z'.a z'.len z'.cap] T.a4)::pt a0 (.cells #[.int .i64 a.off,.string a.r.key,.string a.r.value,.bool a.r.gone,.int .i64 a.r.time] T.a37)::slc T.a37 5 z' ((z2a C a).l.flatMap z08)::r):=hs
   exact ⟨rfl,rfl,z6d (z2a C a) (z:=z') hokS hs.sub⟩
  by_cases ht:z3i C.l a.r.key=true
  ·obtain ⟨hi,hk⟩:=zak.1 ht
   by_cases hg:a.r.gone=true
   ·refine z0o ?_ ⟨ht,hg⟩
    have e:(z2a C a).l=C.l.take (z0p C.l a.r.key)++C.l.drop (z0p C.l a.r.key+1):=by unfold z2a;rw [if_pos ht,if_pos hg]
    refine zi ?_
    refine za hs ?_
    rw [show IntKind.wrap .i64 (((z0p C.l a.r.key:Nat):Int)+1)=((z0p C.l a.r.key+1:Nat):Int) by rw [w64 (by omega) (by omega)];omega]
    have hs:=hs.pick [1]
    refine z8 (zvi z C.l (z0p C.l a.r.key) hi hok.2 hs) λ_ w' hs=>?_
    obtain ⟨z2,rfl,hs⟩:=hs
    refine zb ?_
    refine zi ?_
    refine z02 hs λw' hs=>?_
    refine zf ⟨z2,?_⟩
    rw [e]
    exact hs.sub
   ·have hg:a.r.gone=false:=by simpa using hg
    refine zy ?_ (by rw [hg];simp)
    have e:(z2a C a).l=C.l.set (z0p C.l a.r.key) a:=by unfold z2a;rw [if_pos ht,if_neg (by rw [hg];simp)]
    refine wp_lt ?_
    refine zk (λq w'=>Sat w' (pt a0 (.cells #[.int .i64 a.off,.string a.r.key,.string a.r.value,.bool a.r.gone,.int .i64 a.r.time] T.a37)::pt t (.cells #[.int .i64 C.next,.slice z.a z.len z.cap] T.a4)::slc T.a37 5 z ((C.l.set (z0p C.l a.r.key) a).flatMap z08)::r)) ?_ ?_
    rotate_left
    ·rintro _ w2 hs
     refine zj ?_
     refine zf ⟨z,?_⟩
     rw [e];exact hs.sub
    refine z0o ?_ ht
    refine zw hs λw' hs=>?_
    refine zi ?_
    refine za hs ?_
    refine ze hs ?_
    refine z051 hs (xs:=C.l) (enc:=z08) (z0p C.l a.r.key) hi a λw' hs=>?_
    refine zd ?_
    exact zf hs.sub
  have ht:z3i C.l a.r.key=false:=by simpa using ht
  refine zy ?_ (by rw [ht];simp)
  refine wp_lt ?_
  refine zk (λq w'=>∃ z':Sl,Sat w' (pt a0 (.cells #[.int .i64 a.off,.string a.r.key,.string a.r.value,.bool a.r.gone,.int .i64 a.r.time] T.a37)::pt t (.cells #[.int .i64 C.next,.slice z'.a z'.len z'.cap] T.a4)::slc T.a37 5 z' ((z2a C a).l.flatMap z08)::r)) ?_ ?_
  rotate_left
  ·rintro _ w2 ⟨z',hs⟩
   refine zj ?_
   exact zf ⟨z',hs⟩
  refine zy ?_ (by rw [ht];simp)
  refine za hs ?_
  refine wp_lt ?_
  refine zk (λq w'=>∃ z':Sl,Sat w' (pt a0 (.cells #[.int .i64 a.off,.string a.r.key,.string a.r.value,.bool a.r.gone,.int .i64 a.r.time] T.a37)::pt t (.cells #[.int .i64 C.next,.slice z'.a z'.len z'.cap] T.a4)::slc T.a37 5 z' ((z2a C a).l.flatMap z08)::r)) ?_ ?_
  rotate_left
  ·rintro _ w2 ⟨z',hs⟩
   refine zj ?_
   exact zf ⟨z',hs⟩
  by_cases hg:a.r.gone=true
  ·refine zy ?_ (by rw [hg];simp)
   have e:(z2a C a).l=C.l:=by unfold z2a;rw [if_neg (by rw [ht];simp),if_pos hg]
   refine zf ⟨z,?_⟩
   rw [e];exact hs.sub
  ·have hg:a.r.gone=false:=by simpa using hg
   refine z0o ?_ (by rw [hg];simp)
   have hfr:z0p C.l a.r.key=C.l.length:=by
    unfold zbm at he
    rw [ht,hg] at he
    simpa using he
   have e:(z2a C a).l=C.l++[a]:=by
    unfold z2a
    rw [if_neg (by rw [ht];simp),if_neg (by rw [hg];simp),hfr,List.take_length,List.drop_length]
   refine zk (λq w'=>∃ z':Sl,Sat w' (pt a0 (.cells #[.int .i64 a.off,.string a.r.key,.string a.r.value,.bool a.r.gone,.int .i64 a.r.time] T.a37)::pt t (.cells #[.int .i64 C.next,.slice z'.a z'.len z'.cap] T.a4)::slc T.a37 5 z' ((z2a C a).l.flatMap z08)::r)) ?_ ?_
   rotate_left
   ·rintro _ w2 ⟨z',hs⟩
    refine zj ?_
    exact zf ⟨z',hs⟩
   refine zw hs λw' hs=>?_
   refine zi ?_
   refine z0z hs ?_
   refine ze hs ?_
   refine z6r hs (enc:=z08) [a] λy w' hs=>⟨(by first|trivial|(repeat (first|exact trivial|exact λ_=>z05 hs|exact λ_=>z0b hs|refine And.intro ?_ ?_))),?_⟩
   refine zd ?_
   rw [hfr]
   have hs:Sat w' (slc T.a37 5 z (C.l.flatMap z08)::slc T.a37 5 y ([a].flatMap z08)::pt a0 (.cells #[.int .i64 a.off,.string a.r.key,.string a.r.value,.bool a.r.gone,.int .i64 a.r.time] T.a37)::pt t (.cells #[.int .i64 C.next,.slice z.a z.len z.cap] T.a4)::r):=hs.sub
   refine z8 (zvl z y C.l a hok.2 hs) λ_ w' hs=>?_
   obtain ⟨z2,rfl,hs⟩:=hs
   refine zb ?_
   refine zi ?_
   refine z02 hs λw' hs=>?_
   refine zd ?_
   refine zf ⟨z2,?_⟩
   rw [e]
   exact hs.sub
theorem zqv:∀ (xs:List AtM) (f:Int),z22 f xs=true->∀ a ∈ xs,∀ b,xs.getLast? = some b->a.off<=b.off
 | [],f,_,a,ha,_,_=>by cases ha
 | x::xs,f,h,a,ha,b,hb=>by
  have h:(if x.off<f then false else z22 (x.off+1) xs)=true:=h
  by_cases hx:x.off<f
  ·rw [if_pos hx] at h;cases h
  rw [if_neg hx] at h
  cases xs with
  | nil =>
   simp at ha hb
   subst ha hb
   omega
  | cons y ys =>
   rw [List.getLast?_cons_cons] at hb
   have ih:=zqv (y::ys) (x.off+1) h
   rcases List.mem_cons.1 ha with rfl|ha
   ·have h1:y.off<=b.off:=ih y (List.mem_cons_self ..) b hb
    have h2:(if y.off<a.off+1 then false else z22 (y.off+1) ys)=true:=h
    by_cases hy:y.off<a.off+1
    ·rw [if_pos hy] at h2;cases h2
    ·omega
   ·exact ih a ha b hb
set_option maxHeartbeats 1000000 in
theorem zxr (x:Sl) (xs:List AtM) (hlo:∀ a ∈ xs,-9223372036854775808<=a.off) (he:z8c C xs=true) (hlen:C.l.length+xs.length<=1000000000) [hf:Fo l tbC t C r] [hx:FocR r x 5 (xs.flatMap z08)] (hs:Sat w l) :
  Ret P F.a6 #[.pointer (some ⟨t,0,none⟩),x.v] w λvs w'=>vs=[.int .i64 (z7h C xs).1]/\Sat w' (tbC t (z7h C xs).2::r) :=
 zxh _ x <| by
  delta zf5 AB AD AF AM AO Aa Ab Ac Ad Ag Aj Am Ar Au Az BN BR BS Bz;unfold z7h
  have hs:=hs.perm hf.perm
  clear hf
  refine wp_lt ?_
  refine zy ?_ (by simp)
  obtain ⟨z,hok,hs⟩:=z9z hs
  have hl:=hs.slen x (xs:=xs) (enc:=z08)
  refine zi ?_
  refine za hs ?_
  refine z8 (z037 C.next x xs (by omega) hs) λ_ w' hs=>?_
  obtain ⟨rfl,hs⟩:=hs
  refine zb ?_
  have hgl:∀ h0:0<xs.length,xs.getLast? = some (xs[xs.length-1]'(by omega)):=λh0=>by
   rw [List.getLast?_eq_getElem?,List.getElem?_eq_getElem (by omega)]
  refine zcf (xs:=xs) (enc:=z08) hs (orC xs.getLast?).off (λhg=>?_) ?_
  ·have h0:0<xs.length:=by have:=hg.2;rw [hl] at this;simp at this;omega
   exact ⟨xs.length-1,by omega,by rw [hl,w64 (by omega) (by omega)];omega,by rw [hgl h0];rfl⟩
  refine wp_lt ?_
  have hcond:(!z22 C.next xs || (decide (((x.len:Nat):Int)>0) && decide ((orC xs.getLast?).off>1099511627776)))=true↔(z22 C.next xs=false\/zdx xs=true):=by
   rw [hl]
   unfold zdx
   by_cases h0:xs.length=0
   ·have e:xs=[]:=List.length_eq_zero_iff.1 h0
    subst e
    simp
   ·rw [hgl (by omega)]
    rw [decide_eq_true (by omega:((xs.length:Nat):Int)>0)]
    show (!z22 C.next xs || (true && decide ((xs[xs.length-1]'(by omega)).off>1099511627776)))=true↔(z22 C.next xs=false\/decide ((xs[xs.length-1]'(by omega)).off>1099511627776)=true)
    simp
  by_cases hc:z22 C.next xs=false\/zdx xs=true
  ·rw [if_pos hc]
   refine z3g (hcond.2 hc) ?_
   exact ⟨rfl,rfl,z6d C (z:=z) hok hs⟩
  rw [if_neg hc]
  refine z23 (by cases hh:(!z22 C.next xs || (decide (((x.len:Nat):Int)>0) && decide ((orC xs.getLast?).off>1099511627776))) with|false=>rfl|true=>exact absurd (hcond.1 hh) hc) ?_
  have hrise:z22 C.next xs=true:=by
   cases h:z22 C.next xs with
   | true=>rfl
   | false=>exact absurd (.inl h) hc
  have hhi:∀ a ∈ xs,a.off<=1099511627776:=λa ha=>by
   have h0:0<xs.length:=by
    rcases Nat.eq_zero_or_pos xs.length with h|h
    ·rw [List.length_eq_zero_iff.1 h] at ha;cases ha
    ·exact h
   have h1:=zqv xs C.next hrise a ha _ (hgl h0)
   have h2:¬ zdx xs=true:=λh=>hc (.inr h)
   unfold zdx at h2
   rw [hgl h0] at h2
   have h2:¬ decide ((xs[xs.length-1]'(by omega)).off>1099511627776)=true:=h2
   rw [decide_eq_true_iff] at h2
   omega
  have hs:Sat w' (tbC t C::r):=z6d C (z:=z) hok hs
  refine zk (λq w'=>Sat w' (tbC t (xs.foldl z2a C)::r)) ?_ ?_
  rotate_left
  ·rintro _ w2 hs
   refine zj ?_
   exact ⟨rfl,rfl,hs⟩
  refine z09 (λm q w=>∃ i:Nat,q=((i:Int),())/\i<=xs.length/\xs.length-i=m/\Sat w (tbC t ((xs.take i).foldl z2a C)::r)) xs.length ⟨0,rfl,by omega,rfl,hs⟩ ?_
  clear hs
  rintro m _ w ⟨i,rfl,hi,hm,hs⟩
  refine zj ?_
  refine zg (λhc2=>?_) λhc2=>?_
  rotate_left
  ·rw [List.take_of_length_le (by omega)] at hs
   exact zn (zf hs)
  have hil:i<xs.length:=by omega
  have htk:xs.take (i+1)=xs.take i++[xs[i]]:=by rw [List.take_add_one,List.getElem?_eq_getElem hil,Option.toList_some]
  refine z39 hs i hil ?_
  refine zm hs λa17 w' hs=>?_
  refine zl hs λw' hs=>?_
  refine ze hs ?_
  have hs:=hs.pick [1]
  refine z8 (z05f (t:=t) (C:=(xs.take i).foldl z2a C) xs[i] (zpw xs C i hil he) (hlo _ (List.getElem_mem hil)) (hhi _ (List.getElem_mem hil)) (by have:=zg2 (xs.take i) C;rw [List.length_take] at this;omega) hs) λ_ w' hs=>?_
  obtain ⟨rfl,hs⟩:=hs
  refine zb ?_
  refine z27 (us':=[.int .i64 ((i+1:Nat):Int)]) (by (try simp (disch:=omega) only [w64]);first|rfl|(congr;omega)) ?_
  refine z0w (xs.length-(i+1)) ⟨i+1,rfl,by omega,rfl,?_⟩
  rw [htk,List.foldl_append,List.foldl_cons,List.foldl_nil]
  exact hs.sub
end
abbrev LedA:=PartA × TbC
def zap (M:LedA) (D:DiskA) (b:BatM):Int × LedA × DiskA :=
 if (z0l M.1 D b).1.2.2≠0 then ((z0l M.1 D b).1.2.2,((z0l M.1 D b).2.1,M.2),(z0l M.1 D b).2.2)
 else (0,((z0l M.1 D b).2.1,(z7h M.2 (z2g (b.to (z0l M.1 D b).1.1))).2),(z0l M.1 D b).2.2)
def z5o (time:Int) (x:Sl) (rs:List RecM):BatM:=⟨0,0,0,0,0,time,x,rs⟩
def z77 (k v:ByteArray) (time:Int):RecM:=⟨k,v,false,time⟩
def zrv (k:ByteArray) (time:Int):RecM:=⟨k,ByteArray.mk #[],true,time⟩
theorem zy4 {b:BatM}:∀ a ∈ z2g b,-9223372036854775808<=a.off:=λa ha=>by
 unfold z2g at ha
 split at ha
 ·cases ha
 ·obtain ⟨i,hi,rfl⟩:=List.mem_mapIdx.1 ha
  show -9223372036854775808<=IntKind.wrap .i64 _
  rw [zi7]
  split <;> omega
section
variable {w:World} {l r:List HP} {v:Nat} {A:ViewA}
theorem z04q (f:Value) (z:Sl) (ys:List TxnA) (h1:ys.length<=1) (hs:Sat w (slc T.a15 4 z (ys.flatMap z2k)::l)) :
  Ret P F.a152 #[z.v,f] w λvs w'=>vs=[]/\Sat w' (slc T.a15 4 z (ys.flatMap z2k)::l) :=
 zop z f <| by
  delta z026 Ab Ac Ag Ah Ai Am
  have hl:=hs.slen z (xs:=ys) (enc:=z2k)
  refine wp_lt ?_
  have hlen:Ret P F.a73 #[.int .u64 (IntKind.wrap .u64 ((z.len:Nat):Int))] w λvs w'=>(∃ k:Int,vs=[.int .i64 k])/\Sat w' (slc T.a15 4 z (ys.flatMap z2k)::l):=by
   rw [zi8 (by omega) (by omega)]
   by_cases h0:z.len=0
   ·rw [h0]
    exact Ret.mono (z05z hs) λvs w' h=>⟨⟨0,h.1⟩,h.2⟩
   ·exact Ret.mono (z095 z.len (by omega) (by omega) hs) λvs w' h=>⟨by obtain ⟨⟨k,h1,-⟩,-⟩:=h;exact ⟨k,h1⟩,h.2⟩
  refine z8 hlen λ_ w' hs=>?_
  obtain ⟨⟨k,rfl⟩,hs⟩:=hs
  refine zb ?_
  refine z8 (R:=λvs w'=>vs=[]/\Sat w' (slc T.a15 4 z (ys.flatMap z2k)::l)) ?_ λ_ w' hs=>?_
  ·refine zor z _ _ _ _ ?_
   delta z028 AB AC AF AG AI AL AM Aa Ab Ac Ag Ah Ai Am Ao Bb Bc Bd Be Bf Bg
   refine z09 (λm q w=>q=(0,((z.len:Nat):Int),k,true,true,())/\Sat w (slc T.a15 4 z (ys.flatMap z2k)::l)) 0 ⟨rfl,hs⟩ ?_
   clear hs
   rintro m _ w ⟨rfl,hs⟩
   refine z2t _ _ _ _ _ ?_
   refine z4b ?_
   rw [w64 (by omega) (by omega)]
   refine wp_lt ?_
   refine z0o ?_ (by omega)
   refine z8 (R:=λvs w'=>vs=[]/\Sat w' (slc T.a15 4 z (ys.flatMap z2k)::l)) ?_ λ_ w' hs=>?_
   ·refine zoq z _ _ _ ?_
    delta z027 AB AC AE AF AG AO Aa Ab Ac Ag Ah Bc Bd Be Bf Bi
    rw [w64 (by omega) (by omega)]
    refine wp_lt ?_
    refine zk (λq w'=>Sat w' (slc T.a15 4 z (ys.flatMap z2k)::l)) ?_ ?_
    ·refine z09 (λm q w=>q=(0+1,())/\Sat w (slc T.a15 4 z (ys.flatMap z2k)::l)) 0 ⟨rfl,hs⟩ ?_
     clear hs
     rintro m _ w ⟨rfl,hs⟩
     refine zj ?_
     refine zy ?_ (by omega)
     exact zn (zf hs)
    clear hs
    rintro _ w hs
    refine zj ?_
    exact ⟨rfl,rfl,hs⟩
   obtain ⟨rfl,hs⟩:=hs
   refine zb ?_
   refine zn (zn ?_)
   exact ⟨rfl,rfl,hs⟩
  obtain ⟨rfl,hs⟩:=hs
  refine zb ?_
  exact ⟨rfl,rfl,hs⟩
theorem zyb [hf:Fo l vw v A r] (h1:A.op.length<=1) (hs:Sat w l):Ret P F.a61 #[.pointer (some ⟨v,0,none⟩)] w λvs w'=>∃ z:Sl,vs=[z.v]/\Sat w' (slc T.a15 4 z (A.op.flatMap z2k)::vw v A::r) :=
 zuh _ <| by
  delta z005 AP AS Aa Ab Af Aj Ak Am Ar Au BG BH Be
  obtain ⟨m1,m2,hok,hs⟩:=z9i (hs.perm hf.perm)
  have hmany:=hok.many
  refine zy ?_ (by simp)
  refine zi ?_
  refine za hs ?_
  refine zjw hs λit w' hs=>?_
  refine zk (λx w'=>∃ (z:Sl) (ys:List TxnA),x=(z,())/\ys.Perm A.op/\Sat w' (slc T.a15 4 z (ys.flatMap z2k)::vw v A::r)) ?_ ?_
  ·refine z09 (λk x w=>∃ (z:Sl) (ys:List TxnA) (todo:List (Int × TxnA)) (last:Option (Int × TxnA)),x=(z,())/\todo.length=k/\(ys++todo.map Prod.snd).Perm A.op /\
    Sat w (slc T.a15 4 z (ys.flatMap z2k)::itP ekI evX it m1 (opK A) todo last::pt v (.cells #[.int .i64 A.next,.map (some m1),.map (some m2)] T.a16)::z1b ekK evX m2 (faK A)::r)) (opK A).length
    ⟨⟨none,0,0⟩,[],opK A,none,rfl,rfl,by rw [List.nil_append,opK,List.map_map];exact .of_eq (List.map_id _),hs.slc_nil⟩ ?_
   clear hs
   rintro k _ w ⟨z,ys,todo,last,rfl,hk,hperm,hs⟩
   have hlen:=hperm.length_eq
   rw [List.length_append,List.length_map] at hlen
   refine zj ?_
   refine zmq hs (λk t=>(k,t.pid,t.epoch,t.first,t.last,())) (λkk t todo' w' hp hs=>?_) λh0=>?_
   ·refine z2t kk t.pid t.epoch t.first t.last ?_
    refine zrf hs (kk,t.pid,t.epoch,t.first,t.last,()) ?_
    refine z2t kk t.pid t.epoch t.first t.last ?_
    refine zm hs λc w' hs=>?_
    refine zl hs λw' hs=>?_
    refine ze hs ?_
    refine z8 (z04v t hs) λ_ _ hs=>?_
    obtain ⟨rfl,hs⟩:=hs
    refine zb ?_
    refine z5m hs (xs:=ys) (enc:=z2k) t (λz w' hs=>?_)
    refine z0w todo'.length ?_ (by rw [<- hk,hp.length_eq,List.length_cons];omega)
    refine ⟨z,ys++[t],todo',some (kk,t),rfl,rfl,?_,hs.sub⟩
    rw [List.append_assoc,List.singleton_append]
    exact ((List.Perm.append_left ys (hp.map Prod.snd)).symm).trans hperm
   ·refine zn (zf ⟨z,ys,rfl,?_,?_⟩)
    ·subst h0
     rw [List.map_nil,List.append_nil] at hperm
     exact hperm
    ·have hs:=(hs.pick [1]).itDone
     have hs:Sat w (vw v A::slc T.a15 4 z (ys.flatMap z2k)::r):=z4v m1 m2 hok hs
     exact hs.pick [1]
  clear hs
  rintro _ w ⟨z,ys,rfl,hperm,hs⟩
  refine zj ?_
  have hy:ys=A.op:=by
   have hlen:=hperm.length_eq
   cases hop:A.op with
   | nil=>rw [hop] at hperm;exact hperm.eq_nil
   | cons t ts =>
    rw [hop] at hperm h1
    have:ts=[]:=by simpa using h1
    subst this
    exact List.perm_singleton.1 hperm
  rw [hy] at hs
  refine z8 (z04q _ z A.op h1 hs) λ_ w' h=>?_
  obtain ⟨rfl,hs⟩:=h
  refine zb ?_
  exact ⟨rfl,z,rfl,hs⟩
end
section
variable {w:World} {l r:List HP} {p:Nat} {A:PartA}
theorem zso [hf:Fo l paP p A r] (h1:A.V.op.length<=1) (hlen:A.L.l.length<=1000000000) (hs:Sat w l):Ret P F.a93 #[.pointer (some ⟨p,0,none⟩)] w λvs w'=>vs=[.int .i64 (z5n A)]/\Sat w' (paP p A::r) :=
 zv6 _ <| by
  delta z08w Aa Ab Ac Ad Ag Ah Ai Aj Ay Bw;unfold z5n
  obtain ⟨lg,t,v,hs⟩:=z58 (hs.perm hf.perm)
  refine zy ?_ (by simp)
  refine zi ?_
  refine za hs ?_
  refine z8 (zyb (v:=v) (A:=A.V) h1 hs) λ_ w' hs=>?_
  obtain ⟨z,rfl,hs⟩:=hs
  refine zb ?_
  have hz:=hs.slen z (xs:=A.V.op) (enc:=z2k)
  refine zg (λh=>?_) λh=>?_
  ·have h0:A.V.op.length=0:=by simpa [hz] using h
   rw [if_pos h0]
   have hs:Sat w' (paP p A::r):=z2m A hs
   refine z8 (zqo (p:=p) (A:=A) hlen hs) λ_ w' hs=>?_
   obtain ⟨rfl,hs⟩:=hs
   refine zb ?_
   refine wp_lt ?_
   exact ⟨rfl,rfl,hs⟩
  ·have h0:¬ A.V.op.length=0:=by simpa [hz] using h
   rw [if_neg h0]
   refine zi ?_
   refine za hs ?_
   refine z8 (zj0 (v:=v) (A:=A.V) hs) λ_ w' hs=>?_
   obtain ⟨rfl,hs⟩:=hs
   refine zb ?_
   have hs:Sat w' (paP p A::r):=z2m A hs
   refine z8 (zlx (p:=p) (A:=A) hs) λ_ w' hs=>?_
   obtain ⟨rfl,hs⟩:=hs
   refine zb ?_
   refine wp_lt ?_
   refine ⟨rfl,?_,hs⟩
   have e:(if z15 A.L.l>z6q A.V then z15 A.L.l else z6q A.V)=max (z6q A.V) (z15 A.L.l):=by split <;> omega
   rw [e]
theorem zmh {A:PartA} (h1:A.V.op.length<=1):zav A:=λ{w l r p} hf hlen hs=>@zso w l r p A hf h1 hlen hs
end
theorem gdk {w:World} {d e:Nat} {D:DiskA} {X:HP} {l:List HP} (h:d=e) (hs:Sat w (X::dk d D::l)):Sat w (X::dk e D::l):=by rw [<- h];exact hs
theorem zr5:∀ (bs:List BatM) (A:PartA),(bs.foldl z4z A).L=A.L
 | [],A=>rfl
 | b::bs,A=>by rw [List.foldl_cons,zr5 bs];rfl
theorem z044 (L:LogA) (most:Int):(z5t L most).L=L:=by unfold z5t;rw [zr5];rfl
section
variable {w:World} {l r r1 r2 r3 l':List HP} {b d t p:Nat} {M:LedA} {D:DiskA}
def s13 (seg:Int):Int:=64+(if Int.tmod seg 200<0 then 0-Int.tmod seg 200 else Int.tmod seg 200)
theorem z06j (seg:Int):64<=s13 seg/\s13 seg<=263:=by
 have h1:=Int.lt_tmod_of_pos seg (b:=200) (by omega)
 have h2:=Int.tmod_lt_of_pos seg (b:=200) (by omega)
 unfold s13
 split <;> omega
end
def gP:ByteArray:=ByteArray.mk #[120]
def gM (d:Nat):LedA:=(z5t ⟨d,gP,64,30,[]⟩ 2,⟨0,[]⟩)
def gD:DiskA:=⟨65536,-1,false,[]⟩
abbrev gA:ByteArray:=ByteArray.mk #[97]
abbrev gB:ByteArray:=ByteArray.mk #[98]
theorem g1 (d:Nat) (x:Sl):(zap (gM d) gD (z5o 0 x [z77 gA (ByteArray.mk #[49]) 0])).1=0/\z8c (gM d).2 (z2g ((z5o 0 x [z77 gA (ByteArray.mk #[49]) 0]).to (z0l (gM d).1 gD (z5o 0 x [z77 gA (ByteArray.mk #[49]) 0])).1.1))=true:=⟨by kernel_rfl,by kernel_rfl⟩
section
variable {d:Nat} {x1 x2 x3 x4:Sl} {S U V W:LedA × DiskA}
theorem g2 (x:Sl) (h:S=(zap (gM d) gD (z5o 0 x1 [z77 gA (ByteArray.mk #[49]) 0])).2):(zap S.1 S.2 (z5o 0 x [z77 gA (ByteArray.mk #[50]) 0])).1=0/\z8c S.1.2 (z2g ((z5o 0 x [z77 gA (ByteArray.mk #[50]) 0]).to (z0l S.1.1 S.2 (z5o 0 x [z77 gA (ByteArray.mk #[50]) 0])).1.1))=true/\S.1.2.l.length=1:=by subst h;exact ⟨by kernel_rfl,by kernel_rfl,by kernel_rfl⟩
theorem g3 (x:Sl) (h:S=(zap (gM d) gD (z5o 0 x1 [z77 gA (ByteArray.mk #[49]) 0])).2) (h2:U=(zap S.1 S.2 (z5o 0 x2 [z77 gA (ByteArray.mk #[50]) 0])).2):(zap U.1 U.2 (z5o 0 x [z77 gB (ByteArray.mk #[120]) 0])).1=0/\z8c U.1.2 (z2g ((z5o 0 x [z77 gB (ByteArray.mk #[120]) 0]).to (z0l U.1.1 U.2 (z5o 0 x [z77 gB (ByteArray.mk #[120]) 0])).1.1))=true/\U.1.2.l.length=1:=by subst h h2;exact ⟨by kernel_rfl,by kernel_rfl,by kernel_rfl⟩
theorem g4 (x:Sl) (h:S=(zap (gM d) gD (z5o 0 x1 [z77 gA (ByteArray.mk #[49]) 0])).2) (h2:U=(zap S.1 S.2 (z5o 0 x2 [z77 gA (ByteArray.mk #[50]) 0])).2) (h3:V=(zap U.1 U.2 (z5o 0 x3 [z77 gB (ByteArray.mk #[120]) 0])).2) :
  (z1k V.1.2.l gB).isSome=true/\(zap V.1 V.2 (z5o 1 x [zrv gB 1])).1=0/\z8c V.1.2 (z2g ((z5o 1 x [zrv gB 1]).to (z0l V.1.1 V.2 (z5o 1 x [zrv gB 1])).1.1))=true/\V.1.2.l.length=2:=by subst h h2 h3;exact ⟨by kernel_rfl,by kernel_rfl,by kernel_rfl,by kernel_rfl⟩
end
instance (r:RecM) (c:ComM):Decidable (z4r r c):=by unfold z4r;infer_instance
def zk1 (r:RecM):ComM:=⟨z4y (r.key.extract 1 r.key.size).data.toList,(zv (some r.value.data.toList)).1,(zv (zv (some r.value.data.toList)).2).1,(zv (zv (zv (some r.value.data.toList)).2).2).1⟩
def z8y (r:RecM):Option ComM:=if z4r r (zk1 r) then some (zk1 r) else none
theorem zlv {r:RecM} {c:ComM}:z8y r=some c↔z4r r c:=by
 unfold z8y
 constructor
 ·intro h
  split at h
  ·rename_i h1
   rw [<- Option.some.inj h];exact h1
  ·cases h
 ·intro h
  have e:zk1 r=c:=by
   obtain ⟨h1,h2,h3⟩:=z8k h
   obtain ⟨q1,q2,q3,-⟩:=zdq h.1
   obtain ⟨q0,q5,q6,q7⟩:=h.1
   unfold zk1
   rw [h2,h3,zjb q0,q1,q2,q3]
   obtain ⟨a,b,d,e⟩:=c
   simp only at q5 q6 q7
   congr 1 <;> simp only <;> omega
  rw [e,if_pos h]
theorem zdh {r:RecM} {c:ComM} {e:Int} (h:zg8 r c e):(e=0/\z8y r=some c)\/(e=6/\c=com0/\z8y r=none):=by
 rcases h with ⟨h1,h2⟩|⟨h1,h2,h3⟩
 ·exact .inl ⟨h1,zlv.2 h2⟩
 ·refine .inr ⟨h1,h2,?_⟩
  cases hp:z8y r with
  | none=>rfl
  | some c'=>exact absurd (zlv.1 hp) (h3 c')
structure OffA where
 A:PartA
 at_:Int
 C:TbC
def ofP (b:Nat) (M:OffA):HP:=HP.ex λq:Nat × Nat=>HP.star (pt b (.cells #[.pointer (some ⟨q.2,0,none⟩),.int .i64 M.at_,.pointer (some ⟨q.1,0,none⟩)] T.a24)) (HP.star (tbC q.1 M.C) (paP q.2 M.A))
def z3a (C:TbC) (a:AtM):TbC:=if (z8y a.r).isSome=true then (z7h C [a]).2 else C
def zgj {β:Type} (ok:β->AtM->Bool) (st:β->AtM->β):β->List AtM->Bool
 | _,[]=>true
 | C,a::xs=>ok C a && zgj ok st (st C a) xs
theorem zl0 {β:Type} (ok:β->AtM->Bool) (st:β->AtM->β):∀ (xs:List AtM) (C:β) (i:Nat) (h:i<xs.length),zgj ok st C xs=true->ok ((xs.take i).foldl st C) xs[i]=true
 | x::xs,C,0,_,h=>by
  have h:(ok C x && zgj ok st (st C x) xs)=true:=h
  rw [Bool.and_eq_true] at h
  exact h.1
 | x::xs,C,i+1,hi,h=>by
  have h:(ok C x && zgj ok st (st C x) xs)=true:=h
  rw [Bool.and_eq_true] at h
  exact zl0 ok st xs (st C x) i (by simpa using hi) h.2
def okK (C:TbC) (a:AtM):Bool:=(z8y a.r).isNone || zbm C a
abbrev endsK:TbC->List AtM->Bool:=zgj okK z3a
def z8g (M:OffA):OffA:=if (z1v M.A M.at_ 1099511627776 true).2≠0 then M else ⟨M.A,(z1v M.A M.at_ 1099511627776 true).1.2,(z1v M.A M.at_ 1099511627776 true).1.1.foldl z3a M.C⟩
theorem zvd (C:TbC) (xs:List AtM):(z7h C xs).2.l.length<=C.l.length+xs.length:=by
 unfold z7h
 split
 ·exact Nat.le_add_right _ _
 ·exact zg2 xs C
theorem zvc (C:TbC) (a:AtM):(z3a C a).l.length<=C.l.length+1:=by
 unfold z3a
 split
 ·exact zvd C [a]
 ·exact Nat.le_succ _
theorem zgc:∀ (xs:List AtM) (C:TbC),(xs.foldl z3a C).l.length<=C.l.length+xs.length
 | [],C=>Nat.le_refl _
 | x::xs,C=>by
  have h1:=zgc xs (z3a C x)
  have h2:=zvc C x
  rw [List.foldl_cons,List.length_cons];omega
theorem zly {A:PartA} {c:Bool} {a:AtM}:∀ (bs:List BatM) (n:Int),a ∈ (z2z A c n bs).1->∃ b ∈ bs,a ∈ z2g b
 | [],n,h=>by cases h
 | b::bs,n,h=>by
  by_cases hs:c=true/\b.base>=z5n A
  ·rw [zjc hs] at h;cases h
  rw [zql hs] at h
  rcases List.mem_append.1 h with h|h
  ·split at h
   ·exact ⟨b,List.mem_cons_self ..,h⟩
   ·cases h
  ·obtain ⟨d,h1,h2⟩:=zly bs _ h
   exact ⟨d,List.mem_cons_of_mem _ h1,h2⟩
theorem zy5 {b:BatM} {a:AtM} (h:a ∈ z2g b):a.r ∈ b.rs:=by
 unfold z2g at h
 split at h
 ·cases h
 ·obtain ⟨i,hi,rfl⟩:=List.mem_mapIdx.1 h
  exact List.getElem_mem hi
theorem zws {l:List SegA} {off most:Int} {b:BatM} (hok:z0a 0 l) (h:b ∈ (z4l l off most).2):∀ r ∈ b.rs,z1z r=0:=by
 unfold z4l at h
 split at h
 ·cases h
 split at h
 ·cases h
 ·obtain ⟨c,hc,hf⟩:=List.mem_filterMap.1 (List.mem_of_mem_take h)
  have hv:=((z9c (Int.le_refl 0) hok).valid c hc).1
  have hr:=(z26 hv).2
  unfold z0n at hf
  split at hf
  ·cases hf
  split at hf
  ·cases hf;exact hr
  ·cases hf
   exact λr h=>hr r (List.mem_of_mem_drop h)
theorem zz9 {A:PartA} {off most:Int} {c:Bool} (hok:z0a 0 A.L.l) {a:AtM} (h:a ∈ (z1v A off most c).1.1) : -9223372036854775808<=a.off/\z1z a.r=0:=by
 unfold z1v at h
 split at h
 ·cases h
 ·obtain ⟨b,h1,h2⟩:=zly _ _ h
  exact ⟨zy4 a h2,zws hok h1 _ (zy5 h2)⟩
section
variable {w:World} {l r r1 r2 r3 l':List HP} {b d t p:Nat} {M:OffA} {D:DiskA}
theorem zb8 (hs:Sat w (ofP b M::l)):∃ t p:Nat,Sat w (pt b (.cells #[.pointer (some ⟨p,0,none⟩),.int .i64 M.at_,.pointer (some ⟨t,0,none⟩)] T.a24)::tbC t M.C::paP p M.A::l):=by
 obtain ⟨⟨t,p⟩,hs⟩:=hs.ex
 have hs:=hs.star
 have hs:=(hs.pick [1]).star
 exact ⟨t,p,hs.pick [2]⟩
theorem zk3 (t p:Nat) (hs:Sat w (pt b (.cells #[.pointer (some ⟨p,0,none⟩),.int .i64 M.at_,.pointer (some ⟨t,0,none⟩)] T.a24)::tbC t M.C::paP p M.A::l)):Sat w (ofP b M::l):=by
 have h1:=(hs.pick [1,1]).star_mk
 exact .ex_mk (t,p) ((h1.pick [1]).star_mk)
theorem zc3 (M:OffA) (hs:Sat w l) [h1:FocB l b (.cells [.pointer (some ⟨p,0,none⟩),.int .i64 M.at_,.pointer (some ⟨t,0,none⟩)].toArray T.a24) r1] [h2:Fo r1 tbC t M.C r2] [h3:Fo r2 paP p M.A r3] [h4:Sub r3 l']:Sat w (ofP b M::l'):=by
 have hs:=hs.perm (h1.perm.trans (.cons _ (h2.perm.trans (.cons _ h3.perm))))
 have hs:Sat w (ofP b M::r3):=zk3 t p hs
 exact hs.sub
set_option maxHeartbeats 1000000 in
theorem zqj {r1:List HP} [hf:Fo l ofP b M r1] [hf2:Fo r1 dk M.A.L.d D r] (h:Cpl M.A.L.pre M.A.L.l D) (hat : -9223372036854775808<=M.at_/\M.at_<9223372036854775808)
  (hend:endsK M.C (z1v M.A M.at_ 1099511627776 true).1.1=true) (hlen:M.C.l.length+(z1v M.A M.at_ 1099511627776 true).1.1.length<=1000000) (hst:zav M.A) (hs:Sat w l) :
  Ret P F.a80 #[.pointer (some ⟨b,0,none⟩)] w λvs w'=>vs=[]/\Sat w' (ofP b (z8g M)::dk M.A.L.d D::r) :=
 zut _ <| by
  delta z08j AB AC AD AE AF AG AO AP Aa Ab Ac Ad Ag Ah Ai Aj Ar Au B4 BJ BN BR BS Be Bo Bp Bw;unfold z8g
  have hs:=hs.perm (hf.perm.trans (.cons _ hf2.perm))
  clear hf hf2
  obtain ⟨t,p,hs⟩:=zb8 hs
  refine zw hs λw' hs=>?_
  refine zi ?_
  refine za hs ?_
  refine zi ?_
  refine za hs ?_
  have hs:Sat w' (paP p M.A::dk M.A.L.d D::pt b (.cells #[.pointer (some ⟨p,0,none⟩),.int .i64 M.at_,.pointer (some ⟨t,0,none⟩)] T.a24)::tbC t M.C::r):=hs.sub
  refine z8 (zz8 (p:=p) (A:=M.A) (D:=D) hst M.at_ 1099511627776 true hat (by omega) h hs) λ_ w' hs=>?_
  obtain ⟨z,rfl,hs⟩:=hs
  have hpo:∀ a ∈ (z1v M.A M.at_ 1099511627776 true).1.1,-9223372036854775808<=a.off/\z1z a.r=0:=λa ha=>zz9 h.segs ha
  generalize z1v M.A M.at_ 1099511627776 true=q at hs hend hlen hpo ⊢
  obtain ⟨⟨xs,n⟩,e⟩:=q
  simp only at hs hend hlen hpo ⊢
  refine ⟨(z,n,e,()),rfl,trivial,zhd _ _ _ ?_⟩
  refine wp_lt ?_
  refine wp_lt ?_
  refine zd ?_
  refine zg (λhe=>?_) λhe=>?_
  ·rw [if_pos (by simpa using he)]
   exact ⟨rfl,rfl,zc3 (t:=t) (p:=p) M hs⟩
  rw [if_neg (by simpa using he)]
  have hzl:=hs.slen z (xs:=xs) (enc:=z08)
  have hs:Sat w' (slc T.a37 5 z (xs.flatMap z08)::pt b (.cells #[.pointer (some ⟨p,0,none⟩),.int .i64 M.at_,.pointer (some ⟨t,0,none⟩)] T.a24)::tbC t M.C::paP p M.A::dk M.A.L.d D::r):=hs.sub
  refine zk (λq w'=>Sat w' (pt b (.cells #[.pointer (some ⟨p,0,none⟩),.int .i64 M.at_,.pointer (some ⟨t,0,none⟩)] T.a24)::tbC t (xs.foldl z3a M.C)::paP p M.A::dk M.A.L.d D::r)) ?_ ?_
  rotate_left
  ·rintro _ w2 hs
   refine zj ?_
   refine zi ?_
   refine z02 hs λw' hs=>?_
   exact ⟨rfl,rfl,zc3 (t:=t) (p:=p) ⟨M.A,n,xs.foldl z3a M.C⟩ hs⟩
  refine z09 (λm q w=>∃ i:Nat,q=((i:Int),())/\i<=xs.length/\xs.length-i=m/\Sat w (slc T.a37 5 z (xs.flatMap z08)::pt b (.cells #[.pointer (some ⟨p,0,none⟩),.int .i64 M.at_,.pointer (some ⟨t,0,none⟩)] T.a24)::tbC t ((xs.take i).foldl z3a M.C)::paP p M.A::dk M.A.L.d D::r)) xs.length
   ⟨0,rfl,by omega,rfl,hs⟩ ?_
  clear hs
  rintro m _ w ⟨i,rfl,hi,hm,hs⟩
  refine zj ?_
  refine zg (λhc=>?_) λhc=>?_
  rotate_left
  ·rw [List.take_of_length_le (by omega)] at hs
   exact zn (zf hs.sub)
  have hil:i<xs.length:=by omega
  have htk:(xs.take (i+1)).foldl z3a M.C=z3a ((xs.take i).foldl z3a M.C) xs[i]:=by rw [List.take_add_one,List.getElem?_eq_getElem hil,Option.toList_some,List.foldl_append,List.foldl_cons,List.foldl_nil]
  have hal:=zgc (xs.take i) M.C
  rw [List.length_take] at hal
  have hea:okK ((xs.take i).foldl z3a M.C) xs[i]=true:=zl0 okK z3a xs M.C i hil hend
  have hpa:=hpo _ (List.getElem_mem hil)
  generalize (xs.take i).foldl z3a M.C=C at *
  refine z39 hs i hil ?_
  generalize xs[i]=a at *
  refine zm hs λa19 w' hs=>?_
  refine zl hs λw' hs=>?_
  refine zds hs (a.r.key,a.r.value,a.r.gone,a.r.time,()) ?_
  refine z8 (zba a.r (by have:=(z3p hpa.2).2.1;omega) hs) λ_ w' hs=>?_
  obtain ⟨c,e',rfl,hp,hs⟩:=hs
  refine ⟨(c.part,c.off,c.mem,c.gen,e',()),rfl,trivial,z2t _ _ _ _ _ ?_⟩
  refine zm hs λa29 w' hs=>?_
  refine zl hs λw' hs=>?_
  refine wp_lt ?_
  refine zk (λq w'=>Sat w' (slc T.a37 5 z (xs.flatMap z08)::pt b (.cells #[.pointer (some ⟨p,0,none⟩),.int .i64 M.at_,.pointer (some ⟨t,0,none⟩)] T.a24)::tbC t (z3a C a)::paP p M.A::dk M.A.L.d D::r)) ?_ ?_
  rotate_left
  ·rintro _ w2 hs
   refine zj ?_
   refine z27 (us':=[.int .i64 ((i+1:Nat):Int)]) (by (try simp (disch:=omega) only [w64]);first|rfl|(congr;omega)) ?_
   refine z0w (xs.length-(i+1)) ⟨i+1,rfl,by omega,rfl,?_⟩
   rw [htk];exact hs
  rcases zdh hp with ⟨rfl,hpk⟩|⟨rfl,-,hpk⟩
  rotate_left
  ·refine zy ?_ (by simp)
   have e:z3a C a=C:=by unfold z3a;rw [hpk];rfl
   rw [e]
   exact zf hs.sub
  have heb:z8c C [a]=true:=by
   unfold okK at hea
   rw [hpk] at hea
   have hea:zbm C a=true:=hea
   show (zbm C a && true)=true
   rw [hea];rfl
  refine z0o ?_ (by simp)
  have e:z3a C a=(z7h C [a]).2:=by unfold z3a;rw [hpk];rfl
  rw [e]
  refine zk (λq w'=>Sat w' (slc T.a37 5 z (xs.flatMap z08)::pt b (.cells #[.pointer (some ⟨p,0,none⟩),.int .i64 M.at_,.pointer (some ⟨t,0,none⟩)] T.a24)::tbC t (z7h C [a]).2::paP p M.A::dk M.A.L.d D::r)) ?_ ?_
  rotate_left
  ·rintro _ w2 hs
   refine zj ?_
   exact zf hs
  refine zw hs λw' hs=>?_
  refine zi ?_
  refine z0z hs ?_
  refine ze hs ?_
  refine z6r hs (enc:=z08) [a] λy w' hs=>⟨(by first|trivial|(repeat (first|exact trivial|exact λ_=>z05 hs|exact λ_=>z0b hs|refine And.intro ?_ ?_))),?_⟩
  refine zd ?_
  have hs:Sat w' (tbC t C::slc T.a37 5 y ([a].flatMap z08)::slc T.a37 5 z (xs.flatMap z08)::pt b (.cells #[.pointer (some ⟨p,0,none⟩),.int .i64 M.at_,.pointer (some ⟨t,0,none⟩)] T.a24)::paP p M.A::dk M.A.L.d D::r):=hs.sub
  refine z8 (zxr (t:=t) (C:=C) y [a] (λa' ha=>by rw [List.mem_singleton.1 ha];exact hpa.1) heb (by simp only [List.length_cons,List.length_nil];omega) hs) λ_ w' hs=>?_
  obtain ⟨rfl,hs⟩:=hs
  refine zb ?_
  refine zd ?_
  exact zf hs.sub
end
def z7n (pid epoch seq time:Int) (z:Sl) (cs:List ComM):BatM:=⟨0,pid,epoch,seq,1,time,z,cs.map λc=>z4u c time⟩
def zb9 (M:OffA) (q:(Int × Bool × Int) × PartA × DiskA):OffA:=⟨q.2.1,M.at_,M.C⟩
def ofO (M:OffA) (part:Int):ComM × Bool:=match z1k M.C.l (z13 part) with
 | none=>(com0,false)
 | some a=>((z8y a.r).getD com0,true)
instance {b:Bool} {n:Int}:IsR (.tup [.one .bool,.one (.int .i64)]) [.bool b,.int .i64 n] (b,n,()):=⟨rfl⟩
instance {c:ComM} {b:Bool}:IsR (.tup [.agg [.int .i64,.int .i64,.int .i64,.int .i64],.one .bool]) [.agg (z3t c).toArray,.bool b] (c.part,c.off,c.mem,c.gen,b,()):=⟨rfl⟩
structure PenM where
 pid:Int
 epoch:Int
 c:ComM
def z32 (p:PenM):List Value:=[.int .i64 p.pid,.int .i64 p.epoch,.int .i64 p.c.part,.int .i64 p.c.off,.int .i64 p.c.mem,.int .i64 p.c.gen]
instance:EncA z32 [.int .i64,.int .i64,.int .i64,.int .i64,.int .i64,.int .i64] (λp=>(p.pid,p.epoch,p.c.part,p.c.off,p.c.mem,p.c.gen,())):=⟨λ_=>rfl⟩
instance:EncN z32 6:=⟨λ_=>rfl,by decide,by simp [z32,Value.oneCell']⟩
instance:EncF z32 3 (.int .i64) (λp=>p.c.off):=⟨λ_=>rfl⟩
section
variable {w:World} {l r r1 r2 r3 l':List HP} {b d t p:Nat} {M:OffA} {D:DiskA}
theorem z043 (pre:ByteArray) (seg gap most:Int) (hp:z3w pre=true) (hc:zdy seg gap) (hm:1<=most/\most<=1024) (hg:D.gone=false) {S:List SegA} (h:Cpl pre S D) (hno:∀ f ∈ D.fs,f.name≠ze4 pre/\f.name≠ze5 pre)
  (hf0 : -9223372036854775808<=z15 S/\z15 S<9223372036854775808)
  (hend:endsK ⟨0,[]⟩ (z1v (z5t ⟨d,pre,seg,gap,S⟩ most) (z15 S) 1099511627776 true).1.1=true) (hlen:(z1v (z5t ⟨d,pre,seg,gap,S⟩ most) (z15 S) 1099511627776 true).1.1.length<=1000000) (hst:zav (z5t ⟨d,pre,seg,gap,S⟩ most)) [hf:Fo l dk d D r] (hs:Sat w l) :
  Ret P F.a81 #[.pointer (some ⟨d,0,none⟩),.string pre,.agg #[.int .i64 seg,.int .i64 gap,.int .i64 most]] w λvs w'=>∃ b:Nat,vs=[.pointer (some ⟨b,0,none⟩),.int .i64 0] /\
   Sat w' (ofP b (z8g ⟨z5t ⟨d,pre,seg,gap,S⟩ most,z15 S,⟨0,[]⟩⟩)::dk d D::r) :=
 zuu _ pre seg gap most <| by
  delta z08k Aa Ab Ac Ad Ae Af Ah Ai Am B1 B8 BC BD
  refine zp (hs.perm hf.perm) λa0 w' hs=>?_
  clear hf
  refine ze hs ?_
  have hs:=hs.pick [1]
  refine z8 (z04a (d:=d) (D:=D) pre seg gap most hp hc hm hg h hno hs) λ_ w' hs=>?_
  obtain ⟨p,rfl,hs⟩:=hs
  refine ⟨(some ⟨p,0,none⟩,0,()),rfl,trivial,z38 _ _ ?_⟩
  refine wp_lt ?_
  refine zy ?_ (by simp)
  obtain ⟨A,hA⟩:∃ A,A=z5t ⟨d,pre,seg,gap,S⟩ most:=⟨_,rfl⟩
  have hAL:A.L=⟨d,pre,seg,gap,S⟩:=by rw [hA];exact z044 _ _
  rw [<- hA] at hs hend hlen hst ⊢
  refine z8 (zlx (p:=p) (A:=A) hs) λ_ w' hs=>?_
  obtain ⟨rfl,hs⟩:=hs
  refine zb ?_
  have e1:z15 A.L.l=z15 S:=by rw [hAL]
  have hd:A.L.d=d:=by rw [hAL]
  have hcp:Cpl A.L.pre A.L.l D:=by rw [hAL];exact h
  rw [e1]
  refine z8 (z05e hs) λ_ w' hs=>?_
  obtain ⟨t,rfl,hs⟩:=hs
  refine zb ?_
  refine zp hs λb w' hs=>?_
  have hs:Sat w' (ofP b ⟨A,z15 S,⟨0,[]⟩⟩::dk d D::r):=by
   have hs:Sat w' (pt b (.cells #[.pointer (some ⟨p,0,none⟩),.int .i64 (z15 S),.pointer (some ⟨t,0,none⟩)] T.a24)::tbC t ⟨0,[]⟩::paP p A::dk d D::r):=hs.sub
   exact zk3 (M:=⟨A,z15 S,⟨0,[]⟩⟩) t p hs
  have hs:=gdk hd.symm hs
  refine z8 (zqj (b:=b) (M:=⟨A,z15 S,⟨0,[]⟩⟩) (D:=D) hcp hf0 hend (by show 0+(z1v A (z15 S) 1099511627776 true).1.1.length<=1000000;omega) hst hs) λ_ w' hs=>?_
  obtain ⟨rfl,hs⟩:=hs
  refine zb ?_
  refine ⟨rfl,b,rfl,?_⟩
  exact gdk hd hs
set_option maxHeartbeats 1000000 in
theorem z068 (pid epoch seq time:Int) (x:Sl) (cs:List ComM) (hcs:∀ c ∈ cs,z45 c/\(0<=time/\time<=1099511627776)) (hne:cs≠[]) (hcl:cs.length<=1000) {r1:List HP} [hf:Fo l ofP b M r1] [hf2:Fo r1 dk M.A.L.d D r] (hb:FocR r x 4 (cs.flatMap z3t)) (h:Cpl M.A.L.pre M.A.L.l D) (hs:Sat w l) :
  Ret P F.a78 #[.pointer (some ⟨b,0,none⟩),.int .i64 pid,.int .i64 epoch,.int .i64 seq,.int .i64 time,x.v] w λvs w'=>∃ z:Sl,
   vs=[.bool (z0l M.A D (z7n pid epoch seq time z cs)).1.2.1,.int .i64 (z0l M.A D (z7n pid epoch seq time z cs)).1.2.2]/\Sat w' (ofP b (zb9 M (z0l M.A D (z7n pid epoch seq time z cs)))::dk M.A.L.d (z0l M.A D (z7n pid epoch seq time z cs)).2.2::r) :=
 zur _ pid epoch seq time x <| by
  delta z08h AB AC AE AF AG AO AP AW Aa Ab Ac Ad Ag Ah Aj Ao Ar Au Ax BG BI BK Be Bi Bn Bp Bq Bw
  have hs:=hs.perm (hf.perm.trans (.cons _ hf2.perm))
  clear hf hf2
  have hxl:=hs.slen x (xs:=cs) (enc:=z3t)
  have hpos:0<cs.length:=List.length_pos_iff.2 hne
  refine zy ?_ (by simp)
  refine zy ?_ (by rw [hxl];omega)
  refine zm hs λa0 w' hs=>?_
  refine zl hs λw' hs=>?_
  have hs:Sat w' (slc T.a2 4 ⟨none,0,0⟩ (([]:List RecM).flatMap z00)::_):=hs.slc_nil
  have hs:Sat w' (pt a0 (.cells #[.int .i64 0,.int .i64 pid,.int .i64 epoch,.int .i64 seq,.int .i64 1,.int .i64 time,.slice none 0 0] T.a0)::slc T.a2 4 ⟨none,0,0⟩ (([]:List RecM).flatMap z00)::ofP b M::dk M.A.L.d D::r):=hs.sub
  refine zk (λq w'=>∃ z:Sl,Sat w' (pt a0 (.cells #[.int .i64 0,.int .i64 pid,.int .i64 epoch,.int .i64 seq,.int .i64 1,.int .i64 time,.slice z.a z.len z.cap] T.a0)::slc T.a2 4 z ((cs.map λc=>z4u c time).flatMap z00)::ofP b M::dk M.A.L.d D::r)) ?_ ?_
  ·refine z09 (λm q w=>∃ (i:Nat) (z:Sl),q=((i:Int),())/\i<=cs.length/\cs.length-i=m/\Sat w (pt a0 (.cells #[.int .i64 0,.int .i64 pid,.int .i64 epoch,.int .i64 seq,.int .i64 1,.int .i64 time,.slice z.a z.len z.cap] T.a0)::slc T.a2 4 z (((cs.take i).map λc=>z4u c time).flatMap z00)::ofP b M::dk M.A.L.d D::r)) cs.length
    ⟨0,⟨none,0,0⟩,rfl,by omega,rfl,hs⟩ ?_
   clear hs
   rintro m _ w ⟨i,z,rfl,hi,hm,hs⟩
   refine zj ?_
   refine zg (λhc=>?_) λhc=>?_
   rotate_left
   ·rw [List.take_of_length_le (by omega)] at hs
    exact zn (zf ⟨z,hs⟩)
   have hil:i<cs.length:=by omega
   have htk:(cs.take (i+1)).map (λc=>z4u c time)=(cs.take i).map (λc=>z4u c time)++[z4u cs[i] time]:=by rw [List.take_add_one,List.getElem?_eq_getElem hil,Option.toList_some,List.map_append];rfl
   have hmy:=hcs _ (List.getElem_mem hil)
   have hrl:((cs.take i).map λc=>z4u c time).length<=1000:=by rw [List.length_map,List.length_take];omega
   refine z39 hs i hil ?_
   generalize cs[i]=c at *
   refine zm hs λa8 w' hs=>?_
   refine zl hs λw' hs=>?_
   refine ze hs ?_
   refine z8 (zlt c time hs) λ_ w' hs=>?_
   obtain ⟨rfl,hs⟩:=hs
   have e:z20 c time=(z4u c time,0):=by unfold z20;rw [if_pos hmy]
   rw [e]
   refine ⟨((z4u c time).key,(z4u c time).value,false,time,0,()),rfl,trivial,z2t _ _ _ _ _ ?_⟩
   refine zm hs λa18 w' hs=>?_
   refine zl hs λw' hs=>?_
   refine wp_lt ?_
   refine zy ?_ (by simp)
   refine za hs ?_
   refine ze hs ?_
   refine z5m hs (xs:=(cs.take i).map λc=>z4u c time) (enc:=z00) (z4u c time) (λz' w' hs=>?_) rfl (by omega)
   rw [<- htk] at hs
   refine z02 hs λw' hs=>?_
   refine z27 (us':=[.int .i64 ((i+1:Nat):Int)]) (by (try simp (disch:=omega) only [w64]);first|rfl|(congr;omega)) ?_
   exact z0w (cs.length-(i+1)) ⟨i+1,z',rfl,by omega,rfl,hs.sub⟩
  clear hs
  rintro _ w ⟨z,hs⟩
  refine zj ?_
  refine zw hs λw' hs=>?_
  obtain ⟨t,p,hs⟩:=zb8 (hs.pick [2])
  refine zi ?_
  refine za hs ?_
  refine ze hs ?_
  have hs:Sat w' (paP p M.A::dk M.A.L.d D::slc T.a2 4 z ((cs.map λc=>z4u c time).flatMap z00)::pt b (.cells #[.pointer (some ⟨p,0,none⟩),.int .i64 M.at_,.pointer (some ⟨t,0,none⟩)] T.a24)::tbC t M.C::r):=hs.sub
  have hb0:FocR (slc T.a2 4 z ((cs.map λc=>z4u c time).flatMap z00)::pt b (.cells #[.pointer (some ⟨p,0,none⟩),.int .i64 M.at_,.pointer (some ⟨t,0,none⟩)] T.a24)::tbC t M.C::r) (z7n pid epoch seq time z cs).x 4 ((z7n pid epoch seq time z cs).rs.flatMap z00) :=
   (FocR.head:FocR (slc T.a2 4 z ((cs.map λc=>z4u c time).flatMap z00)::pt b (.cells #[.pointer (some ⟨p,0,none⟩),.int .i64 M.at_,.pointer (some ⟨t,0,none⟩)] T.a24)::tbC t M.C::r) z 4 ((cs.map λc=>z4u c time).flatMap z00))
  refine z8 (z06a (p:=p) (A:=M.A) (D:=D) (z7n pid epoch seq time z cs) hb0 h (by show (cs.map λc=>z4u c time).length<=_;rw [List.length_map];omega) rfl hs) λ_ w' hs=>?_
  obtain ⟨rfl,hs⟩:=hs
  generalize hq:z0l M.A D (z7n pid epoch seq time z cs)=q at *
  obtain ⟨⟨n,again,e⟩,A',D'⟩:=q
  simp only at hs ⊢
  refine ⟨(n,again,e,()),rfl,trivial,zhd _ _ _ ?_⟩
  refine wp_lt ?_
  refine wp_lt ?_
  refine wp_lt ?_
  refine zd ?_
  refine wp_lt ?_
  refine wp_lt ?_
  refine ⟨rfl,z,by rw [hq],?_⟩
  rw [hq]
  exact zc3 (t:=t) (p:=p) (zb9 M ((n,again,e),A',D')) hs
end
theorem z057 (a:Addr):Addr.add (Addr.add (Addr.add a 0) 2) 1=Addr.add (Addr.add a 0) 3:=rfl
def z2y (b:BatM) (rs:List RecM):List PenM:=(rs.filterMap z8y).map λc=>⟨b.pid,b.epoch,c⟩
section
variable {w:World} {l r r1 r2 r3 l':List HP} {b d t p:Nat} {M:OffA} {D:DiskA}
set_option maxHeartbeats 1000000 in
theorem z00h (part:Int) (hp:0<=part/\part<=255) (hv:∀ a ∈ M.C.l,a.r.value.size<=1000000) [hf:Fo l ofP b M r] (hs:Sat w l) :
  Ret P F.a77 #[.pointer (some ⟨b,0,none⟩),.int .i64 part] w λvs w'=>vs=[.agg (z3t (ofO M part).1).toArray,.bool (ofO M part).2]/\Sat w' (ofP b M::r) :=
 zuq _ part <| by
  delta z08g AC AG Aa Ab Ac Ad Af Ah Aj Ao Ar Au B4 BG BJ BL BM BN Be Bo Bp Bu
  have hs:=hs.perm hf.perm
  clear hf
  obtain ⟨t,p,hs⟩:=zb8 hs
  refine zm hs λa0 w' hs=>?_
  refine z23 (by rw [Bool.or_eq_false_iff,Bool.or_eq_false_iff,decide_eq_false_iff_not,decide_eq_false_iff_not];exact ⟨⟨rfl,by omega⟩,by omega⟩) ?_
  have hk:∀ {w:World} {l:List HP},Sat w l->Ret P F.a85 #[.int .i64 part] w λvs w'=>vs=[.string (z13 part)]/\Sat w' l:=λhs=>by
   have hk:=zlp part.toNat (by omega) hs
   rw [show ((part.toNat:Nat):Int)=part by omega] at hk
   exact hk
  refine zk (λq w'=>∃ a:Nat,q=(⟨a,0,none⟩,(z1k M.C.l (z13 part)).isSome,())/\Sat w' (pt a (.cells #[.int .i64 (orC (z1k M.C.l (z13 part))).off,.string (orC (z1k M.C.l (z13 part))).r.key,.string (orC (z1k M.C.l (z13 part))).r.value,.bool (orC (z1k M.C.l (z13 part))).r.gone,.int .i64 (orC (z1k M.C.l (z13 part))).r.time] T.a37) ::
   pt a0 (.cells #[.int .i64 0,.int .i64 0,.int .i64 0,.int .i64 0] T.a23)::ofP b M::r)) ?_ ?_
  ·refine zw hs λw' hs=>?_
   refine zi ?_
   refine z0z hs ?_
   have hfin:∀ {w':World} {a:Nat},Sat w' (tbC t M.C::pt a (.cells #[.int .i64 (orC (z1k M.C.l (z13 part))).off,.string (orC (z1k M.C.l (z13 part))).r.key,.string (orC (z1k M.C.l (z13 part))).r.value,.bool (orC (z1k M.C.l (z13 part))).r.gone,.int .i64 (orC (z1k M.C.l (z13 part))).r.time] T.a37)::pt a0 (.cells #[.int .i64 0,.int .i64 0,.int .i64 0,.int .i64 0] T.a23)::pt b (.cells #[.pointer (some ⟨p,0,none⟩),.int .i64 M.at_,.pointer (some ⟨t,0,none⟩)] T.a24)::paP p M.A::r) ->
     Sat w' (pt a (.cells #[.int .i64 (orC (z1k M.C.l (z13 part))).off,.string (orC (z1k M.C.l (z13 part))).r.key,.string (orC (z1k M.C.l (z13 part))).r.value,.bool (orC (z1k M.C.l (z13 part))).r.gone,.int .i64 (orC (z1k M.C.l (z13 part))).r.time] T.a37)::pt a0 (.cells #[.int .i64 0,.int .i64 0,.int .i64 0,.int .i64 0] T.a23)::ofP b M::r):=λhs=>by
    have hs:=zk3 (M:=M) t p (hs.pick [3,0,2])
    exact hs.sub
   refine ⟨?_,?_⟩
   ·refine z8 (hk hs) λ_ w' hs=>?_
    obtain ⟨rfl,hs⟩:=hs
    refine zb ?_ (by first|trivial|(repeat (first|exact trivial|exact λ_=>z05 hs|exact λ_=>z0b hs|refine And.intro ?_ ?_)))
    refine ⟨?_,?_⟩
    ·refine zd ?_
     refine z8 (zkr (t:=t) (C:=M.C) (z13 part) hs) λ_ w' hs=>?_
     obtain ⟨rfl,hs⟩:=hs
     refine ⟨((orC (z1k M.C.l (z13 part))).off,(orC (z1k M.C.l (z13 part))).r.key,(orC (z1k M.C.l (z13 part))).r.value,(orC (z1k M.C.l (z13 part))).r.gone,(orC (z1k M.C.l (z13 part))).r.time,(z1k M.C.l (z13 part)).isSome,()),rfl,trivial,zt5 _ _ _ _ _ _ ?_⟩
     refine zm hs λa15 w' hs=>?_
     refine zl hs λw' hs=>?_
     refine wp_lt ?_
     refine zd ?_
     exact zf ⟨a15,rfl,hfin hs.sub⟩
    ·refine zm hs λa17 w' hs=>?_
     refine zd ?_
     refine z8 (zkr (t:=t) (C:=M.C) (z13 part) hs) λ_ w' hs=>?_
     obtain ⟨rfl,hs⟩:=hs
     refine ⟨((orC (z1k M.C.l (z13 part))).off,(orC (z1k M.C.l (z13 part))).r.key,(orC (z1k M.C.l (z13 part))).r.value,(orC (z1k M.C.l (z13 part))).r.gone,(orC (z1k M.C.l (z13 part))).r.time,(z1k M.C.l (z13 part)).isSome,()),rfl,trivial,zt5 _ _ _ _ _ _ ?_⟩
     refine zl hs λw' hs=>?_
     refine wp_lt ?_
     refine zd ?_
     exact zf ⟨a17,rfl,hfin hs.sub⟩
   ·refine zm hs λa25 w' hs=>?_
    refine z8 (hk hs) λ_ w' hs=>?_
    obtain ⟨rfl,hs⟩:=hs
    refine zb ?_ (by first|trivial|(repeat (first|exact trivial|exact λ_=>z05 hs|exact λ_=>z0b hs|refine And.intro ?_ ?_)))
    refine zd ?_
    refine z8 (zkr (t:=t) (C:=M.C) (z13 part) hs) λ_ w' hs=>?_
    obtain ⟨rfl,hs⟩:=hs
    refine ⟨((orC (z1k M.C.l (z13 part))).off,(orC (z1k M.C.l (z13 part))).r.key,(orC (z1k M.C.l (z13 part))).r.value,(orC (z1k M.C.l (z13 part))).r.gone,(orC (z1k M.C.l (z13 part))).r.time,(z1k M.C.l (z13 part)).isSome,()),rfl,trivial,zt5 _ _ _ _ _ _ ?_⟩
    refine zl hs λw' hs=>?_
    refine wp_lt ?_
    refine zd ?_
    exact zf ⟨a25,rfl,hfin hs.sub⟩
  clear hs
  rintro _ w ⟨a,rfl,hs⟩
  refine z38 _ _ ?_
  unfold ofO
  cases hg:z1k M.C.l (z13 part) with
  | none =>
   rw [hg] at hs
   refine z0o ?_ (by simp)
   refine zl hs λw' hs=>?_
   refine ze hs ?_
   exact ⟨rfl,rfl,hs.sub⟩
  | some y =>
   rw [hg] at hs
   have hs:Sat w (pt a (.cells #[.int .i64 y.off,.string y.r.key,.string y.r.value,.bool y.r.gone,.int .i64 y.r.time] T.a37)::pt a0 (.cells #[.int .i64 0,.int .i64 0,.int .i64 0,.int .i64 0] T.a23)::ofP b M::r):=hs
   have hym:y ∈ M.C.l:=by
    unfold z1k at hg
    split at hg
    ·exact List.mem_of_getElem? hg
    ·cases hg
   refine zy ?_ (by simp)
   refine zds hs (y.r.key,y.r.value,y.r.gone,y.r.time,()) ?_
   refine z8 (zba y.r (hv y hym) hs) λ_ w' hs=>?_
   obtain ⟨c,e',rfl,hpk,hs⟩:=hs
   refine ⟨(c.part,c.off,c.mem,c.gen,e',()),rfl,trivial,z2t _ _ _ _ _ ?_⟩
   have hc:(z8y y.r).getD com0=c:=by
    rcases zdh hpk with ⟨-,h⟩|⟨-,h1,h⟩
    ·rw [h];rfl
    ·rw [h,h1];rfl
   refine zm hs λa49 w' hs=>?_
   refine zl hs λw' hs=>?_
   refine wp_lt ?_
   refine ze hs ?_
   refine zl hs λw' hs=>?_
   refine ze hs ?_
   refine ⟨rfl,?_,hs.sub⟩
   show _=[Value.agg (z3t ((z8y y.r).getD com0)).toArray,Value.bool true]
   rw [hc]
   rfl
theorem z042 (pid epoch:Int) (commit:Bool) (time:Int) {r1:List HP} [hf:Fo l ofP b M r1] [hf2:Fo r1 dk M.A.L.d D r] (h:Cpl M.A.L.pre M.A.L.l D) (h2:Cpl M.A.L.pre (z0l M.A D (z1q pid epoch commit time ⟨none,0,0⟩)).2.1.L.l (z0l M.A D (z1q pid epoch commit time ⟨none,0,0⟩)).2.2)
  (hat : -9223372036854775808<=M.at_/\M.at_<9223372036854775808)
  (hend:endsK M.C (z1v (z0l M.A D (z1q pid epoch commit time ⟨none,0,0⟩)).2.1 M.at_ 1099511627776 true).1.1=true) (hlen:M.C.l.length+(z1v (z0l M.A D (z1q pid epoch commit time ⟨none,0,0⟩)).2.1 M.at_ 1099511627776 true).1.1.length<=1000000) (hst:zav (z0l M.A D (z1q pid epoch commit time ⟨none,0,0⟩)).2.1) (hs:Sat w l) :
  Ret P F.a76 #[.pointer (some ⟨b,0,none⟩),.int .i64 pid,.int .i64 epoch,.bool commit,.int .i64 time] w λvs w'=>vs=[.bool (z0l M.A D (z1q pid epoch commit time ⟨none,0,0⟩)).1.2.1,.int .i64 (z0l M.A D (z1q pid epoch commit time ⟨none,0,0⟩)).1.2.2] /\
   Sat w' (ofP b (if (z0l M.A D (z1q pid epoch commit time ⟨none,0,0⟩)).1.2.2=0 then z8g (zb9 M (z0l M.A D (z1q pid epoch commit time ⟨none,0,0⟩))) else zb9 M (z0l M.A D (z1q pid epoch commit time ⟨none,0,0⟩)))::dk M.A.L.d (z0l M.A D (z1q pid epoch commit time ⟨none,0,0⟩)).2.2::r) :=
 zup _ pid epoch commit time <| by
  delta z08f AB Aa Ab Ac Ad Ah Aj Am Ao BK Bw
  have hs:=hs.perm (hf.perm.trans (.cons _ hf2.perm))
  clear hf hf2
  obtain ⟨t,p,hs⟩:=zb8 hs
  refine zy ?_ (by simp)
  refine zi ?_
  refine za hs ?_
  have hs:Sat w (paP p M.A::dk M.A.L.d D::pt b (.cells #[.pointer (some ⟨p,0,none⟩),.int .i64 M.at_,.pointer (some ⟨t,0,none⟩)] T.a24)::tbC t M.C::r):=hs.sub
  refine z8 (z049 (p:=p) (A:=M.A) (D:=D) pid epoch commit time h hs) λ_ w' hs=>?_
  obtain ⟨rfl,hs⟩:=hs
  obtain ⟨g1,g2,-⟩:=zsq M.A D (z1q pid epoch commit time ⟨none,0,0⟩)
  generalize z0l M.A D (z1q pid epoch commit time ⟨none,0,0⟩)=q at hs h2 hend hlen hst g1 g2 ⊢
  obtain ⟨⟨n,again,e⟩,A',D'⟩:=q
  simp only at hs h2 hend hlen hst g1 g2 ⊢
  refine ⟨(n,again,e,()),rfl,trivial,zhd _ _ _ ?_⟩
  refine wp_lt ?_
  refine wp_lt ?_
  refine wp_lt ?_
  have hs:Sat w' (ofP b ⟨A',M.at_,M.C⟩::dk M.A.L.d D'::r):=zc3 (t:=t) (p:=p) ⟨A',M.at_,M.C⟩ hs
  refine zk (λq w'=>Sat w' (ofP b (if e=0 then z8g ⟨A',M.at_,M.C⟩ else ⟨A',M.at_,M.C⟩)::dk M.A.L.d D'::r)) ?_ ?_
  rotate_left
  ·rintro _ w2 hs
   refine zj ?_
   refine wp_lt ?_
   refine wp_lt ?_
   exact ⟨rfl,rfl,hs⟩
  refine zg (λhe=>?_) λhe=>?_
  ·have he:e=0:=by simpa using he
   have hs:=gdk g1.symm hs
   refine z8 (zqj (b:=b) (M:=⟨A',M.at_,M.C⟩) (D:=D') (by rw [g2];exact h2) hat hend hlen hst hs) λ_ w' hs=>?_
   obtain ⟨rfl,hs⟩:=hs
   refine zb ?_
   exact zf (by rw [if_pos he];exact gdk g1 hs)
  ·exact zf (by rw [if_neg (by simpa using he)];exact hs)
theorem zwj (y:Sl) (hy:y.len=0) (o:BatM) (hs:Sat w l):Ret P F.a84 #[.agg (zr o).toArray,y.v] w λvs w'=>vs=[.bool false]/\Sat w' l :=
 zux o.base o.pid o.epoch o.seq o.kind o.time o.x y <| by
  delta z08n AM AW Ab Ae Af Ao
  refine zp hs λa0 w' hs=>?_
  refine z8 (R:=λvs w'=>vs=[.bool false]/\Sat w' l) ?_ λ_ w' hs=>?_
  ·refine zol y _ ?_
   delta z022 Ab Ai Ao
   refine z8 (R:=λvs w'=>vs=[.int .i64 (-1)]/\Sat w' l) ?_ λ_ w' hs=>?_
   ·refine zon y _ ?_
    delta z024 AB AF AK AO AV AW Aa Ab Ac Ag Ah
    refine zk (λq w'=>Sat w' l) ?_ ?_
    ·refine z09 (λm q w=>q=(0,())/\Sat w l) 0 ⟨rfl,hs.tail⟩ ?_
     clear hs
     rintro m _ w ⟨rfl,hs⟩
     refine zj ?_
     refine zy ?_ (by rw [hy];simp)
     exact zn (zf hs)
    clear hs
    rintro _ w hs
    refine zj ?_
    exact ⟨rfl,rfl,hs⟩
   obtain ⟨rfl,hs⟩:=hs
   refine zb ?_
   refine wp_lt ?_
   exact ⟨rfl,rfl,hs⟩
  obtain ⟨rfl,hs⟩:=hs
  refine zb ?_
  refine wp_lt ?_
  exact ⟨rfl,rfl,hs⟩
set_option maxHeartbeats 1000000 in
theorem zyz (b0:BatM) (hall:z06 M.A.L.l=[b0]) (hk:b0.kind=1) {r1:List HP} [hf:Fo l ofP b M r1] [hf2:Fo r1 dk M.A.L.d D r] (h:Cpl M.A.L.pre M.A.L.l D) (hs:Sat w l) :
  Ret P F.a79 #[.pointer (some ⟨b,0,none⟩)] w λvs w'=>∃ z:Sl,vs=[z.v]/\Sat w' (slc T.a25 6 z ((z2y b0 b0.rs).flatMap z32)::ofP b M::dk M.A.L.d D::r) :=
 zus _ <| by
  delta z08i AC AD AF AG AM AP AS AV AW Aa Ab Ac Ad Ag Ah Aj Ar Au Ax Ay B7 BG BJ Bc Be Bl Bo Bp Bq Bw
  have hs:=hs.perm (hf.perm.trans (.cons _ hf2.perm))
  clear hf hf2
  obtain ⟨t,p,hs⟩:=zb8 hs
  refine zy ?_ (by simp)
  refine zi ?_
  refine za hs ?_
  have hs:Sat w (paP p M.A::dk M.A.L.d D::pt b (.cells #[.pointer (some ⟨p,0,none⟩),.int .i64 M.at_,.pointer (some ⟨t,0,none⟩)] T.a24)::tbC t M.C::r):=hs.sub
  refine z8 (zsl (p:=p) (A:=M.A) (D:=D) h hs) λ_ w' hs=>?_
  obtain ⟨z,outs,rfl,hm,hs⟩:=hs
  refine zb ?_
  rw [hall] at hm
  obtain ⟨o,rfl,ho⟩:∃ o,outs=[o]/\o.p=b0:=by
   cases outs with
   | nil=>cases hm
   | cons o os =>
    cases os with
    | nil=>exact ⟨o,rfl,by simpa using hm⟩
    | cons _ _=>simp at hm
  have hrec:∀ r ∈ o.rs,z1z r=0:=by
   have hv:z04 b0=0:=((z9c (Int.le_refl 0) h.segs).valid b0 (by rw [hall];simp)).1
   have:=(z26 hv).2
   rw [<- ho] at this
   exact this
  have hn64:o.rs.length<=64:=by
   have hv:z04 b0=0:=((z9c (Int.le_refl 0) h.segs).valid b0 (by rw [hall];simp)).1
   have:=(z26 hv).1
   rw [<- ho] at this
   exact this
  have hko:o.kind=1:=by rw [<- ho] at hk;exact hk
  have hpe:z2y b0 b0.rs=z2y o o.rs:=by rw [<- ho];rfl
  rw [hpe]
  have hzl:=hs.slen z (xs:=[o]) (enc:=zr)
  have hs:Sat w' (slc T.a25 6 ⟨none,0,0⟩ (([]:List PenM).flatMap z32)::slc T.a0 7 z ([o].flatMap zr)::z10 [o]::ofP b M::dk M.A.L.d D::r):=by
   have hs:Sat w' (slc T.a25 6 ⟨none,0,0⟩ (([]:List PenM).flatMap z32)::_):=hs.slc_nil
   have hs:Sat w' (pt b (.cells #[.pointer (some ⟨p,0,none⟩),.int .i64 M.at_,.pointer (some ⟨t,0,none⟩)] T.a24)::tbC t M.C::paP p M.A::slc T.a25 6 ⟨none,0,0⟩ (([]:List PenM).flatMap z32)::slc T.a0 7 z ([o].flatMap zr)::z10 [o]::dk M.A.L.d D::r):=hs.sub
   have hs:=zk3 (M:=M) t p hs
   exact hs.pick [1,1,1]
  refine zk (λq w'=>∃ z':Sl,q=(z',())/\Sat w' (slc T.a25 6 z' ((z2y o o.rs).flatMap z32)::ofP b M::dk M.A.L.d D::r)) ?_ ?_
  rotate_left
  ·rintro _ w2 ⟨z',rfl,hs⟩
   refine zj ?_
   exact ⟨rfl,z',rfl,hs⟩
  refine z09 (λm q w=>∃ (i:Nat) (z':Sl) (xs:List PenM),q=(z',(i:Int),())/\i<=1/\1-i=m/\(i=0->xs=[])/\(i=1->xs=z2y o o.rs)/\Sat w (slc T.a25 6 z' (xs.flatMap z32)::slc T.a0 7 z ([o].flatMap zr)::z10 [o]::ofP b M::dk M.A.L.d D::r)) 1
   ⟨0,⟨none,0,0⟩,[],rfl,by omega,rfl,(λ_=>rfl),(λh=>by cases h),hs⟩ ?_
  clear hs
  rintro m _ w ⟨i,z',xs,rfl,hi,hm,hx0,hx1,hs⟩
  refine z38 _ _ ?_
  refine zg (λhc=>?_) λhc=>?_
  rotate_left
  ·have hi1:i=1:=by rw [hzl] at hc;simp at hc;omega
   rw [hx1 hi1] at hs
   exact zn (zf ⟨z',rfl,hs.sub⟩)
  have hi0:i=0:=by rw [hzl] at hc;simp at hc;omega
  subst hi0
  have hxs:=hx0 rfl
  subst hxs
  refine zk (λq w'=>∃ z2:Sl,q=(z2,())/\Sat w' (slc T.a25 6 z2 ((z2y o o.rs).flatMap z32)::slc T.a0 7 z ([o].flatMap zr)::z10 [o]::ofP b M::dk M.A.L.d D::r)) ?_ ?_
  rotate_left
  ·rintro _ w2 ⟨z2,rfl,hs⟩
   refine zj ?_
   refine z27 (us':=[z2.v,.int .i64 ((1:Nat):Int)]) (by (try simp (disch:=omega) only [w64]);first|rfl|(congr;omega)) ?_
   exact z0w 0 ⟨1,z2,z2y o o.rs,rfl,by omega,rfl,(λh=>by cases h),(λ_=>rfl),hs⟩
  refine z39 hs 0 (by simp) ?_
  refine zm hs λa15 w' hs=>?_
  refine wp_lt ?_
  refine zl hs λw' hs=>?_
  have hs:Sat w' (pt a15 (.cells #[.int .i64 o.base,.int .i64 o.pid,.int .i64 o.epoch,.int .i64 o.seq,.int .i64 o.kind,.int .i64 o.time,.slice o.x.a o.x.len o.x.cap] T.a0)::slc T.a25 6 z' (([]:List PenM).flatMap z32)::slc T.a0 7 z ([o].flatMap zr)::z10 [o]::ofP b M::dk M.A.L.d D::r):=hs
  refine zk (λq w'=>q=(false,())/\Sat w' (pt a15 (.cells #[.int .i64 o.base,.int .i64 o.pid,.int .i64 o.epoch,.int .i64 o.seq,.int .i64 o.kind,.int .i64 o.time,.slice o.x.a o.x.len o.x.cap] T.a0)::slc T.a25 6 z' (([]:List PenM).flatMap z32)::slc T.a0 7 z ([o].flatMap zr)::z10 [o]::ofP b M::dk M.A.L.d D::r)) ?_ ?_
  ·refine zw hs λw' hs=>?_
   refine za hs ?_
   refine ze hs ?_
   have e1:IntKind.wrap .i64 (((0:Nat):Int)+1)=1:=by decide
   rw [e1]
   refine wp_must (λ_=>by rw [hzl];simp) ?_
   refine zy ?_ (by rw [hko];simp)
   refine z8 (zwj ⟨z12 z.a 7 (Int.toNat 1) z.cap,z.len-Int.toNat 1,z.cap-Int.toNat 1⟩ (by show z.len-1=0;rw [hzl];rfl) o hs) λ_ w' hs=>?_
   obtain ⟨rfl,hs⟩:=hs
   refine zb ?_
   refine zd ?_
   exact zf ⟨rfl,hs⟩
  clear hs
  rintro _ w ⟨rfl,hs⟩
  refine zj ?_
  refine zy ?_ (by simp)
  refine za hs ?_
  have hbr:FocR (z10 [o]::ofP b M::dk M.A.L.d D::r) o.x 4 (o.rs.flatMap z00):=zax (by simp)
  have hxl:=hs.slen o.x (xs:=o.rs) (enc:=z00)
  refine zk (λq w'=>∃ z2:Sl,q=(z2,())/\Sat w' (slc T.a25 6 z2 ((z2y o o.rs).flatMap z32)::slc T.a0 7 z ([o].flatMap zr)::z10 [o]::ofP b M::dk M.A.L.d D::r)) ?_ ?_
  rotate_left
  ·rintro _ w2 ⟨z2,rfl,hs⟩
   refine zj ?_
   exact zf ⟨z2,rfl,hs⟩
  refine z09 (λm q w=>∃ (i:Nat) (z2:Sl),q=(z2,(i:Int),())/\i<=o.rs.length/\o.rs.length-i=m/\Sat w (pt a15 (.cells #[.int .i64 o.base,.int .i64 o.pid,.int .i64 o.epoch,.int .i64 o.seq,.int .i64 o.kind,.int .i64 o.time,.slice o.x.a o.x.len o.x.cap] T.a0)::slc T.a25 6 z2 ((z2y o (o.rs.take i)).flatMap z32)::slc T.a0 7 z ([o].flatMap zr)::z10 [o]::ofP b M::dk M.A.L.d D::r)) o.rs.length
   ⟨0,z',rfl,by omega,rfl,hs⟩ ?_
  clear hs
  rintro m2 _ w ⟨i,z2,rfl,hi2,hm2,hs⟩
  refine z38 _ _ ?_
  refine zg (λhc2=>?_) λhc2=>?_
  rotate_left
  ·rw [List.take_of_length_le (by omega)] at hs
   exact zn (zf ⟨z2,rfl,hs.sub⟩)
  have hil:i<o.rs.length:=by omega
  have htk:z2y o (o.rs.take (i+1))=z2y o (o.rs.take i)++z2y o [o.rs[i]]:=by
   unfold z2y
   rw [List.take_add_one,List.getElem?_eq_getElem hil,Option.toList_some,List.filterMap_append,List.map_append]
  have hpl:(z2y o (o.rs.take i)).length<=64:=by
   unfold z2y
   rw [List.length_map]
   have:=List.length_filterMap_le z8y (o.rs.take i)
   rw [List.length_take] at this
   omega
  have hr:=hrec _ (List.getElem_mem hil)
  refine z39 hs i hil ?_
  generalize o.rs[i]=y at *
  refine zm hs λa36 w' hs=>?_
  refine zl hs λw' hs=>?_
  refine ze hs ?_
  refine z8 (zba y (by have:=(z3p hr).2.1;omega) hs) λ_ w' hs=>?_
  obtain ⟨c,e',rfl,hpk,hs⟩:=hs
  refine ⟨(c.part,c.off,c.mem,c.gen,e',()),rfl,trivial,z2t _ _ _ _ _ ?_⟩
  refine zm hs λa46 w' hs=>?_
  refine zl hs λw' hs=>?_
  refine wp_lt ?_
  refine zk (λq w'=>∃ z3:Sl,q=(z3,())/\Sat w' (pt a15 (.cells #[.int .i64 o.base,.int .i64 o.pid,.int .i64 o.epoch,.int .i64 o.seq,.int .i64 o.kind,.int .i64 o.time,.slice o.x.a o.x.len o.x.cap] T.a0)::slc T.a25 6 z3 ((z2y o (o.rs.take (i+1))).flatMap z32)::slc T.a0 7 z ([o].flatMap zr)::z10 [o]::ofP b M::dk M.A.L.d D::r)) ?_ ?_
  rotate_left
  ·rintro _ w2 ⟨z3,rfl,hs⟩
   refine zj ?_
   refine z27 (us':=[z3.v,.int .i64 ((i+1:Nat):Int)]) (by (try simp (disch:=omega) only [w64]);first|rfl|(congr;omega)) ?_
   exact z0w (o.rs.length-(i+1)) ⟨i+1,z3,rfl,by omega,rfl,hs⟩
  rw [htk]
  rcases zdh hpk with ⟨rfl,hp2⟩|⟨rfl,-,hp2⟩
  ·have e:z2y o [y]=[⟨o.pid,o.epoch,c⟩]:=by unfold z2y;rw [List.filterMap_cons,hp2];rfl
   rw [e]
   refine z0o ?_ (by simp)
   refine za hs ?_
   refine za hs ?_
   refine ze hs ?_
   refine z5m hs (xs:=z2y o (o.rs.take i)) (enc:=z32) ⟨o.pid,o.epoch,c⟩ (λz3 w' hs=>?_) rfl (by omega)
   exact zf ⟨z3,rfl,hs.sub⟩
  ·have e:z2y o [y]=[]:=by unfold z2y;rw [List.filterMap_cons,hp2];rfl
   rw [e,List.append_nil]
   refine zy ?_ (by simp)
   exact zf ⟨z2,rfl,hs.sub⟩
end
def hP:ByteArray:=ByteArray.mk #[111]
def hC:ComM:=⟨7,300,2,5⟩
def hM (d:Nat):OffA:=z8g ⟨z5t ⟨d,hP,64,30,[]⟩ 20,0,⟨0,[]⟩⟩
def hD:DiskA:=⟨65536,-1,false,[]⟩
def hB:BatM:=⟨0,3,0,0,1,9,z7k,[z4u hC 9]⟩
theorem h0 (d:Nat):(hM d).at_=0/\(hM d).C=⟨0,[]⟩/\(hM d).A.L=⟨d,hP,64,30,[]⟩:=⟨by kernel_rfl,by kernel_rfl,by kernel_rfl⟩
theorem h1 (d:Nat) (z:Sl):(z0l (hM d).A hD (z7n 3 0 0 9 z [hC])).1.2=(false,0):=by kernel_rfl
section
variable {d:Nat} {z:Sl} {q q2:(Int × Bool × Int) × PartA × DiskA}
theorem h2 (h:q=z0l (hM d).A hD (z7n 3 0 0 9 z [hC])):z06 q.2.1.L.l=[hB]/\(z0l q.2.1 q.2.2 (z1q 3 0 true 9 ⟨none,0,0⟩)).1.2=(false,0):=by subst h;exact ⟨by kernel_rfl,by kernel_rfl⟩
theorem h3 (h:q=z0l (hM d).A hD (z7n 3 0 0 9 z [hC])) (hh:q2=z0l q.2.1 q.2.2 (z1q 3 0 true 9 ⟨none,0,0⟩)):endsK ⟨0,[]⟩ (z1v q2.2.1 0 1099511627776 true).1.1=true/\(z1v q2.2.1 0 1099511627776 true).1.1.length=1 /\
  ofO (z8g ⟨q2.2.1,0,⟨0,[]⟩⟩) 7=(hC,true)/\(z8g ⟨q2.2.1,0,⟨0,[]⟩⟩).C.l.all (λa=>decide (a.r.value.size<=1000000))=true/\q2.2.1.V.op.length=0:=by subst h hh;exact ⟨by kernel_rfl,by kernel_rfl,by kernel_rfl,by kernel_rfl,by kernel_rfl⟩
theorem h4:z2y hB hB.rs=[⟨3,0,hC⟩]:=by kernel_rfl
theorem h5:z20 hC 9=(⟨ByteArray.mk #[111,48,48,55],ByteArray.mk #[172,2,2,5],false,9⟩,0):=by kernel_rfl
end
section
variable {w:World} {l r:List HP}
theorem zro (seg:Int) (hs:Sat w l):Ret P F.a186 #[.int .i64 seg] w λvs w'=>vs=[.agg #[.int .i64 (s13 seg),.int .i64 30,.int .i64 20]]/\Sat w' l :=
 zou seg <| by
  delta z02b AF AI Aa Ab Ac Ah Ar Au B8 BD
  have h1:=Int.lt_tmod_of_pos seg (b:=200) (by omega)
  have h2:=Int.tmod_lt_of_pos seg (b:=200) (by omega)
  have hb:=z06j seg
  unfold s13 at hb ⊢
  generalize Int.tmod seg 200=s at *
  refine zm hs λa0 w' hs=>?_
  refine wp_lt ?_
  refine zk (λq w'=>q=((if s<0 then 0-s else s),())/\Sat w' (pt a0 (.cells [.int .i64 0,.int .i64 0,.int .i64 0].toArray T.a35)::l)) ?_ ?_
  ·refine zg (λh=>?_) λh=>?_
   ·rw [w64 (by omega) (by omega)]
    refine wp_lt ?_
    exact zf ⟨by rw [if_pos h],hs⟩
   ·exact zf ⟨by rw [if_neg h],hs⟩
  clear hs
  rintro _ w ⟨rfl,hs⟩
  refine zj ?_
  rw [w64 (by omega) (by omega)]
  refine zl hs λw' hs=>?_
  refine ze hs ?_
  exact ⟨rfl,rfl,hs.tail⟩
set_option maxHeartbeats 2000000 in
theorem zvf (hs:Sat w l):Ret P F.a185 #[] w λvs w'=>vs=[.bool true]/\Sat w' l :=
 za1 <| by
  unfold z8r
  refine zm hs λa0 w' hs=>?_
  refine zl hs λw' hs=>?_
  refine ze hs ?_
  refine z8 (zlt hC 9 hs) λ_ w' hs=>?_
  obtain ⟨rfl,hs⟩:=hs
  rw [h5]
  refine ⟨(ByteArray.mk #[111,48,48,55],ByteArray.mk #[172,2,2,5],false,9,0,()),rfl,trivial,z2t _ _ _ _ _ ?_⟩
  refine zm hs λa10 w' hs=>?_
  refine zl hs λw' hs=>?_
  refine wp_lt ?_
  refine z8 (z064 65536 (by omega) hs) λ_ w' hs=>?_
  obtain ⟨d,rfl,hs⟩:=hs
  refine ⟨(some ⟨d,0,none⟩,0,()),rfl,trivial,z38 _ _ ?_⟩
  refine wp_lt ?_
  have hs:Sat w' (dk d hD::pt a10 (.cells #[.string (ByteArray.mk #[111,48,48,55]),.string (ByteArray.mk #[172,2,2,5]),.bool false,.int .i64 9] T.a2)::pt a0 (.cells #[.int .i64 7,.int .i64 300,.int .i64 2,.int .i64 5] T.a23)::l):=hs
  refine z8 (zro 0 hs) λ_ w' hs=>?_
  obtain ⟨rfl,hs⟩:=hs
  have e64:s13 0=64:=by decide
  rw [e64]
  refine ⟨(64,30,20,()),rfl,trivial,zhd _ _ _ ?_⟩
  have hp0:z3w hP=true:=by kernel_rfl
  have c0:Cpl hP [] hD:=zvm hP 65536 (by omega)
  have er:(z1v (z5t ⟨d,hP,64,30,[]⟩ 20) (z15 []) 1099511627776 true).1.1=[]:=by kernel_rfl
  refine z8 (z043 (d:=d) (D:=hD) hP 64 30 20 hp0 ⟨by decide,by decide⟩ (by omega) rfl c0 (λf hf=>by cases hf) ⟨by decide,by decide⟩ (by rw [er];rfl) (by rw [er];exact Nat.zero_le _) (zmh (Nat.zero_le _)) hs) λ_ w' hs=>?_
  obtain ⟨b,rfl,hs⟩:=hs
  refine ⟨(some ⟨b,0,none⟩,0,()),rfl,trivial,z38 _ _ ?_⟩
  refine wp_lt ?_
  have hs:Sat w' (ofP b (hM d)::dk d hD::pt a10 (.cells #[.string (ByteArray.mk #[111,48,48,55]),.string (ByteArray.mk #[172,2,2,5]),.bool false,.int .i64 9] T.a2)::pt a0 (.cells #[.int .i64 7,.int .i64 300,.int .i64 2,.int .i64 5] T.a23)::l):=hs
  refine za hs ?_
  refine za hs ?_
  refine z23 (by kernel_rfl) ?_
  refine ze hs ?_
  refine zrc hs (enc:=z3t) [hC] λx w' hs=>?_
  obtain ⟨m1,m2,m3⟩:=h0 d
  have md:(hM d).A.L.d=d:=by rw [m3]
  have mp:(hM d).A.L.pre=hP:=by rw [m3]
  have ml:(hM d).A.L.l=[]:=by rw [m3]
  have hcp:Cpl (hM d).A.L.pre (hM d).A.L.l hD:=by rw [mp,ml];exact c0
  have hs:Sat w' (ofP b (hM d)::dk d hD::slc T.a23 4 x ([hC].flatMap z3t)::pt a10 (.cells #[.string (ByteArray.mk #[111,48,48,55]),.string (ByteArray.mk #[172,2,2,5]),.bool false,.int .i64 9] T.a2)::pt a0 (.cells #[.int .i64 7,.int .i64 300,.int .i64 2,.int .i64 5] T.a23)::l):=hs.sub
  have hs:=gdk md.symm hs
  refine z8 (z068 (b:=b) (M:=hM d) (D:=hD) 3 0 0 9 x [hC] (λc hc=>by rw [List.mem_singleton.1 hc];decide) (by simp) (by simp) inferInstance hcp hs) λ_ w' hs=>?_
  obtain ⟨z,hv,hs⟩:=hs
  have e1:=h1 d z
  obtain ⟨q,hq⟩:∃ q,q=z0l (hM d).A hD (z7n 3 0 0 9 z [hC]):=⟨_,rfl⟩
  have hcq:=zqs (A:=(hM d).A) (D:=hD) (z7n 3 0 0 9 z [hC]) (by rw [mp];exact hp0) hcp
  obtain ⟨k1,k2,-⟩:=zsq (hM d).A hD (z7n 3 0 0 9 z [hC])
  rw [<- hq] at hv hs e1 hcq k1 k2
  rw [md] at k1 hs
  rw [mp] at k2 hcq
  have e1a:q.1.2.1=false:=by rw [e1]
  have e1b:q.1.2.2=0:=by rw [e1]
  rw [e1a,e1b] at hv
  subst hv
  refine ⟨(false,0,()),rfl,trivial,z38 _ _ ?_⟩
  refine wp_lt ?_
  refine wp_lt ?_
  obtain ⟨f1,f2⟩:=h2 hq
  have hs:Sat w' (ofP b ⟨q.2.1,0,⟨0,[]⟩⟩::dk d q.2.2::pt a10 (.cells #[.string (ByteArray.mk #[111,48,48,55]),.string (ByteArray.mk #[172,2,2,5]),.bool false,.int .i64 9] T.a2)::pt a0 (.cells #[.int .i64 7,.int .i64 300,.int .i64 2,.int .i64 5] T.a23)::l):=by
   have e:zb9 (hM d) q=⟨q.2.1,0,⟨0,[]⟩⟩:=by unfold zb9;rw [m1,m2]
   rw [e] at hs
   exact hs.sub
  refine z8 (z00h (b:=b) (M:=⟨q.2.1,0,⟨0,[]⟩⟩) 7 (by omega) (λa ha=>by cases ha) hs) λ_ w' hs=>?_
  obtain ⟨rfl,hs⟩:=hs
  refine ⟨(0,0,0,0,false,()),rfl,trivial,z2t _ _ _ _ _ ?_⟩
  refine zm hs λa37 w' hs=>?_
  refine zl hs λw' hs=>?_
  refine wp_lt ?_
  have hs:Sat w' (ofP b ⟨q.2.1,0,⟨0,[]⟩⟩::dk q.2.1.L.d q.2.2::pt a0 (.cells #[.int .i64 7,.int .i64 300,.int .i64 2,.int .i64 5] T.a23)::l):=by rw [k1];exact hs.sub
  refine z8 (zyz (b:=b) (M:=⟨q.2.1,0,⟨0,[]⟩⟩) (D:=q.2.2) hB f1 rfl (by show Cpl q.2.1.L.pre q.2.1.L.l q.2.2;rw [k2];exact hcq) hs) λ_ w' hs=>?_
  obtain ⟨y,rfl,hs⟩:=hs
  refine zb ?_
  rw [h4] at hs
  have hyl:=hs.slen y (xs:=[(⟨3,0,hC⟩:PenM)]) (enc:=z32)
  have hcq2:=zqs (A:=q.2.1) (D:=q.2.2) (z1q 3 0 true 9 ⟨none,0,0⟩) (by rw [k2];exact hp0) (by rw [k2];exact hcq)
  obtain ⟨j1,j2,-⟩:=zsq q.2.1 q.2.2 (z1q 3 0 true 9 ⟨none,0,0⟩)
  obtain ⟨q2,hq2⟩:∃ q2,q2=z0l q.2.1 q.2.2 (z1q 3 0 true 9 ⟨none,0,0⟩):=⟨_,rfl⟩
  obtain ⟨t1,t2,t3,t4,t5⟩:=h3 hq hq2
  have hs:Sat w' (ofP b ⟨q.2.1,0,⟨0,[]⟩⟩::dk q.2.1.L.d q.2.2::slc T.a25 6 y ([(⟨3,0,hC⟩:PenM)].flatMap z32)::pt a0 (.cells #[.int .i64 7,.int .i64 300,.int .i64 2,.int .i64 5] T.a23)::l):=hs.pick [1,1]
  refine z8 (z042 (b:=b) (M:=⟨q.2.1,0,⟨0,[]⟩⟩) (D:=q.2.2) 3 0 true 9 (by show Cpl q.2.1.L.pre q.2.1.L.l q.2.2;rw [k2];exact hcq) hcq2 (by show -9223372036854775808<=(0:Int)/\(0:Int)<9223372036854775808;omega) (by rw [<- hq2];exact t1) (by rw [<- hq2];show 0+_<=_;rw [t2];omega) (zmh (by rw [<- hq2,t5];omega)) hs) λ_ w' hs=>?_
  obtain ⟨hv,hs⟩:=hs
  rw [<- hq2] at hv hs f2
  have f2a:q2.1.2.1=false:=by rw [f2]
  have f2b:q2.1.2.2=0:=by rw [f2]
  rw [f2a,f2b] at hv
  rw [if_pos f2b] at hs
  subst hv
  refine ⟨(false,0,()),rfl,trivial,z38 _ _ ?_⟩
  refine wp_lt ?_
  refine wp_lt ?_
  have hs:Sat w' (ofP b (z8g ⟨q2.2.1,0,⟨0,[]⟩⟩)::dk q.2.1.L.d q2.2.2::slc T.a25 6 y ([(⟨3,0,hC⟩:PenM)].flatMap z32)::pt a0 (.cells #[.int .i64 7,.int .i64 300,.int .i64 2,.int .i64 5] T.a23)::l):=hs
  refine z8 (z00h (b:=b) (M:=z8g ⟨q2.2.1,0,⟨0,[]⟩⟩) 7 (by omega) (λa ha=>by
   have:=List.all_eq_true.1 t4 a ha
   exact of_decide_eq_true this) hs) λ_ w' hs=>?_
  obtain ⟨rfl,hs⟩:=hs
  rw [t3]
  refine ⟨(7,300,2,5,true,()),rfl,trivial,z2t _ _ _ _ _ ?_⟩
  refine zm hs λa49 w' hs=>?_
  refine zl hs λw' hs=>?_
  refine wp_lt ?_
  simp only [z057]
  refine z050 hs (xs:=[(⟨3,0,hC⟩:PenM)]) (enc:=z32) 0 (by simp) ?_
  refine ze hs ?_
  refine ze hs ?_
  rw [hyl]
  refine wp_lt ?_
  exact ⟨rfl,by kernel_rfl,hs.sub⟩
end
section
variable {w:World} {l r:List HP} {p:Nat} {R:RdM}
theorem z039 (e:Int) [hf:Fo l (rdP T.a55) p R r] (hs:Sat w l):Ret P F.a190 #[.pointer (some ⟨p,0,none⟩),.int .i64 e] w λvs w'=>vs=[]/\Sat w' (rdP T.a55 p (R.fail e)::r) :=
 zoy _ e <| by
  delta z02f AB AD AE Aa Ab Ac Aj
  obtain ⟨x,hb,hs⟩:=z1x (hs.perm hf.perm)
  refine zi ?_
  refine za hs ?_
  refine zk (λ_ w'=>Sat w' (rdP T.a55 p (R.fail e)::r)) ?_ (by rintro _ w' hs;refine zj ?_;exact ⟨rfl,rfl,hs⟩)
  refine zg (λh=>?_) λh=>?_
  ·refine zi ?_
   refine z02 hs λw' hs=>?_
   refine zf ?_
   have e1:R.fail e=⟨R.bs,R.at_,e⟩:=by unfold RdM.fail;rw [if_pos h]
   rw [e1]
   exact z0t ⟨R.bs,R.at_,e⟩ hb hs
  ·have e1:R.fail e=R:=by unfold RdM.fail;rw [if_neg h]
   rw [e1]
   exact zf (z0t R hb hs)
theorem zjv:∀ (l:List UInt8) (j:Nat),z6t (l.drop j)<=z6t l
 | [],j=>by simp
 | c::l,0=>Nat.le_refl _
 | c::l,j+1=>by
  have:=zjv l j
  rw [List.drop_succ_cons]
  show _<=c.toNat % 128+128*z6t l
  omega
theorem zvs (x:Sl) (bs:List UInt8) [hx:FocR l x 1 (bs.flatMap zh)] (hn:bs.length<=1000000000) (hs:Sat w l) :
  Ret P F.a192 #[x.v] w λvs w'=>vs=[.int .u64 ((((z2p 0 bs).getD (0,0)).1:Nat):Int),.int .i64 ((((z2p 0 bs).getD (0,0)).2:Nat):Int)]/\Sat w' l :=
 zoz x <| by
  delta z02g AF AI AO AU AY Aa Ab Ac Ag Ah B0
  have hl:=hs.slen x (xs:=bs) (enc:=zh)
  have hle:=zby bs
  refine zk (λu w'=>u=(((min (z0r bs) 10:Nat):Int),())/\Sat w' l) ?_ ?_
  ·refine z09 (λk u w=>∃ i:Nat,u=((i:Int),())/\i<=z0r bs/\i<=10/\10-i=k/\Sat w l) 10 ⟨0,rfl,by omega,by omega,rfl,hs⟩ ?_
   clear hs
   rintro k _ w ⟨i,rfl,hi,hi10,hk,hs⟩
   refine zj ?_
   refine zbh hs (xs:=bs) (enc:=zh) (((bs.getD i 0).toNat:Nat):Int) (λhg=>?_) ?_
   ·simp only [Bool.and_eq_true,decide_eq_true_eq] at hg
    refine ⟨i,by omega,rfl,?_⟩
    rw [List.getD_eq_getElem?_getD,List.getElem?_eq_getElem (by omega)]
    rfl
   refine zg (λh=>?_) λh=>?_
   ·have hib:i<bs.length:=by omega
    have hgd:bs.getD i 0=bs[i]:=by rw [List.getD_eq_getElem?_getD,List.getElem?_eq_getElem hib];rfl
    rw [hgd] at h
    refine z1u (y:=((i+1:Nat):Int)) ?_ (by rw [w64 (by omega) (by omega)];omega)
    refine z0w (10-(i+1)) ?_
    refine ⟨i+1,rfl,?_,by omega,rfl,hs⟩
    apply Nat.lt_of_le_of_ne hi
    intro e
    have:=zdb bs (by omega)
    simp only [<- e] at this
    omega
   ·refine zn (zf ⟨?_,hs⟩)
    have:i=min (z0r bs) 10:=by
     by_cases h10:i=10
     ·omega
     ·have:i=z0r bs:=by
       apply Nat.le_antisymm hi
       apply Nat.le_of_not_lt
       intro h2
       have h3:=zj2 bs i h2
       have hib:i<bs.length:=by omega
       have hgd:bs.getD i 0=bs[i]:=by rw [List.getD_eq_getElem?_getD,List.getElem?_eq_getElem hib];rfl
       rw [hgd] at h
       exact h (by omega)
      omega
    rw [<- this]
  clear hs
  rintro _ w ⟨rfl,hs⟩
  refine zj ?_
  have hnum:=zln bs 0
  refine zg (λh=>?_) λh=>?_
  ·rw [dif_neg (by omega)] at hnum
   rw [hnum]
   exact ⟨rfl,rfl,hs⟩
  have hL:z0r bs<bs.length:=by omega
  have hmin:min (z0r bs) 10=z0r bs:=by omega
  have hL10:z0r bs<10:=by omega
  rw [dif_pos ⟨hL,by omega⟩] at hnum
  rw [hmin]
  have hend:=zdb bs hL
  refine zbh hs (xs:=bs) (enc:=zh) (((bs[z0r bs]).toNat:Nat):Int) (λ_=>⟨z0r bs,hL,rfl,rfl⟩) ?_
  refine zbh hs (xs:=bs) (enc:=zh) (((bs[z0r bs]).toNat:Nat):Int) (λ_=>⟨z0r bs,hL,rfl,rfl⟩) ?_
  refine zg (λh2=>?_) λh2=>?_
  ·rw [if_pos (by omega)] at hnum
   rw [hnum]
   exact ⟨rfl,rfl,hs⟩
  rw [if_neg (by omega)] at hnum
  have h64:=(zfw hnum).2
  rw [hnum]
  refine wp_lt ?_
  refine zk (λu w'=>u=(((z6t (bs.take (z0r bs+1)):Nat):Int),())/\Sat w' l) ?_ ?_
  rotate_left
  ·rintro _ w' ⟨rfl,hs⟩
   refine zj ?_
   refine wp_lt ?_
   refine z1u (y:=((z0r bs+1:Nat):Int)) ?_ (by rw [w64 (by omega) (by omega)];omega)
   exact ⟨rfl,rfl,hs⟩
  have hpl:(bs.take (z0r bs+1)).length=z0r bs+1:=by rw [List.length_take];omega
  refine z09 (λk u w=>u=(((z6t ((bs.take (z0r bs+1)).drop k):Nat):Int),(k:Int)-1,())/\k<=z0r bs+1/\Sat w l) (z0r bs+1) ⟨?_,by omega,hs⟩ ?_
  ·rw [List.drop_eq_nil_of_le (by omega)]
   simp [z6t]
  clear hs
  rintro k _ w ⟨rfl,hk,hs⟩
  refine zj ?_
  refine zg (λhc=>?_) λhc=>?_
  rotate_left
  ·refine zn (zf ⟨?_,hs⟩)
   obtain rfl:k=0:=by omega
   rfl
  obtain ⟨j,rfl⟩:∃ j,k=j+1:=⟨k-1,by omega⟩
  have hjb:j<bs.length:=by omega
  have hd:z6t ((bs.take (z0r bs+1)).drop j)=bs[j].toNat % 128+128*z6t ((bs.take (z0r bs+1)).drop (j+1)):=by
   rw [List.drop_eq_getElem_cons (by omega),List.getElem_take];rfl
  have hv:=zjv (bs.take (z0r bs+1)) j
  refine z1w hs (xs:=bs) (enc:=zh) j hjb ?_
  have e1:IntKind.wrap .u64 (IntKind.wrap .u64 (((z6t ((bs.take (z0r bs+1)).drop (j+1)):Nat):Int)*128)+IntKind.wrap .u64 (Int.tmod ((bs[j].toNat:Nat):Int) 128))=((z6t ((bs.take (z0r bs+1)).drop j):Nat):Int):=by
   rw [z85 _ (by decide),z8h]
   have:((bs[j].toNat % Int.toNat 128:Nat):Int)=((bs[j].toNat % 128:Nat):Int):=rfl
   have e2:((z6t ((bs.take (z0r bs+1)).drop (j+1)):Nat):Int)*128=((z6t ((bs.take (z0r bs+1)).drop (j+1))*128:Nat):Int):=rfl
   rw [e2,z8h,<- Int.natCast_add,z8h,hd]
   congr 1
   show (_ % _+bs[j].toNat % 128 % _) % _=_
   omega
  refine z7r e1 ?_
  refine z1u (y:=(j:Int)-1) ?_ (by rw [w64 (by omega) (by omega)];omega)
  refine z0w j ?_
  exact ⟨rfl,by omega,hs⟩
theorem zfd [hf:Fo l (rdP T.a55) p R r] (hs:Sat w l):Ret P F.a189 #[.pointer (some ⟨p,0,none⟩)] w λvs w'=>vs=[.int .u64 ((R.uint.1:Nat):Int)]/\Sat w' (rdP T.a55 p R.uint.2::r) :=
 zox _ <| by
  delta z02e AC AD AE AF AG AU Aa Ab Ac Ad Ag Ah Aj Am Ax
  obtain ⟨x,hb,hs⟩:=z1x (hs.perm hf.perm)
  have hl:=hs.slen x (xs:=R.bs) (enc:=zh)
  refine zi ?_
  refine za hs ?_
  refine zg (λh=>?_) λh=>?_
  ·have e1:R.uint=(0,R):=by unfold RdM.uint;rw [if_pos h]
   rw [e1]
   exact ⟨rfl,rfl,z0t R hb hs⟩
  refine zw hs λw' hs=>?_
  refine zi ?_
  refine za hs ?_
  refine zi ?_
  refine za hs ?_
  refine wp_must ⟨by omega,show ((R.at_:Nat):Int)<=((x.len:Nat):Int) by omega⟩ ?_
  have hcap:x.len<=x.cap:=(hs.pick [1]).slc_cap
  rw [Int.toNat_natCast]
  have hF:FocR (pt p (.cells #[.slice x.a x.len x.cap,.int .i64 R.at_,.int .i64 R.e] T.a55)::slc T.a57 1 x (R.bs.flatMap zh)::r) ⟨z12 x.a 1 R.at_ x.cap,x.len-R.at_,x.cap-R.at_⟩ 1 ((R.bs.drop R.at_).flatMap zh):=FocR.post hcap
  refine z8 (zvs ⟨z12 x.a 1 R.at_ x.cap,x.len-R.at_,x.cap-R.at_⟩ (R.bs.drop R.at_) (by rw [List.length_drop];omega) hs) λ_ _ hs=>?_
  obtain ⟨rfl,hs⟩:=hs
  refine zb ?_
  refine wp_lt ?_
  refine wp_lt ?_
  refine zd ?_
  cases hnum:z2p 0 (R.bs.drop R.at_) with
  | none =>
   have e1:R.uint=(0,R.fail 6):=by
    have h0:R.e=0:=Decidable.not_not.1 h
    unfold RdM.uint RdM.fail;rw [if_neg (by rw [h0];simp),hnum,if_pos h0]
   refine z0o ?_ rfl
   have hs:=z0t R hb hs
   refine z8 (z039 (p:=p) 6 hs) λ_ _ hs=>?_
   obtain ⟨rfl,hs⟩:=hs
   refine zb ?_
   rw [e1]
   exact ⟨rfl,rfl,hs⟩
  | some q =>
   have hq:=zfv _ _ _ _ hnum
   rw [List.length_drop] at hq
   have e1:R.uint=(q.1,⟨R.bs,R.at_+q.2,R.e⟩):=by
    unfold RdM.uint;rw [if_neg h,hnum]
   refine zy ?_ (show ¬ ((q.2:Nat):Int)=0 by omega)
   refine zi ?_
   refine za hs ?_
   refine zi ?_
   have e2:IntKind.wrap .i64 ((R.at_:Int)+(((some q).getD (0,0)).2:Nat))=((R.at_+q.2:Nat):Int):=by
    show IntKind.wrap .i64 ((R.at_:Int)+((q.2:Nat):Int))=_
    rw [w64 (by omega) (by omega)];omega
   rw [e2]
   refine z02 hs λw' hs=>?_
   refine wp_lt ?_
   rw [e1]
   exact ⟨rfl,rfl,z0t ⟨R.bs,R.at_+q.2,R.e⟩ ⟨by show R.at_+q.2<=R.bs.length;omega,hb.2⟩ hs⟩
end
theorem zkx (k:Nat) (h:k<=9):ByteArray.extract (ByteArray.mk #[48,49,50,51,52,53,54,55,56,57]) k (k+1)=ByteArray.mk #[z5q k]:=by
 have:k=0\/k=1\/k=2\/k=3\/k=4\/k=5\/k=6\/k=7\/k=8\/k=9:=by omega
 rcases this with rfl|rfl|rfl|rfl|rfl|rfl|rfl|rfl|rfl|rfl <;> rfl
theorem zzj (c:ComM) (time:Int):(z20 c time).1.value.size<=1000000:=by
 unfold z20
 split
 ·show (z3o c).toArray.size<=_
  unfold z3o
  have h1:=(z11 c.off).2
  have h2:=(z11 c.mem).2
  have h3:=(z11 c.gen).2
  rw [List.size_toArray,List.length_append,List.length_append]
  omega
 ·exact Nat.zero_le _
section
variable {w:World} {l r:List HP}
theorem z05h (m:Nat) (hm:m<=255) (hs:Sat w l):Ret P F.a195 #[.int .i64 (m:Int)] w λvs w'=>vs=[.string ⟨(z7j m).toArray⟩]/\Sat w' l :=
 zp2 _ <| by
  delta z02j AC AF AG AR Ab
  have e1:IntKind.wrap .i64 (Int.tdiv (m:Int) 100)=((m / 100:Nat):Int):=by
   rw [za0 m (by omega),show (100:Int).toNat=100 from rfl,w64 (by omega) (by omega)]
  have e2:Int.tmod (IntKind.wrap .i64 (Int.tdiv (m:Int) 10)) 10=((m / 10 % 10:Nat):Int):=by
   rw [za0 m (by omega),show (10:Int).toNat=10 from rfl,w64 (by omega) (by omega),z85 _ (by omega),show (10:Int).toNat=10 from rfl]
  have e3:Int.tmod (m:Int) 10=((m % 10:Nat):Int):=by
   rw [z85 m (by omega),show (10:Int).toNat=10 from rfl]
  have e4:∀ k:Nat,k<=9->IntKind.wrap .i64 ((k:Int)+1)=((k+1:Nat):Int):=λk hk=>by rw [w64 (by omega) (by omega)];omega
  have b1:m / 100<=9:=by omega
  have b2:m / 10 % 10<=9:=by omega
  have b3:m % 10<=9:=by omega
  simp only [e1,e2,e3,e4 _ b1,e4 _ b2,e4 _ b3,Int.toNat_natCast,zkx _ b1,zkx _ b2,zkx _ b3]
  refine zw hs λw' hs=>?_
  refine wp_must (by omega) ?_
  refine wp_must (by omega) ?_
  refine wp_must (by show ((1+1:Nat):Int)<=_;omega) ?_
  refine wp_must (by omega) ?_
  refine wp_must (by show ((2+1:Nat):Int)<=_;omega) ?_
  refine wp_lt ?_
  refine zd ?_
  exact ⟨rfl,rfl,hs⟩
theorem zvt (c:ComM) (time:Int) (hs:Sat w l):Ret P F.a194 #[.agg (z3t c).toArray,.int .i64 time] w λvs w'=>vs=[.agg (z00 (z20 c time).1).toArray,.int .i64 (z20 c time).2]/\Sat w' l :=
 zp1 c.part c.off c.mem c.gen time <| by
  delta z02i AC AD AG AI AP Aa Ab Ac Ae Ar Au Ay Be Bp Bq Bu Bz;unfold z20
  refine zp hs λa0 w' hs=>?_
  refine zm hs λa1 w' hs=>?_
  refine za hs ?_
  refine za hs ?_
  refine za hs ?_
  refine za hs ?_
  refine za hs ?_
  refine za hs ?_
  refine za hs ?_
  refine za hs ?_
  have hcond:(decide (c.part<0) || decide (c.part>255) || decide (c.off<0) || decide (c.off>1099511627776) || decide (c.mem<0) || decide (c.mem>64) || decide (c.gen<0) || decide (c.gen>2147483647) || decide (time<0) || decide (time>1099511627776))=true↔¬ (z45 c/\(0<=time/\time<=1099511627776)):=by
   unfold z45
   simp only [Bool.or_eq_true,decide_eq_true_eq]
   omega
  by_cases h:z45 c/\(0<=time/\time<=1099511627776)
  rotate_left
  ·rw [if_neg h]
   refine z3g (hcond.2 h) ?_
   refine zl hs λw' hs=>?_
   refine ze hs ?_
   exact ⟨rfl,rfl,hs.sub⟩
  rw [if_pos h]
  refine z23 (by
   cases hb:(decide (c.part<0) || decide (c.part>255) || decide (c.off<0) || decide (c.off>1099511627776) || decide (c.mem<0) || decide (c.mem>64) || decide (c.gen<0) || decide (c.gen>2147483647) || decide (time<0) || decide (time>1099511627776)) with
   | false=>rfl
   | true=>exact absurd h (hcond.1 hb)) ?_
  obtain ⟨hm,ht⟩:=h
  obtain ⟨m1,m2,m3,m4⟩:=hm
  have l1:=(z11 c.off).2
  have l2:=(z11 c.mem).2
  have l3:=(z11 c.gen).2
  refine za hs ?_
  refine z8 (zky c.off (by omega) hs) λ_ w' hs=>?_
  obtain ⟨z1,rfl,hs⟩:=hs
  refine zb ?_
  refine za hs ?_
  refine z8 (zky c.mem (by omega) hs) λ_ w' hs=>?_
  obtain ⟨z2,rfl,hs⟩:=hs
  refine zb ?_
  refine wp_app' (xs:=uI c.off) (ys:=uI c.mem) (enc:=zh) hs (λz3 w' hs=>?_) (by omega)
  refine za hs ?_
  refine z8 (zky c.gen (by omega) hs) λ_ w' hs=>?_
  obtain ⟨z4,rfl,hs⟩:=hs
  refine zb ?_
  refine wp_app' (xs:=uI c.off++uI c.mem) (ys:=uI c.gen) (enc:=zh) hs (λz5 w' hs=>?_) (by rw [List.length_append];omega)
  have e:uI c.off++uI c.mem++uI c.gen=z3o c:=by unfold z3o;rw [List.append_assoc]
  rw [e] at hs
  refine zk (λq w'=>q=(0,())/\Sat w' (pt a1 (.cells #[.string (z13 c.part),.string ⟨(z3o c).toArray⟩,.bool false,.int .i64 time] T.a2)::l)) ?_ ?_
  ·refine zw hs λw' hs=>?_
   refine za hs ?_
   refine zrb (p:=.str) (x:=(⟨(z3o c).toArray⟩:ByteArray)) (zbd hs) ?_
   have hk:=z05h c.part.toNat (by omega) hs
   rw [show ((c.part.toNat:Nat):Int)=c.part by omega] at hk
   refine z8 hk λ_ w' hs=>?_
   obtain ⟨rfl,hs⟩:=hs
   refine zb ?_ ⟨trivial,λ_=>zbd hs⟩
   refine wp_must (by show ((1+3:Nat):Int)<=_;omega) ?_
   refine zd ?_
   have ek:ByteArray.mk #[111]++⟨(z7j c.part).toArray⟩=z13 c.part:=rfl
   rw [ek]
   refine zl hs λw' hs=>?_
   refine zd ?_
   exact zf ⟨rfl,hs.sub⟩
  clear hs
  rintro _ w ⟨rfl,hs⟩
  refine zj ?_
  refine ze hs ?_
  exact ⟨rfl,rfl,hs.sub⟩
set_option maxHeartbeats 1000000 in
theorem zxz (r:RecM) (hv:r.value.size<=1000000) (hs:Sat w l):Ret P F.a193 #[.agg (z00 r).toArray] w λvs w'=>∃ (c:ComM) (e:Int),vs=[.agg (z3t c).toArray,.int .i64 e]/\zg8 r c e/\Sat w' l :=
 zp0 r.key r.value r.gone r.time <| by
  delta z02h AB AF AO AP AQ AU Aa Ab Ac Ae Af Ah Aq Ar Au BG BI Be Bh Bj Bp
  refine zp hs λa0 w' hs=>?_
  refine zm hs λa1 w' hs=>?_
  refine za hs ?_
  refine zbj hs λy w' hs=>?_
  obtain ⟨vs,hvs⟩:∃ vs,vs=r.value.data.toList:=⟨_,rfl⟩
  rw [<- hvs] at hs
  have hvl:vs.length<=1000000:=by rw [hvs];exact hv
  have hval:∀ {c':ComM},z4r r c'->vs=z3o c':=λh=>by rw [hvs];exact (z8k h).2.2
  refine zp hs λa4 w' hs=>?_
  obtain ⟨R0,hR0⟩:∃ R0:RdM,R0=⟨vs,0,0⟩:=⟨_,rfl⟩
  have hst:stR R0=some vs:=by rw [hR0];rfl
  have hs:Sat w' (rdP T.a55 a4 R0::pt a1 (.cells #[.int .i64 0,.int .i64 0,.int .i64 0,.int .i64 0] T.a56)::pt a0 (.cells #[.string r.key,.string r.value,.bool r.gone,.int .i64 r.time] T.a2)::l):=by
   rw [hR0]
   exact z0t (x:=y) ⟨vs,0,0⟩ ⟨Nat.zero_le _,by show vs.length<=_;omega⟩ hs
  refine z8 (zfd (p:=a4) (R:=R0) hs) λ_ w' hs=>?_
  obtain ⟨rfl,hs⟩:=hs
  refine zb ?_
  refine wp_lt ?_
  refine z8 (zfd (p:=a4) (R:=R0.uint.2) hs) λ_ w' hs=>?_
  obtain ⟨rfl,hs⟩:=hs
  refine zb ?_
  refine wp_lt ?_
  refine z8 (zfd (p:=a4) (R:=R0.uint.2.uint.2) hs) λ_ w' hs=>?_
  obtain ⟨rfl,hs⟩:=hs
  refine zb ?_
  refine wp_lt ?_
  have s1:=z84 (R:=R0)
  have s2:=z84 (R:=R0.uint.2)
  have s3:=z84 (R:=R0.uint.2.uint.2)
  rw [hst] at s1
  rw [s1.2] at s2
  rw [s2.2] at s3
  have hread:∀ {c':ComM},z4r r c'->R0.uint.1=c'.off.toNat/\R0.uint.2.uint.1=c'.mem.toNat/\R0.uint.2.uint.2.uint.1=c'.gen.toNat:=λh=>by
   rw [s1.1,s2.1,s3.1,hval h]
   obtain ⟨h1,h2,h3,-⟩:=zdq h.1
   exact ⟨h1,h2,h3⟩
  have hs:Sat w' (pt a1 (.cells #[.int .i64 0,.int .i64 0,.int .i64 0,.int .i64 0] T.a56)::pt a0 (.cells #[.string r.key,.string r.value,.bool r.gone,.int .i64 r.time] T.a2)::l):=hs.tail
  clear s1 s2 s3
  generalize R0.uint.2.uint.2.uint.1=g at hread ⊢
  generalize R0.uint.2.uint.1=m at hread ⊢
  generalize R0.uint.1=o at hread ⊢
  have hcond:(decide ((o:Int)>2199023255552) || decide ((m:Int)>1000) || decide ((g:Int)>1099511627776))=true↔((o:Int)>2199023255552\/(m:Int)>1000\/(g:Int)>1099511627776):=by
   simp only [Bool.or_eq_true,decide_eq_true_eq,or_assoc]
  by_cases hcd:(o:Int)>2199023255552\/(m:Int)>1000\/(g:Int)>1099511627776
  ·refine z3g (hcond.2 hcd) ?_
   refine zl hs λw' hs=>?_
   refine ze hs ?_
   refine ⟨rfl,com0,6,rfl,.inr ⟨rfl,rfl,λc' h=>?_⟩,hs.sub⟩
   obtain ⟨q1,q2,q3⟩:=hread h
   obtain ⟨-,q5,q6,q7⟩:=h.1
   omega
  refine z23 (by
   cases hb:(decide ((o:Int)>2199023255552) || decide ((m:Int)>1000) || decide ((g:Int)>1099511627776)) with
   | false=>rfl
   | true=>exact absurd (hcond.1 hb) hcd) ?_
  rw [w64 (x:=(o:Int)) (by omega) (by omega),w64 (x:=(m:Int)) (by omega) (by omega),w64 (x:=(g:Int)) (by omega) (by omega)]
  refine zk (λq w'=>(∀ j:Nat,j<256->¬ z4r r ⟨j,o,m,g⟩)/\Sat w' (pt a1 (.cells #[.int .i64 0,.int .i64 0,.int .i64 0,.int .i64 0] T.a56)::pt a0 (.cells #[.string r.key,.string r.value,.bool r.gone,.int .i64 r.time] T.a2)::l)) ?_ ?_
  rotate_left
  ·rintro _ w2 ⟨hno,hs⟩
   refine zj ?_
   refine zl hs λw' hs=>?_
   refine ze hs ?_
   refine ⟨rfl,com0,6,rfl,.inr ⟨rfl,rfl,λc' h=>?_⟩,hs.sub⟩
   obtain ⟨q1,q2,q3⟩:=hread h
   obtain ⟨q4,q5,q6,q7⟩:=h.1
   refine hno c'.part.toNat (by omega) ?_
   have e:(⟨(c'.part.toNat:Nat),o,m,g⟩:ComM)=c':=by
    obtain ⟨a,b,d,e⟩:=c'
    simp only at q1 q2 q3 q4 q5 q6 q7
    show (⟨((a.toNat:Nat):Int),(o:Int),(m:Int),(g:Int)⟩:ComM)=⟨a,b,d,e⟩
    rw [q1,q2,q3]
    congr 1 <;> omega
   rw [e];exact h
  refine z09 (λmm q w=>∃ i:Nat,q=((i:Int),())/\i<=256/\256-i=mm/\(∀ j:Nat,j<i->¬ z4r r ⟨j,o,m,g⟩)/\Sat w (pt a1 (.cells #[.int .i64 0,.int .i64 0,.int .i64 0,.int .i64 0] T.a56)::pt a0 (.cells #[.string r.key,.string r.value,.bool r.gone,.int .i64 r.time] T.a2)::l)) 256
   ⟨0,rfl,by omega,rfl,(λj h=>absurd h (Nat.not_lt_zero _)),hs⟩ ?_
  clear hs
  rintro mm _ w ⟨i,rfl,hi,hm2,hno,hs⟩
  refine zj ?_
  refine zg (λhc=>?_) λhc=>?_
  rotate_left
  ·have:i=256:=by omega
   subst this
   exact zn (zf ⟨hno,hs⟩)
  have hil:i<=255:=by omega
  refine zm hs λa16 w' hs=>?_
  refine zl hs λw' hs=>?_
  refine ze hs ?_
  refine z8 (zvt ⟨i,o,m,g⟩ 0 hs) λ_ w' hs=>?_
  obtain ⟨rfl,hs⟩:=hs
  refine ⟨((z20 ⟨i,o,m,g⟩ 0).1.key,(z20 ⟨i,o,m,g⟩ 0).1.value,(z20 ⟨i,o,m,g⟩ 0).1.gone,(z20 ⟨i,o,m,g⟩ 0).1.time,(z20 ⟨i,o,m,g⟩ 0).2,()),rfl,trivial,z2t _ _ _ _ _ ?_⟩
  have hiff:(((z20 ⟨i,o,m,g⟩ 0).2 == 0) && ByteArray.toList (z20 ⟨i,o,m,g⟩ 0).1.key == ByteArray.toList r.key && ByteArray.toList (z20 ⟨i,o,m,g⟩ 0).1.value == ByteArray.toList r.value && !r.gone)=true↔z4r r ⟨i,o,m,g⟩:=by
   rw [zi3,zi3]
   unfold z20 z4r
   by_cases hmy:z45 ⟨i,o,m,g⟩
   ·rw [if_pos ⟨hmy,by omega⟩]
    simp only [Bool.and_eq_true,decide_eq_true_eq,Bool.not_eq_true',hmy,true_and,beq_self_eq_true]
    constructor
    ·rintro ⟨⟨h1,h2⟩,h3⟩;exact ⟨h1.symm,h2.symm,h3⟩
    ·rintro ⟨h1,h2,h3⟩;exact ⟨⟨h1.symm,h2.symm⟩,h3⟩
   ·rw [if_neg λh=>hmy h.1]
    simp [hmy]
  generalize z20 ⟨i,o,m,g⟩ 0=y at *
  obtain ⟨y,e⟩:=y
  simp only at hs hiff ⊢
  refine zm hs λa26 w' hs=>?_
  refine zl hs λw' hs=>?_
  refine wp_lt ?_
  refine za hs ?_
  refine za hs ?_
  refine za hs ?_
  refine za hs ?_
  refine za hs ?_
  by_cases hcom:z4r r ⟨i,o,m,g⟩
  ·refine z3g (hiff.2 hcom) ?_
   refine ze hs ?_
   refine zl hs λw' hs=>?_
   refine ze hs ?_
   refine zn (zn ?_)
   exact ⟨rfl,⟨i,o,m,g⟩,0,rfl,.inl ⟨rfl,hcom⟩,hs.sub⟩
  ·refine z23 (by
    cases hb:((e == 0) && ByteArray.toList y.key == ByteArray.toList r.key && ByteArray.toList y.value == ByteArray.toList r.value && !r.gone) with
    | false=>rfl
    | true=>exact absurd (hiff.1 hb) hcom) ?_
   rw [w64 (by omega) (by omega)]
   refine wp_lt ?_
   refine z27 (us':=[.int .i64 ((i+1:Nat):Int)]) (by (try simp (disch:=omega) only [w64]);first|rfl|(congr;omega)) ?_
   refine z0w (256-(i+1)) ⟨i+1,rfl,by omega,rfl,λj hj=>?_,hs.sub⟩
   by_cases h:j=i
   ·subst h;exact hcom
   ·exact hno j (by omega)
theorem z069 (c:ComM) (hs:Sat w l):Ret P F.a187 #[.agg (z3t c).toArray] w λvs w'=>vs=[.agg (z3t c).toArray]/\Sat w' l :=
 zov c.part c.off c.mem c.gen <| by
  delta z02c AD Ab Ae Ar Au BG Be
  refine zp hs λa0 w' hs=>?_
  refine zm hs λa1 w' hs=>?_
  refine za hs ?_
  refine za hs ?_
  refine za hs ?_
  refine za hs ?_
  refine zl hs λw' hs=>?_
  refine ze hs ?_
  exact ⟨rfl,rfl,hs.sub⟩
theorem zqn (c:ComM) (hs:Sat w l):Ret P F.a188 #[.agg (z3t c).toArray] w λvs w'=>vs=[.agg (z3t c).toArray]/\Sat w' l :=
 zow c.part c.off c.mem c.gen <| by
  delta z02d AD Ab Ae Ar Au BG Be
  refine zp hs λa0 w' hs=>?_
  refine zm hs λa1 w' hs=>?_
  refine za hs ?_
  refine za hs ?_
  refine za hs ?_
  refine za hs ?_
  refine zl hs λw' hs=>?_
  refine ze hs ?_
  exact ⟨rfl,rfl,hs.sub⟩
set_option maxHeartbeats 1000000 in
theorem z09a (c:ComM) (time:Int) (r:RecM) (hs:Sat w l):Ret P F.a184 #[.agg (z3t c).toArray,.int .i64 time,.agg (z00 r).toArray] w λvs w'=>vs=[.bool true]/\Sat w' l :=
 zot c.part c.off c.mem c.gen time r.key r.value r.gone r.time <| by
  delta z02a AB AC AE AG AM AQ Aa Ab Ac Ae Ah Ao Ar Au BG BH BI BJ Bc Be Bp Bq
  refine zp hs λa0 w' hs=>?_
  refine zp hs λa1 w' hs=>?_
  refine za hs ?_
  refine zk (λq w'=>∃ k:ByteArray,Sat w' (pt a1 (.cells #[.string k,.string r.value,.bool r.gone,.int .i64 r.time] T.a2)::pt a0 (.cells #[.int .i64 c.part,.int .i64 c.off,.int .i64 c.mem,.int .i64 c.gen] T.a56)::l)) ?_ ?_
  ·refine zg (λh=>?_) λh=>?_
   ·refine za hs ?_
    refine wp_must (by omega) ?_
    refine z02 hs λw' hs=>?_
    exact zf ⟨_,hs⟩
   ·exact zf ⟨_,hs⟩
  clear hs
  rintro _ w ⟨k,hs⟩
  refine zj ?_
  refine za hs ?_
  refine zk (λq w'=>∃ v:ByteArray,v.size<=60/\Sat w' (pt a1 (.cells #[.string k,.string v,.bool r.gone,.int .i64 r.time] T.a2)::pt a0 (.cells #[.int .i64 c.part,.int .i64 c.off,.int .i64 c.mem,.int .i64 c.gen] T.a56)::l)) ?_ ?_
  ·refine zg (λh=>?_) λh=>?_
   ·refine za hs ?_
    refine wp_must (by omega) ?_
    refine z02 hs λw' hs=>?_
    exact zf ⟨_,by rw [ByteArray.size_extract];omega,hs⟩
   ·exact zf ⟨_,by omega,hs⟩
  clear hs
  rintro _ w ⟨v,hv,hs⟩
  refine zj ?_
  refine ze hs ?_
  refine z8 (z069 c hs) λ_ w' hs=>?_
  obtain ⟨rfl,hs⟩:=hs
  refine ⟨(c.part,c.off,c.mem,c.gen,()),rfl,trivial,zhe _ _ _ _ ?_⟩
  refine z8 (zlt c time hs) λ_ w' hs=>?_
  obtain ⟨rfl,hs⟩:=hs
  refine ⟨((z20 c time).1.key,(z20 c time).1.value,(z20 c time).1.gone,(z20 c time).1.time,(z20 c time).2,()),rfl,trivial,z2t _ _ _ _ _ ?_⟩
  refine zm hs λa19 w' hs=>?_
  refine zl hs λw' hs=>?_
  refine wp_lt ?_
  refine ze hs ?_
  refine z8 (zvt c time hs) λ_ w' hs=>?_
  obtain ⟨rfl,hs⟩:=hs
  refine ⟨((z20 c time).1.key,(z20 c time).1.value,(z20 c time).1.gone,(z20 c time).1.time,(z20 c time).2,()),rfl,trivial,z2t _ _ _ _ _ ?_⟩
  refine zm hs λa30 w' hs=>?_
  refine zl hs λw' hs=>?_
  refine wp_lt ?_
  refine ze hs ?_
  refine ze hs ?_
  refine z23 (by simp [zcs]) ?_
  refine zk (λq w'=>Sat w' (pt a1 (.cells #[.string k,.string v,.bool r.gone,.int .i64 r.time] T.a2)::l)) ?_ ?_
  ·refine zg (λh=>?_) λh=>?_
   ·have h0:(z20 c time).2=0:=by simpa using h
    have hok:z45 c/\(0<=time/\time<=1099511627776):=by
     unfold z20 at h0
     split at h0
     ·assumption
     ·cases h0
    have hre:(z20 c time).1=z4u c time:=by unfold z20;rw [if_pos hok]
    refine ze hs ?_
    refine z8 (zba (z20 c time).1 (zzj c time) hs) λ_ w' hs=>?_
    obtain ⟨c',e',rfl,hp,hs⟩:=hs
    rw [hre] at hp
    obtain ⟨rfl,rfl⟩:=zlw hp (.inl ⟨rfl,z03q hok.1 time⟩)
    refine ⟨(c'.part,c'.off,c'.mem,c'.gen,0,()),rfl,trivial,z2t _ _ _ _ _ ?_⟩
    refine zm hs λa49 w' hs=>?_
    refine zl hs λw' hs=>?_
    refine wp_lt ?_
    refine zk (λq w'=>q=(false,())/\Sat w' (pt a1 (.cells #[.string k,.string v,.bool r.gone,.int .i64 r.time] T.a2)::l)) ?_ ?_
    ·refine zw hs λw' hs=>?_
     refine ze hs ?_
     refine zbg hs ?_
     refine zy ?_ (by simp)
     refine z8 (zqn c' hs) λ_ w' hs=>?_
     obtain ⟨rfl,hs⟩:=hs
     refine ⟨(c'.part,c'.off,c'.mem,c'.gen,()),rfl,(by first|trivial|(repeat (first|exact trivial|exact λ_=>z05 hs|exact λ_=>z0b hs|refine And.intro ?_ ?_))),zhe _ _ _ _ ?_⟩
     refine zd ?_
     exact zf ⟨by simp,hs.sub⟩
    clear hs
    rintro _ w ⟨rfl,hs⟩
    refine zj ?_
    refine zy ?_ (by simp)
    exact zf hs
   ·exact zf hs.sub
  clear hs
  rintro _ w hs
  refine zj ?_
  obtain ⟨y,hy⟩:∃ y:RecM,y=⟨k,v,r.gone,r.time⟩:=⟨_,rfl⟩
  have hs:Sat w (pt a1 (.cells #[.string y.key,.string y.value,.bool y.gone,.int .i64 y.time] T.a2)::l):=by rw [hy];exact hs
  have hyv:y.value.size<=1000000:=by rw [hy];show v.size<=_;omega
  refine ze hs ?_
  refine z8 (zba y hyv hs) λ_ w' hs=>?_
  obtain ⟨c1,e1,rfl,hp1,hs⟩:=hs
  refine ⟨(c1.part,c1.off,c1.mem,c1.gen,e1,()),rfl,trivial,z2t _ _ _ _ _ ?_⟩
  refine zm hs λa73 w' hs=>?_
  refine zl hs λw' hs=>?_
  refine wp_lt ?_
  refine ze hs ?_
  refine z8 (zxz y hyv hs) λ_ w' hs=>?_
  obtain ⟨c2,e2,rfl,hp2,hs⟩:=hs
  obtain ⟨rfl,rfl⟩:=zlw hp1 hp2
  refine ⟨(c1.part,c1.off,c1.mem,c1.gen,e1,()),rfl,trivial,z2t _ _ _ _ _ ?_⟩
  refine zm hs λa84 w' hs=>?_
  refine zl hs λw' hs=>?_
  refine wp_lt ?_
  refine zk (λq w'=>q=(true,())/\Sat w' l) ?_ ?_
  rotate_left
  ·rintro _ w2 ⟨rfl,hs⟩
   refine zj ?_
   exact ⟨rfl,rfl,hs⟩
  refine zw hs λw' hs=>?_
  refine ze hs ?_
  refine zbg hs ?_
  refine z0o ?_ (by simp)
  refine z8 (zqn c1 hs) λ_ w' hs=>?_
  obtain ⟨rfl,hs⟩:=hs
  refine ⟨(c1.part,c1.off,c1.mem,c1.gen,()),rfl,(by first|trivial|(repeat (first|exact trivial|exact λ_=>z05 hs|exact λ_=>z0b hs|refine And.intro ?_ ?_))),zhe _ _ _ _ ?_⟩
  refine zd ?_
  refine z3g (by simp) ?_
  have hs:Sat w' l:=hs.sub
  refine z8 (zvf hs) λ_ w' hs=>?_
  obtain ⟨rfl,hs⟩:=hs
  refine zb ?_
  refine wp_lt ?_
  refine zd ?_
  exact zf ⟨rfl,hs⟩
end
open Go.ChangeShapes Go.WideShapes Go.RowKit Go.Deep
section
variable {H:Type} {enc:TypeId × Value->H} {P:Program} {w:World} {base:Nat} {spare:Nat->Bool} {held:Bool}
theorem zzg {t:TypeId} {f0 f1 f2 f3:Field} {n:Nat} {cs:List Value} {y:DataW H × List MemPlace} (ht:P.underlying t=some (.struct #[f0,f1,f2,f3])) (hC:P.cellsOf t=4) (k0:P.underlying f0.type=some (.int .i64)) (k1:P.underlying f1.type=some (.int .i64)) (k2:P.underlying f2.type=some (.int .i64)) (k3:P.underlying f3.type=some (.int .i64))
  (o0:f0.offset=0) (o1:f1.offset=1) (o2:f2.offset=2) (o3:f3.offset=3) (c0:P.cellsOf f0.type=1) (c1:P.cellsOf f1.type=1) (c2:P.cellsOf f2.type=1) (c3:P.cellsOf f3.type=1)
  (hd:DataW.trod enc P w base spare held n t cs=some y):∃ r:ComM,cs=z3t r:=by
 obtain ⟨hl,n',hf⟩:=zew ht hd hC
 match cs,hl with
 | [v0,v1,v2,v3],_ =>
  obtain ⟨y0,h0⟩:=hf 0 f0 rfl
  obtain ⟨y1,h1⟩:=hf 1 f1 rfl
  obtain ⟨y2,h2⟩:=hf 2 f2 rfl
  obtain ⟨y3,h3⟩:=hf 3 f3 rfl
  rw [o0,c0] at h0
  rw [o1,c1] at h1
  rw [o2,c2] at h2
  rw [o3,c3] at h3
  obtain ⟨n0,q0,-,-⟩:=DataW.trod_int k0 h0
  obtain ⟨n1,q1,-,-⟩:=DataW.trod_int k1 h1
  obtain ⟨n2,q2,-,-⟩:=DataW.trod_int k2 h2
  obtain ⟨n3,q3,-,-⟩:=DataW.trod_int k3 h3
  simp at q0 q1 q2 q3
  subst q0 q1 q2 q3
  exact ⟨⟨n0,n1,n2,n3⟩,rfl⟩
theorem z09g {r:Reach} {b0:Nat} {t:TypeId} {f0 f1 f2 f3:Field} {v:Value} {d:DataW H} {ps:List MemPlace} (ht:P.underlying t=some (.struct #[f0,f1,f2,f3])) (hC:P.cellsOf t=4) (k0:P.underlying f0.type=some (.int .i64)) (k1:P.underlying f1.type=some (.int .i64)) (k2:P.underlying f2.type=some (.int .i64)) (k3:P.underlying f3.type=some (.int .i64))
  (o0:f0.offset=0) (o1:f1.offset=1) (o2:f2.offset=2) (o3:f3.offset=3) (c0:P.cellsOf f0.type=1) (c1:P.cellsOf f1.type=1) (c2:P.cellsOf f2.type=1) (c3:P.cellsOf f3.type=1)
  (hval:Value.okWide P w r b0 t v) (hd:DataW.Trod enc P w base spare held t v d ps):∃ c:ComM,v=.agg (z3t c).toArray:=by
 obtain ⟨cs,rfl,hsz⟩:=okWide_struct ht hval
 obtain ⟨fuel,hf⟩:=hd
 have hf:DataW.trod enc P w base spare held fuel t cs.toList=some (d,ps):=hf
 obtain ⟨c,h⟩:=zzg ht hC k0 k1 k2 k3 o0 o1 o2 o3 c0 c1 c2 c3 hf
 exact ⟨c,by rw [<- h]⟩
theorem z09h {r:Reach} {b0:Nat} {t:TypeId} {f0 f1 f2 f3:Field} {v:Value} {d:DataW H} {ps:List MemPlace} (ht:P.underlying t=some (.struct #[f0,f1,f2,f3])) (hC:P.cellsOf t=4) (k0:P.underlying f0.type=some .string) (k1:P.underlying f1.type=some .string) (k2:P.underlying f2.type=some .bool) (k3:P.underlying f3.type=some (.int .i64))
  (o0:f0.offset=0) (o1:f1.offset=1) (o2:f2.offset=2) (o3:f3.offset=3) (c0:P.cellsOf f0.type=1) (c1:P.cellsOf f1.type=1) (c2:P.cellsOf f2.type=1) (c3:P.cellsOf f3.type=1)
  (hval:Value.okWide P w r b0 t v) (hd:DataW.Trod enc P w base spare held t v d ps):∃ x:RecM,v=.agg (z00 x).toArray:=by
 obtain ⟨cs,rfl,hsz⟩:=okWide_struct ht hval
 obtain ⟨fuel,hf⟩:=hd
 have hf:DataW.trod enc P w base spare held fuel t cs.toList=some (d,ps):=hf
 obtain ⟨x,h,-⟩:=zzh ht hC k0 k1 k2 k3 o0 o1 o2 o3 c0 c1 c2 c3 hf
 exact ⟨x,by rw [<- h]⟩
end
end Go.Dec
