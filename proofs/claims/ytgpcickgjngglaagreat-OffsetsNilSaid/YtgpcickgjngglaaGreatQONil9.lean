/- What the claim of this folder leans on: our own texts, joined, without what it does not use. -/
import Derived.Test.YtgpcickgjngglaaGreatRows
import Derived.WalkKit
import Derived.ProofKit
import Derived.OpenShut
import Derived.RowKit3
import Derived.OrdersHeld
import Derived.Scope
import Derived.KernelRfl
import Derived.Laws.Sem
import Derived.Laws.StructEq
import Derived.Deep.AppendSrc
import Derived.Laws.BytesArg
import Derived.Laws.RangeString
import Derived.Maps.RangeRun
import Derived.Lib.ConvBytes
import Derived.Lib.SlBytesConst
import Derived.ChangeSlices
import Derived.ChangeMaps5
import Derived.ChangeSame
import Derived.Deep.Slices
import Derived.Deep.Fields
import Derived.Test.YtgpcickgjngglaaGreatProg
import Derived.Laws.MakeOwn
import Derived.WideKeyRuns
import Derived.DeepKeys3
import Derived.Sort.MapsRangeIn
import Derived.Sort.KeysCollected
import Derived.RangeFuncNested
import Derived.RangeFuncBound
import Derived.RangeFuncCalls
import Derived.RangeFuncLeaves
import Derived.RangeFuncBox
import Derived.OwnWalkIn
import Derived.TacticsInMore
import Derived.RegionIn
import Derived.LoopNIn
import Derived.LoopIn
import Derived.Maps.AppendAt
import Derived.Shelf.Abstract
import Derived.Shelf.Sort.Plain
import Derived.Shelf.Slices.In.SortNone
import Derived.Test.YtgpcickgjngglaaGreatQONil1
import Derived.Test.YtgpcickgjngglaaGreatQONil2
import Derived.Test.YtgpcickgjngglaaGreatQONil3
import Derived.Test.YtgpcickgjngglaaGreatQONil4
import Derived.Test.YtgpcickgjngglaaGreatQONil5
import Derived.Test.YtgpcickgjngglaaGreatQONil6
import Derived.Test.YtgpcickgjngglaaGreatQONil7
import Derived.Test.YtgpcickgjngglaaGreatQONil8
set_option linter.unusedVariables false
set_option linter.unusedSimpArgs false
namespace Go.Dec
structure PartA where
 L:LogA
 most:Int
 T:TabA
 V:ViewA
def paP (p:Nat) (A:PartA):HP:=HP.ex λM:Nat × Nat × Nat=>HP.star (pt p (.cells #[.pointer (some ⟨M.1,0,none⟩),.pointer (some ⟨A.L.d,0,none⟩),.string A.L.pre,.int .i64 A.most,.pointer (some ⟨M.2.1,0,none⟩),.pointer (some ⟨M.2.2,0,none⟩)] T.a37))
 (HP.star (lgP M.1 A.L) (HP.star (tb M.2.1 A.T) (vw M.2.2 A.V)))
def z5h (A:PartA):Int:=if A.V.op.length=0 then zt A.L.l else max (z6i A.V) (z11 A.L.l)
section
variable {w:World} {l r r1 r2 r3 r4 l':List HP} {p lg t v:Nat} {A:PartA} {D:DiskA}
theorem z4y (hs:Sat w (paP p A::l)):∃ lg t v:Nat,Sat w (pt p (.cells #[.pointer (some ⟨lg,0,none⟩),.pointer (some ⟨A.L.d,0,none⟩),.string A.L.pre,.int .i64 A.most,.pointer (some ⟨t,0,none⟩),.pointer (some ⟨v,0,none⟩)] T.a37)::lgP lg A.L::tb t A.T::vw v A.V::l):=by
 obtain ⟨⟨lg,t,v⟩,hs⟩:=hs.ex
 have hs:=hs.star
 have hs:=(hs.pick [1]).star
 have hs:=(hs.pick [1]).star
 exact ⟨lg,t,v,hs.pick [3,2,0]⟩
theorem z08e (lg t v:Nat) (hs:Sat w (pt p (.cells #[.pointer (some ⟨lg,0,none⟩),.pointer (some ⟨A.L.d,0,none⟩),.string A.L.pre,.int .i64 A.most,.pointer (some ⟨t,0,none⟩),.pointer (some ⟨v,0,none⟩)] T.a37)::lgP lg A.L::tb t A.T::vw v A.V::l)):Sat w (paP p A::l):=by
 have h1:=(hs.pick [2,2]).star_mk
 have h2:=(h1.pick [2,0]).star_mk
 exact .ex_mk (lg,t,v) ((h2.pick [1]).star_mk)
theorem z2i (A:PartA) (hs:Sat w l) [h1:FocB l p (.cells [.pointer (some ⟨lg,0,none⟩),.pointer (some ⟨A.L.d,0,none⟩),.string A.L.pre,.int .i64 A.most,.pointer (some ⟨t,0,none⟩),.pointer (some ⟨v,0,none⟩)].toArray T.a37) r1] [h2:Fo r1 lgP lg A.L r2] [h3:Fo r2 tb t A.T r3] [h4:Fo r3 vw v A.V r4] [h5:Sub r4 l']:Sat w (paP p A::l'):=by
 have hs:=hs.perm (h1.perm.trans (.cons _ (h2.perm.trans (.cons _ (h3.perm.trans (.cons _ h4.perm))))))
 have hs:Sat w (paP p A::r4):=z08e lg t v hs
 exact hs.sub
theorem zqf [hf:Fo l paP p A r] (hlen:A.L.l.length<=1000000000) (hs:Sat w l):Ret P F.a109 #[.pointer (some ⟨p,0,none⟩)] w λvs w'=>vs=[.int .i64 (zt A.L.l)]/\Sat w' (paP p A::r) :=
 zn1 _ <| by
  delta z00a AW Ac Ag Ah Ai Aq As Aw
  obtain ⟨lg,t,v,hs⟩:=z4y (hs.perm hf.perm)
  refine zx ?_ (by simp)
  refine zh ?_
  refine za hs ?_
  refine z8 (zxs (lg:=lg) (A:=A.L) hlen hs) λ_ w' hs=>?_
  obtain ⟨rfl,hs⟩:=hs
  refine zb ?_
  refine wp_lt ?_
  exact ⟨rfl,rfl,z2i A hs⟩
theorem zlf [hf:Fo l paP p A r] (hs:Sat w l):Ret P F.a107 #[.pointer (some ⟨p,0,none⟩)] w λvs w'=>vs=[.int .i64 (z11 A.L.l)]/\Sat w' (paP p A::r) :=
 zmz _ <| by
  delta z008 AW Ac Ag Ah Ai Aq As Aw
  obtain ⟨lg,t,v,hs⟩:=z4y (hs.perm hf.perm)
  refine zx ?_ (by simp)
  refine zh ?_
  refine za hs ?_
  obtain ⟨M,hM,hsl⟩:=z7p (hs.pick [1])
  refine z8 (zh4 (lg:=lg) hsl) λ_ w' hs=>?_
  obtain ⟨rfl,hs⟩:=hs
  refine zb ?_
  refine wp_lt ?_
  have hMl:M.l=A.L.l:=congrArg LogA.l hM
  have hs:=z4a M hs
  rw [hM] at hs
  rw [hMl]
  exact ⟨rfl,rfl,z2i A hs⟩
def zam (A:PartA):Prop:=∀ {w:World} {l r:List HP} {p:Nat},Fo l paP p A r->A.L.l.length<=1000000000->Sat w l->Ret P F.a112 #[.pointer (some ⟨p,0,none⟩)] w λvs w'=>vs=[.int .i64 (z5h A)]/\Sat w' (paP p A::r)
end
def zcc (A:PartA) (b:BatM):VerA × Int:=if (z1s A.T b).2≠0\/(z1s A.T b).1.again=true then z1s A.T b else ((z1s A.T b).1,z82 A.V b)
def z4r (A:PartA) (b:BatM):PartA:=⟨A.L,A.most,(zjw A.T b).2,(zjv A.V b).2⟩
def PartA.log (A:PartA) (l:List SegA):PartA:=⟨A.L.set l,A.most,A.T,A.V⟩
def zra (A:PartA) (D:DiskA) (c:BatM):(Int × Bool × Int) × PartA × DiskA :=
 if (z0t A.L.pre A.L.seg A.L.l D [c]).1.2≠0 then ((0,false,(z0t A.L.pre A.L.seg A.L.l D [c]).1.2),A.log (z0t A.L.pre A.L.seg A.L.l D [c]).2.1,(z0t A.L.pre A.L.seg A.L.l D [c]).2.2) else
 if (z0j A.L.pre (z0t A.L.pre A.L.seg A.L.l D [c]).2.1 (z0t A.L.pre A.L.seg A.L.l D [c]).2.2).1≠0 then ((0,false,(z0j A.L.pre (z0t A.L.pre A.L.seg A.L.l D [c]).2.1 (z0t A.L.pre A.L.seg A.L.l D [c]).2.2).1),A.log (z0t A.L.pre A.L.seg A.L.l D [c]).2.1,(z0j A.L.pre (z0t A.L.pre A.L.seg A.L.l D [c]).2.1 (z0t A.L.pre A.L.seg A.L.l D [c]).2.2).2) else
 (((z0t A.L.pre A.L.seg A.L.l D [c]).1.1,false,0),z4r (A.log (z0t A.L.pre A.L.seg A.L.l D [c]).2.1) (c.to (z0t A.L.pre A.L.seg A.L.l D [c]).1.1),(z0j A.L.pre (z0t A.L.pre A.L.seg A.L.l D [c]).2.1 (z0t A.L.pre A.L.seg A.L.l D [c]).2.2).2)
def z0n (A:PartA) (D:DiskA) (b:BatM):(Int × Bool × Int) × PartA × DiskA :=
 if (zcc A (b.to (zt A.L.l))).2≠0\/(zcc A (b.to (zt A.L.l))).1.again=true then (((zcc A (b.to (zt A.L.l))).1.base,(zcc A (b.to (zt A.L.l))).1.again,(zcc A (b.to (zt A.L.l))).2),A,D)
 else zra A D (b.to (zt A.L.l))
instance {n k:Int} {b:Bool}:IsR (.tup [.one (.int .i64),.one .bool,.one (.int .i64)]) [.int .i64 n,.bool b,.int .i64 k] (n,b,k,()):=⟨rfl⟩
section
variable {w:World} {l r r1 r2 r3 r4 l':List HP} {p lg t v:Nat} {A:PartA} {D:DiskA}
theorem zqk (b:BatM) [hf:Fo l paP p A r] [hb:FocR r b.x 4 (b.rs.flatMap z01)] (hs:Sat w l):Ret P F.a119 #[.pointer (some ⟨p,0,none⟩),.agg (zr b).toArray] w λvs w'=>vs=[]/\Sat w' (paP p (z4r A b)::r) :=
 zn8 _ b.base b.pid b.epoch b.seq b.kind b.time b.x <| by
  delta z00h AD AE AT AU AW Ah Ao Aq As Aw
  obtain ⟨lg,t,v,hs⟩:=z4y (hs.perm hf.perm)
  refine zp hs λa0 w' hs=>?_
  refine zy hs λw' hs=>?_
  refine zh ?_
  refine za hs ?_
  refine ze hs ?_
  refine z8 (z04d (t:=t) (A:=A.T) b hs) λ_ _ hs=>?_
  obtain ⟨rfl,hs⟩:=hs
  refine zb ?_
  refine zd ?_
  refine zy hs λw' hs=>?_
  refine zh ?_
  refine za hs ?_
  refine ze hs ?_
  refine z8 (z039 (v:=v) (A:=A.V) b hs) λ_ _ hs=>?_
  obtain ⟨rfl,hs⟩:=hs
  refine zb ?_
  refine zd ?_
  exact ⟨rfl,rfl,z2i (lg:=lg) (t:=t) (v:=v) (z4r A b) hs⟩
theorem z03r (b:BatM) (hs:Sat w l):Ret P F.a122 #[.agg (zr b).toArray] w λvs w'=>vs=[.bool (z0i b)]/\Sat w' l :=
 znb b.base b.pid b.epoch b.seq b.kind b.time b.x <| by
  delta z00k AD AM Ah Ao Az Bb
  refine zp hs λa0 w' hs=>?_
  refine za hs ?_
  refine za hs ?_
  refine wp_lt ?_
  refine ⟨rfl,?_,hs.tail⟩
  unfold z0i
  rfl
theorem z05t (b:BatM) [hf:Fo l paP p A r] [hb:FocR r b.x 4 (b.rs.flatMap z01)] (hs:Sat w l):Ret P F.a113 #[.pointer (some ⟨p,0,none⟩),.agg (zr b).toArray] w λvs w'=>vs=[.agg (zfv (zcc A b).1).toArray,.int .i64 (zcc A b).2]/\Sat w' (paP p A::r) :=
 zn4 _ b.base b.pid b.epoch b.seq b.kind b.time b.x <| by
  delta z00d AB AC AD AE AT AU AW Aa Ac Ag Ah Ai Ao Ap Aq As Aw Bg Bz Ch Ci Cl;unfold zcc
  obtain ⟨lg,t,v,hs⟩:=z4y (hs.perm hf.perm)
  refine zp hs λa0 w' hs=>?_
  refine zm hs λa1 w' hs=>?_
  refine zk (λq w'=>∃ a:Nat,q=(⟨a,0,none⟩,(z1s A.T b).2,())/\Sat w' (pt a (.cells #[.bool (z1s A.T b).1.again,.int .i64 (z1s A.T b).1.base] T.a7)::pt a1 (.cells #[.bool false,.int .i64 0] T.a7)::pt a0 (.cells #[.int .i64 b.base,.int .i64 b.pid,.int .i64 b.epoch,.int .i64 b.seq,.int .i64 b.kind,.int .i64 b.time,.slice b.x.a b.x.len b.x.cap] T.a0)::paP p A::r)) ?_ ?_
  ·refine zy hs λw' hs=>?_
   refine zh ?_
   refine z0x hs ?_
   refine zgq hs ?_
   refine ⟨?_,?_⟩
   ·refine zd ?_
    refine z8 (zfj (t:=t) (A:=A.T) b hs) λ_ _ hs=>?_
    obtain ⟨rfl,hs⟩:=hs
    refine zb ?_
    refine zm hs λa15 w' hs=>?_
    refine zl hs λw' hs=>?_
    refine wp_lt ?_
    refine zd ?_
    have hs:Sat w' (pt a15 (.cells #[.bool (z1s A.T b).1.again,.int .i64 (z1s A.T b).1.base] T.a7)::_):=hs
    refine zf ⟨a15,rfl,?_⟩
    have hs:Sat w' (paP p A::pt a15 (.cells #[.bool (z1s A.T b).1.again,.int .i64 (z1s A.T b).1.base] T.a7)::pt a1 (.cells #[.bool false,.int .i64 0] T.a7)::pt a0 (.cells #[.int .i64 b.base,.int .i64 b.pid,.int .i64 b.epoch,.int .i64 b.seq,.int .i64 b.kind,.int .i64 b.time,.slice b.x.a b.x.len b.x.cap] T.a0)::r):=z2i (lg:=lg) (t:=t) (v:=v) A hs
    exact hs.pick [1,1,1,0]
   ·refine zm hs λa17 w' hs=>?_
    refine zd ?_
    refine z8 (zfj (t:=t) (A:=A.T) b hs) λ_ _ hs=>?_
    obtain ⟨rfl,hs⟩:=hs
    refine zb ?_
    refine zl hs λw' hs=>?_
    refine wp_lt ?_
    refine zd ?_
    refine zf ⟨a17,rfl,?_⟩
    have hs:Sat w' (paP p A::pt a17 (.cells #[.bool (z1s A.T b).1.again,.int .i64 (z1s A.T b).1.base] T.a7)::pt a1 (.cells #[.bool false,.int .i64 0] T.a7)::pt a0 (.cells #[.int .i64 b.base,.int .i64 b.pid,.int .i64 b.epoch,.int .i64 b.seq,.int .i64 b.kind,.int .i64 b.time,.slice b.x.a b.x.len b.x.cap] T.a0)::r):=z2i (lg:=lg) (t:=t) (v:=v) A hs
    exact hs.pick [1,1,1,0]
  clear hs
  rintro _ w ⟨a,rfl,hs⟩
  refine z2l _ _ ?_
  generalize z1s A.T b=j at *
  obtain ⟨v0,e⟩:=j
  simp only at hs ⊢
  refine za hs ?_
  refine zg (λh=>?_) λh=>?_
  ·rw [if_pos h]
   refine ze hs ?_
   refine zl hs λw' hs=>?_
   refine wp_lt ?_
   refine ze hs ?_
   exact ⟨rfl,rfl,hs.sub⟩
  rw [if_neg h]
  refine zk (λq w'=>q=(z82 A.V b,())/\Sat w' (pt a1 (.cells #[.bool v0.again,.int .i64 v0.base] T.a7)::paP p A::r)) ?_ ?_
  ·refine zy hs λw' hs=>?_
   refine zgq hs ?_
   obtain ⟨lg,t,v,hs⟩:=z4y (hs.pick [3])
   refine zh ?_
   refine za hs ?_
   refine ze hs ?_
   refine z8 (zvf (v:=v) (A:=A.V) b hs) λ_ w' hs=>?_
   obtain ⟨rfl,hs⟩:=hs
   refine zb ?_ (by first|trivial|(repeat (first|exact trivial|exact λ_=>z06 hs|exact λ_=>z0f hs|refine And.intro ?_ ?_)))
   refine zd ?_
   refine zl hs λw' hs=>?_
   refine wp_lt ?_
   refine zd ?_
   refine zf ⟨rfl,?_⟩
   have hs:Sat w' (paP p A::pt a1 (.cells #[.bool v0.again,.int .i64 v0.base] T.a7)::r):=z2i (lg:=lg) (t:=t) (v:=v) A hs
   exact hs.pick [1]
  clear hs
  rintro _ w ⟨rfl,hs⟩
  refine zj ?_
  refine ze hs ?_
  exact ⟨rfl,rfl,hs.sub⟩
theorem zxp (pre:ByteArray) (seg:Int) (l:List SegA) (D:DiskA) (bs:List BatM):(z0t pre seg l D bs).2.1.length<=l.length+1:=by
 unfold z0t
 split
 ·exact Nat.le_succ _
 split
 ·exact Nat.le_succ _
 split
 ·split
  ·exact Nat.le_succ _
  ·unfold z4u
   split <;> simp
 split
 ·exact Nat.le_succ _
 split
 ·exact Nat.le_succ _
 ·simp
set_option maxHeartbeats 1000000 in
theorem zw4 (b:BatM) {r1:List HP} [hf:Fo l paP p A r1] [hf2:Fo r1 dk A.L.d D r] (hb:FocR r b.x 4 (b.rs.flatMap z01)) (hlen:A.L.l.length<=100000) (hok:z09 0 A.L.l) (hfl:∀ s ∈ A.L.l,s.file.length<=500000000) (hr:b.rs.length<=1000000) (hs:Sat w l) :
  Ret P F.a117 #[.pointer (some ⟨p,0,none⟩),.agg (zr b).toArray] w λvs w'=>vs=[.int .i64 (z0n A D b).1.1,.bool (z0n A D b).1.2.1,.int .i64 (z0n A D b).1.2.2]/\Sat w' (paP p (z0n A D b).2.1::dk A.L.d (z0n A D b).2.2::r) :=
 zn6 _ b.base b.pid b.epoch b.seq b.kind b.time b.x <| by
  delta z00f AB AC AD AE AM AT AU AW Aa Ac Ag Ah Ai Aj Ao Aq As Aw Ay Az B1 BB BK Be Bg Bt Bz Ch Ci;unfold z0n
  have hs:=hs.perm (hf.perm.trans (.cons _ hf2.perm))
  clear hf hf2
  have hb':FocR r (b.to (zt A.L.l)).x 4 ((b.to (zt A.L.l)).rs.flatMap z01):=hb
  have hr':(b.to (zt A.L.l)).rs.length<=1000000:=hr
  refine zp hs λa0 w' hs=>?_
  refine z8 (zqf (p:=p) (A:=A) (by omega) hs) λ_ w' hs=>?_
  obtain ⟨rfl,hs⟩:=hs
  refine zb ?_
  refine z03 hs λw' hs=>?_
  have hs:Sat w' (pt a0 (.cells (zr (b.to (zt A.L.l))).toArray T.a0)::paP p A::dk A.L.d D::r):=hs
  generalize b.to (zt A.L.l)=c at *
  have hs:Sat w' (pt a0 (.cells #[.int .i64 c.base,.int .i64 c.pid,.int .i64 c.epoch,.int .i64 c.seq,.int .i64 c.kind,.int .i64 c.time,.slice c.x.a c.x.len c.x.cap] T.a0)::paP p A::dk A.L.d D::r):=hs
  refine ze hs ?_
  refine z8 (z05t (p:=p) (A:=A) c hs) λ_ w' hs=>?_
  obtain ⟨rfl,hs⟩:=hs
  refine zb ?_
  refine zm hs λa12 w' hs=>?_
  refine zl hs λw' hs=>?_
  refine wp_lt ?_
  refine za hs ?_
  refine zg (λh=>?_) λh=>?_
  ·rw [if_pos h]
   refine zy hs λw' hs=>?_
   refine za hs ?_
   refine za hs ?_
   refine wp_lt ?_
   refine wp_lt ?_
   refine wp_lt ?_
   refine zd ?_
   exact ⟨rfl,rfl,hs.sub⟩
  rw [if_neg h]
  have hs:Sat w' (pt a0 (.cells #[.int .i64 c.base,.int .i64 c.pid,.int .i64 c.epoch,.int .i64 c.seq,.int .i64 c.kind,.int .i64 c.time,.slice c.x.a c.x.len c.x.cap] T.a0)::paP p A::dk A.L.d D::r):=hs.sub
  unfold zra
  have hlsg:=zvi (pre:=A.L.pre) (seg:=A.L.seg) (D:=D) (bs:=[c]) hok
  have hlln:=zxp A.L.pre A.L.seg A.L.l D [c]
  generalize hla:z0t A.L.pre A.L.seg A.L.l D [c]=la at *
  refine zk (λq w'=>q=(la.1.2,la.1.1,())/\Sat w' (pt a0 (.cells #[.int .i64 c.base,.int .i64 c.pid,.int .i64 c.epoch,.int .i64 c.seq,.int .i64 c.kind,.int .i64 c.time,.slice c.x.a c.x.len c.x.cap] T.a0)::paP p (A.log la.2.1)::dk A.L.d la.2.2::r)) ?_ ?_
  ·refine zy hs λw' hs=>?_
   obtain ⟨lg,t,v,hs⟩:=z4y (hs.pick [1])
   refine zh ?_
   refine z0x hs ?_
   refine ze hs ?_
   refine z6j hs (enc:=zr) [c] λy w' hs=>⟨(by first|trivial|(repeat (first|exact trivial|exact λ_=>z06 hs|exact λ_=>z0f hs|refine And.intro ?_ ?_))),?_⟩
   refine zd ?_
   refine z8 (z04w (lg:=lg) (A:=A.L) (D:=D) c y (by omega) hok hfl inferInstance inferInstance hs) λ_ w' hs=>?_
   obtain ⟨rfl,hs⟩:=hs
   rw [hla] at hs ⊢
   refine ⟨(la.1.1,la.1.2,()),rfl,trivial,z2l _ _ ?_⟩
   refine wp_lt ?_
   refine wp_lt ?_
   refine zd ?_
   refine zf ⟨rfl,?_⟩
   have hs:Sat w' (lgP lg (A.log la.2.1).L::_):=hs
   have hs:Sat w' (paP p (A.log la.2.1)::dk A.L.d la.2.2::pt a0 (.cells #[.int .i64 c.base,.int .i64 c.pid,.int .i64 c.epoch,.int .i64 c.seq,.int .i64 c.kind,.int .i64 c.time,.slice c.x.a c.x.len c.x.cap] T.a0)::r):=z2i (lg:=lg) (t:=t) (v:=v) (A.log la.2.1) hs
   exact hs.pick [2]
  clear hs
  rintro _ w ⟨rfl,hs⟩
  refine z2l _ _ ?_
  obtain ⟨⟨at_,e⟩,l',D'⟩:=la
  simp only at hs hlsg hlln ⊢
  refine zk (λq w'=>q=((if e≠0 then e else (z0j A.L.pre l' D').1),())/\Sat w' (pt a0 (.cells #[.int .i64 c.base,.int .i64 c.pid,.int .i64 c.epoch,.int .i64 c.seq,.int .i64 c.kind,.int .i64 c.time,.slice c.x.a c.x.len c.x.cap] T.a0)::paP p (A.log l')::dk A.L.d (if e≠0 then D' else (z0j A.L.pre l' D').2)::r)) ?_ ?_
  ·refine zg (λh1=>?_) λh1=>?_
   ·have hs:Sat w (paP p (A.log l')::pt a0 (.cells #[.int .i64 c.base,.int .i64 c.pid,.int .i64 c.epoch,.int .i64 c.seq,.int .i64 c.kind,.int .i64 c.time,.slice c.x.a c.x.len c.x.cap] T.a0)::dk (A.log l').L.d D'::r):=hs.pick [1]
    obtain ⟨lg,t,v,hs⟩:=z4y hs
    refine zh ?_
    refine za hs ?_
    refine z8 (zxu (lg:=lg) (A:=(A.log l').L) (D:=D') (by show l'.length<=_;omega) hlsg hs) λ_ w' hs=>?_
    obtain ⟨rfl,hs⟩:=hs
    refine zb ?_
    refine wp_lt ?_
    refine zf ⟨?_,?_⟩
    ·rw [if_neg (by simpa using h1)];rfl
    ·rw [if_neg (by simpa using h1)]
     have hs:Sat w' (lgP lg (A.log l').L::dk A.L.d (z0j A.L.pre l' D').2::_):=hs
     have hs:Sat w' (paP p (A.log l')::dk A.L.d (z0j A.L.pre l' D').2::pt a0 (.cells #[.int .i64 c.base,.int .i64 c.pid,.int .i64 c.epoch,.int .i64 c.seq,.int .i64 c.kind,.int .i64 c.time,.slice c.x.a c.x.len c.x.cap] T.a0)::r):=z2i (lg:=lg) (t:=t) (v:=v) (A.log l') hs
     exact hs.pick [2]
   ·refine zf ⟨?_,?_⟩
    ·rw [if_pos (by simpa using h1)]
    ·rw [if_pos (by simpa using h1)];exact hs
  clear hs
  rintro _ w ⟨rfl,hs⟩
  refine zj ?_
  by_cases he:e≠0
  ·rw [if_pos he] at hs ⊢
   rw [if_pos he]
   refine z0b ?_ (by simpa using he)
   refine wp_lt ?_
   exact ⟨rfl,rfl,hs.sub⟩
  rw [if_neg he] at hs ⊢
  rw [if_neg he]
  refine zg (λh2=>?_) λh2=>?_
  ·rw [if_pos h2]
   refine wp_lt ?_
   exact ⟨rfl,rfl,hs.sub⟩
  rw [if_neg h2]
  refine z03 hs λw' hs=>?_
  refine ze hs ?_
  have hb2:FocR r (c.to at_).x 4 ((c.to at_).rs.flatMap z01):=hb'
  refine z8 (zql (c.to at_) hr' hs) λ_ w' hs=>?_
  obtain ⟨z,rfl,hs⟩:=hs
  refine ⟨(at_,c.pid,c.epoch,c.seq,c.kind,c.time,z,()),rfl,trivial,zjx _ _ _ _ _ _ _ ?_⟩
  have hb3:FocR (slc T.a2 4 z ((c.to at_).rs.flatMap z01)::dk A.L.d (z0j A.L.pre l' D').2::r) ((c.to at_).at z).x 4 (((c.to at_).at z).rs.flatMap z01):=(FocR.head:FocR (slc T.a2 4 z ((c.to at_).rs.flatMap z01)::_) z 4 ((c.to at_).rs.flatMap z01))
  have hs:Sat w' (paP p (A.log l')::slc T.a2 4 z ((c.to at_).rs.flatMap z01)::dk A.L.d (z0j A.L.pre l' D').2::r):=hs.sub
  refine z8 (zqk (p:=p) (A:=A.log l') ((c.to at_).at z) hs) λ_ w' hs=>?_
  obtain ⟨rfl,hs⟩:=hs
  refine zb ?_
  refine wp_lt ?_
  have hs:Sat w' (paP p (z4r (A.log l') (c.to at_))::_):=hs
  exact ⟨rfl,rfl,hs.sub⟩
theorem zw1 (b:BatM) {r1:List HP} [hf:Fo l paP p A r1] [hf2:Fo r1 dk A.L.d D r] (hb:FocR r b.x 4 (b.rs.flatMap z01)) (hlen:A.L.l.length<=100000) (hok:z09 0 A.L.l) (hfl:∀ s ∈ A.L.l,s.file.length<=500000000) (hr:b.rs.length<=1000000) (hm:z0i b=false) (hs:Sat w l) :
  Ret P F.a104 #[.pointer (some ⟨p,0,none⟩),.agg (zr b).toArray] w λvs w'=>vs=[.int .i64 (z0n A D b).1.1,.bool (z0n A D b).1.2.1,.int .i64 (z0n A D b).1.2.2]/\Sat w' (paP p (z0n A D b).2.1::dk A.L.d (z0n A D b).2.2::r) :=
 zmx _ b.base b.pid b.epoch b.seq b.kind b.time b.x <| by
  delta z006 AD AE AJ AM Ag Ah Ai Ao Aq Ar BV
  have hs:=hs.perm (hf.perm.trans (.cons _ hf2.perm))
  clear hf hf2
  refine zp hs λa0 w' hs=>?_
  refine wp_lt ?_
  refine zx ?_ (by simp)
  refine ze hs ?_
  refine z8 (z03r b hs) λ_ w' hs=>?_
  obtain ⟨rfl,hs⟩:=hs
  refine zb ?_
  refine wp_lt ?_
  refine zx ?_ (by rw [hm];simp)
  refine ze hs ?_
  have hs:=hs.pick [1,1]
  refine z8 (zw4 (p:=p) (A:=A) (D:=D) b inferInstance hlen hok hfl hr hs) λ_ w' hs=>?_
  obtain ⟨rfl,hs⟩:=hs
  refine zb ?_
  refine wp_lt ?_
  refine wp_lt ?_
  refine wp_lt ?_
  exact ⟨rfl,rfl,hs.sub⟩
def z1p (pid epoch:Int) (commit:Bool) (time:Int) (x:Sl):BatM:=⟨0,pid,epoch,0,if commit then 2 else 3,time,x,[]⟩
theorem z042 (pid epoch:Int) (commit:Bool) (time:Int) (hs:Sat w l):Ret P F.a128 #[.int .i64 pid,.int .i64 epoch,.bool commit,.int .i64 time] w λvs w'=>vs=[.agg (zr (z1p pid epoch commit time ⟨none,0,0⟩)).toArray]/\Sat w' l :=
 znh _ _ _ _ <| by
  delta z00r AB AC AD AE Ac Ah Ai Ax Be
  refine zm hs λa0 w' hs=>?_
  refine zm hs λa1 w' hs=>?_
  refine zl hs λw' hs=>?_
  refine zk (λq w'=>Sat w' (pt a1 (.cells (zr (z1p pid epoch commit time ⟨none,0,0⟩)).toArray T.a0)::pt a0 (.cells #[.int .i64 0,.int .i64 0,.int .i64 0,.int .i64 0,.int .i64 0,.int .i64 0,.slice none 0 0] T.a0)::l)) ?_ ?_
  ·cases commit with
   | true =>
    refine z0b ?_ (by simp)
    refine z03 hs λw' hs=>?_
    exact zf hs
   | false =>
    refine zx ?_ (by simp)
    exact zf hs
  clear hs
  rintro _ w hs
  have hs:Sat w (pt a1 (.cells #[.int .i64 0,.int .i64 pid,.int .i64 epoch,.int .i64 0,.int .i64 (if commit then 2 else 3),.int .i64 time,.slice none 0 0] T.a0)::pt a0 (.cells #[.int .i64 0,.int .i64 0,.int .i64 0,.int .i64 0,.int .i64 0,.int .i64 0,.slice none 0 0] T.a0)::l):=hs
  refine zj ?_
  refine ze hs ?_
  refine zl hs λw' hs=>?_
  refine ze hs ?_
  exact ⟨rfl,rfl,hs.tail.tail⟩
theorem z03p (pid epoch:Int) (commit:Bool) (time:Int) {r1:List HP} [hf:Fo l paP p A r1] [hf2:Fo r1 dk A.L.d D r] (hlen:A.L.l.length<=100000) (hok:z09 0 A.L.l) (hfl:∀ s ∈ A.L.l,s.file.length<=500000000) (hs:Sat w l) :
  Ret P F.a108 #[.pointer (some ⟨p,0,none⟩),.int .i64 pid,.int .i64 epoch,.bool commit,.int .i64 time] w λvs w'=>vs=[.int .i64 (z0n A D (z1p pid epoch commit time ⟨none,0,0⟩)).1.1,.bool (z0n A D (z1p pid epoch commit time ⟨none,0,0⟩)).1.2.1,.int .i64 (z0n A D (z1p pid epoch commit time ⟨none,0,0⟩)).1.2.2]/\Sat w' (paP p (z0n A D (z1p pid epoch commit time ⟨none,0,0⟩)).2.1::dk A.L.d (z0n A D (z1p pid epoch commit time ⟨none,0,0⟩)).2.2::r) :=
 zn0 _ _ _ _ _ <| by
  delta z009 AD AM Ac Ag Ah Ai Aq BV Bt
  have hs:=hs.perm (hf.perm.trans (.cons _ hf2.perm))
  clear hf hf2
  refine zx ?_ (by simp)
  refine z8 (z042 pid epoch commit time hs) λ_ w' hs=>?_
  obtain ⟨rfl,hs⟩:=hs
  refine ⟨(0,pid,epoch,0,(if commit then 2 else 3),time,⟨none,0,0⟩,()),rfl,trivial,zjx _ _ _ _ _ _ _ ?_⟩
  have hs:Sat w' (slc T.a2 4 ⟨none,0,0⟩ (([]:List RecM).flatMap z01)::_):=hs.slc_nil
  have hb:FocR (slc T.a2 4 ⟨none,0,0⟩ (([]:List RecM).flatMap z01)::r) (z1p pid epoch commit time ⟨none,0,0⟩).x 4 ((z1p pid epoch commit time ⟨none,0,0⟩).rs.flatMap z01):=(FocR.head:FocR (slc T.a2 4 ⟨none,0,0⟩ (([]:List RecM).flatMap z01)::r) ⟨none,0,0⟩ 4 (([]:List RecM).flatMap z01))
  have hs:Sat w' (paP p A::dk A.L.d D::slc T.a2 4 ⟨none,0,0⟩ (([]:List RecM).flatMap z01)::r):=hs.sub
  refine z8 (zw4 (p:=p) (A:=A) (D:=D) (z1p pid epoch commit time ⟨none,0,0⟩) hb hlen hok hfl (by show 0<=_;omega) hs) λ_ w' hs=>?_
  obtain ⟨rfl,hs⟩:=hs
  refine zb ?_
  refine wp_lt ?_
  refine wp_lt ?_
  refine wp_lt ?_
  exact ⟨rfl,rfl,hs.sub⟩
end
def z2u (A:PartA) (c:Bool):Int->List BatM->List AtM × Int
 | n,[]=>([],n)
 | n,b::bs=>if c=true/\b.base>=z5h A then ([],n) else ((if c=false\/z6p A.V b=1 then z2c b else [])++(z2u A c (z1o b) bs).1,(z2u A c (z1o b) bs).2)
def z1v (A:PartA) (off most:Int) (c:Bool):(List AtM × Int) × Int:=if (z4f A.L.l off most).1≠0 then (([],0),(z4f A.L.l off most).1) else (z2u A c off (z4f A.L.l off most).2,0)
theorem zqc (A:PartA) (c:Bool):∀ (bs:List BatM) (n:Int),z2u A c n (bs.map BatM.p)=z2u A c n bs
 | [],n=>rfl
 | b::bs,n=>by
  have ih:=zqc A c bs (z1o b)
  show (if c=true/\b.base>=z5h A then (([]:List AtM),n) else ((if c=false\/z6p A.V b=1 then z2c b else [])++(z2u A c (z1o b) (bs.map BatM.p)).1,(z2u A c (z1o b) (bs.map BatM.p)).2))=_
  rw [ih]
  rfl
theorem zix {A:PartA} {c:Bool} {n:Int} {b:BatM} {bs:List BatM} (h:c=true/\b.base>=z5h A):z2u A c n (b::bs)=([],n):=if_pos h
theorem zqd {A:PartA} {c:Bool} {n:Int} {b:BatM} {bs:List BatM} (h:¬ (c=true/\b.base>=z5h A)):z2u A c n (b::bs)=((if c=false\/z6p A.V b=1 then z2c b else [])++(z2u A c (z1o b) bs).1,(z2u A c (z1o b) bs).2):=if_neg h
theorem zw7 (l:List SegA) (off most:Int):(z4f l off most).2.length<=(z05 l).length:=by
 unfold z4f
 split
 ·exact Nat.zero_le _
 split
 ·exact Nat.zero_le _
 ·simp only [List.length_take]
  exact Nat.le_trans (Nat.min_le_right _ _) (List.length_filterMap_le ..)
theorem zyp {l:List SegA} {off most:Int} {b:BatM} (hok:z09 0 l) (h:b ∈ (z4f l off most).2):b.rs.length<=64:=by
 unfold z4f at h
 split at h
 ·cases h
 split at h
 ·cases h
 ·obtain ⟨c,hc,hf⟩:=List.mem_filterMap.1 (List.mem_of_mem_take h)
  have hv:=((z90 (Int.le_refl 0) hok).valid c hc).1
  have h64:=(z22 hv).1
  unfold z0o at hf
  split at hf
  ·cases hf
  split at hf
  ·cases hf;exact h64
  ·cases hf
   show (c.rs.drop _).length<=64
   rw [List.length_drop];omega
section
variable {w:World} {l r:List HP} {p:Nat} {A:PartA} {D:DiskA}
set_option maxHeartbeats 1000000 in
theorem z03v (hst:zam A) (off most:Int) (c:Bool) (ho : -9223372036854775808<=off/\off<9223372036854775808) (hmo:most<9223372036854775808) {r1:List HP} [hf:Fo l paP p A r1] [hf2:Fo r1 dk A.L.d D r] (hok:z09 0 A.L.l) (hhas:zk0 A.L.pre A.L.l D) (hlen:A.L.l.length<=1000000) (hall:(z05 A.L.l).length<=1000000) (hs:Sat w l) :
  Ret P F.a110 #[.pointer (some ⟨p,0,none⟩),.int .i64 off,.int .i64 most,.bool c] w λvs w'=>∃ z:Sl,vs=[z.v,.int .i64 (z1v A off most c).1.2,.int .i64 (z1v A off most c).2]/\Sat w' (slc T.a38 5 z ((z1v A off most c).1.1.flatMap z08)::paP p A::dk A.L.d D::r) :=
 zn2 _ off most c <| by
  delta z00b AA AB AC AD AE AK AO AT AU AW AZ Ac Ad Af Ag Ah Ai Aj Ak An Aq As Aw Bp Cc;unfold z1v
  have hs:=hs.perm (hf.perm.trans (.cons _ hf2.perm))
  clear hf hf2
  obtain ⟨lg,t,v,hs⟩:=z4y hs
  refine zx ?_ (by simp)
  refine zh ?_
  refine za hs ?_
  refine z8 (zq2 (lg:=lg) (A:=A.L) (D:=D) off most ho hmo hok hhas hlen hall hs) λ_ w' hs=>?_
  obtain ⟨y,outs,rfl,hmap,hs⟩:=hs
  refine ⟨(y,(z4f A.L.l off most).1,()),rfl,trivial,z2l _ _ ?_⟩
  have hs:Sat w' (slc T.a0 7 y (outs.flatMap zr)::z0y outs::paP p A::dk A.L.d D::r):=by
   have hs:Sat w' (paP p A::slc T.a0 7 y (outs.flatMap zr)::z0y outs::dk A.L.d D::r):=z2i (lg:=lg) (t:=t) (v:=v) A hs
   exact hs.pick [1,1]
  refine wp_lt ?_
  refine zg (λh=>?_) λh=>?_
  ·rw [if_pos h]
   refine wp_lt ?_
   have hs:Sat w' (slc T.a38 5 ⟨none,0,0⟩ (([]:List AtM).flatMap z08)::_):=hs.slc_nil
   exact ⟨rfl,⟨none,0,0⟩,rfl,hs.sub⟩
  rw [if_neg h,<- hmap,zqc]
  have hol:outs.length<=1000000:=by
   have:=congrArg List.length hmap
   rw [List.length_map] at this
   rw [this]
   exact Nat.le_trans (zw7 _ _ _) hall
  have hov:∀ b ∈ outs,b.rs.length<=64:=λb hb=>by
   have h1:b.p ∈ (z4f A.L.l off most).2:=by rw [<- hmap];exact List.mem_map.2 ⟨b,hb,rfl⟩
   have h2:=zyp hok h1
   exact h2
  have hly:=hs.slen y (xs:=outs) (enc:=zr)
  refine wp_lt ?_
  refine zk (λq w'=>∃ z:Sl,q=(z,(z2u A c off outs).2,())/\Sat w' (slc T.a38 5 z ((z2u A c off outs).1.flatMap z08)::paP p A::dk A.L.d D::r)) ?_ ?_
  rotate_left
  ·rintro _ w2 ⟨z,rfl,hs⟩
   refine z2l _ _ ?_
   refine wp_lt ?_
   exact ⟨rfl,z,rfl,hs⟩
  have hs:Sat w' (slc T.a38 5 ⟨none,0,0⟩ (([]:List AtM).flatMap z08)::slc T.a0 7 y (outs.flatMap zr)::z0y outs::paP p A::dk A.L.d D::r):=hs.slc_nil
  refine z0a (λm q w=>∃ (i:Nat) (z:Sl) (n:Int) (done:List AtM),q=(z,n,(i:Int),())/\i<=outs.length/\outs.length-i=m/\done.length<=64*i /\
   z2u A c off outs=(done++(z2u A c n (outs.drop i)).1,(z2u A c n (outs.drop i)).2) /\
   Sat w (slc T.a38 5 z (done.flatMap z08)::slc T.a0 7 y (outs.flatMap zr)::z0y outs::paP p A::dk A.L.d D::r)) outs.length
   ⟨0,⟨none,0,0⟩,off,[],rfl,by omega,rfl,by simp,by simp,hs⟩ ?_
  clear hs
  rintro m _ w ⟨i,z,n,done,rfl,hi,hm,hdl,hq,hs⟩
  refine zgr _ _ _ ?_
  refine zg (λhc=>?_) λhc=>?_
  rotate_left
  ·have e:outs.drop i=[]:=List.drop_eq_nil_of_le (by omega)
   rw [e] at hq
   have hq:z2u A c off outs=(done++[],n):=hq
   rw [List.append_nil] at hq
   refine zo (zf ⟨z,by rw [hq],?_⟩)
   rw [hq]
   exact hs.sub
  have hil:i<outs.length:=by omega
  have hdrop:outs.drop i=outs[i]::outs.drop (i+1):=List.drop_eq_getElem_cons hil
  rw [hdrop] at hq
  have hrl:outs[i].rs.length<=64:=hov _ (List.getElem_mem hil)
  generalize hb:outs[i]=b at *
  have hbm:b ∈ outs:=by rw [<- hb];exact List.getElem_mem hil
  refine z35 hs i hil ?_
  rw [hb]
  refine zm hs λa w' hs=>?_
  refine zl hs λw' hs=>?_
  have hbr:FocR (z0y outs::paP p A::dk A.L.d D::r) b.x 4 (b.rs.flatMap z01):=zao hbm
  have hs:Sat w' (pt a (.cells #[.int .i64 b.base,.int .i64 b.pid,.int .i64 b.epoch,.int .i64 b.seq,.int .i64 b.kind,.int .i64 b.time,.slice b.x.a b.x.len b.x.cap] T.a0)::slc T.a38 5 z (done.flatMap z08)::slc T.a0 7 y (outs.flatMap zr)::z0y outs::paP p A::dk A.L.d D::r):=hs
  refine zk (λq w'=>q=(decide (c=true/\b.base>=z5h A),())/\Sat w' (pt a (.cells #[.int .i64 b.base,.int .i64 b.pid,.int .i64 b.epoch,.int .i64 b.seq,.int .i64 b.kind,.int .i64 b.time,.slice b.x.a b.x.len b.x.cap] T.a0)::slc T.a38 5 z (done.flatMap z08)::slc T.a0 7 y (outs.flatMap zr)::z0y outs::paP p A::dk A.L.d D::r)) ?_ ?_
  ·refine zy hs λw' hs=>?_
   refine z0x hs ?_
   cases c with
   | false =>
    refine zx ?_ (by simp)
    refine zd ?_
    exact zf ⟨by simp,hs⟩
   | true =>
    refine z0b ?_ (by simp)
    refine z8 (hst (p:=p) inferInstance (by omega) hs) λ_ w' hs=>?_
    obtain ⟨rfl,hs⟩:=hs
    refine zb ?_ (by first|trivial|(repeat (first|exact trivial|exact λ_=>z06 hs|exact λ_=>z0f hs|refine And.intro ?_ ?_)))
    refine zd ?_
    exact zf ⟨by simp,hs.pick [1,1,1,1]⟩
  clear hs
  rintro _ w ⟨rfl,hs⟩
  refine zj ?_
  by_cases hstop:c=true/\b.base>=z5h A
  ·refine z0b ?_ (by simpa using hstop)
   have hq:z2u A c off outs=(done++[],n):=by
    rw [hq,zix hstop]
   rw [List.append_nil] at hq
   refine zo (zf ⟨z,by rw [hq],?_⟩)
   rw [hq]
   exact hs.sub
  refine zx ?_ (by simpa using hstop)
  have hq:z2u A c off outs=(done++((if c=false\/z6p A.V b=1 then z2c b else [])++(z2u A c (z1o b) (outs.drop (i+1))).1),(z2u A c (z1o b) (outs.drop (i+1))).2):=by
   rw [hq,zqd hstop]
  refine zk (λq w'=>q=(decide (c=false\/z6p A.V b=1),())/\Sat w' (pt a (.cells #[.int .i64 b.base,.int .i64 b.pid,.int .i64 b.epoch,.int .i64 b.seq,.int .i64 b.kind,.int .i64 b.time,.slice b.x.a b.x.len b.x.cap] T.a0)::slc T.a38 5 z (done.flatMap z08)::slc T.a0 7 y (outs.flatMap zr)::z0y outs::paP p A::dk A.L.d D::r)) ?_ ?_
  ·refine zy hs λw' hs=>?_
   obtain ⟨lg,t,v,hs⟩:=z4y (hs.pick [4])
   refine z0k ?_
   refine za hs ?_
   refine ze hs ?_
   cases c with
   | false =>
    refine z0b ?_ (by simp)
    refine zd ?_
    refine zf ⟨by simp,?_⟩
    have hs:Sat w' (paP p A::pt a (.cells #[.int .i64 b.base,.int .i64 b.pid,.int .i64 b.epoch,.int .i64 b.seq,.int .i64 b.kind,.int .i64 b.time,.slice b.x.a b.x.len b.x.cap] T.a0)::slc T.a38 5 z (done.flatMap z08)::slc T.a0 7 y (outs.flatMap zr)::z0y outs::dk A.L.d D::r):=z2i (lg:=lg) (t:=t) (v:=v) A hs
    exact hs.pick [1,1,1,1]
   | true =>
    refine zx ?_ (by simp)
    refine z8 (z038 (v:=v) (A:=A.V) b hs) λ_ w' hs=>?_
    obtain ⟨rfl,hs⟩:=hs
    refine zb ?_
    refine zd ?_
    refine zf ⟨?_,?_⟩
    ·have:(z6p A.V b == 1)=decide (true=false\/z6p A.V b=1):=by rw [Bool.eq_iff_iff];simp
     rw [this]
    have hs:Sat w' (paP p A::pt a (.cells #[.int .i64 b.base,.int .i64 b.pid,.int .i64 b.epoch,.int .i64 b.seq,.int .i64 b.kind,.int .i64 b.time,.slice b.x.a b.x.len b.x.cap] T.a0)::slc T.a38 5 z (done.flatMap z08)::slc T.a0 7 y (outs.flatMap zr)::z0y outs::dk A.L.d D::r):=z2i (lg:=lg) (t:=t) (v:=v) A hs
    exact hs.pick [1,1,1,1]
  clear hs
  rintro _ w ⟨rfl,hs⟩
  refine zj ?_
  have hfl:=zie b
  refine zk (λq w'=>∃ z':Sl,q=(z',())/\Sat w' (pt a (.cells #[.int .i64 b.base,.int .i64 b.pid,.int .i64 b.epoch,.int .i64 b.seq,.int .i64 b.kind,.int .i64 b.time,.slice b.x.a b.x.len b.x.cap] T.a0)::slc T.a38 5 z' ((done++(if c=false\/z6p A.V b=1 then z2c b else [])).flatMap z08)::slc T.a0 7 y (outs.flatMap zr)::z0y outs::paP p A::dk A.L.d D::r)) ?_ ?_
  ·by_cases hd:c=false\/z6p A.V b=1
   ·refine z0b ?_ (by simpa using hd)
    rw [if_pos hd]
    refine ze hs ?_
    refine zr3 hs (enc:=zr) [b] λx1 w' hs=>?_
    refine z8 (z058 x1 [b] (λb' hb'=>by rw [List.mem_singleton.1 hb'];infer_instance) (by simp) (λb' hb'=>by rw [List.mem_singleton.1 hb'];omega) hs) λ_ w' hs=>?_
    obtain ⟨z2,rfl,hs⟩:=hs
    refine zb ?_
    have e:z4p [b]=z2c b:=by simp [z4p]
    rw [e] at hs
    refine wp_app' (xs:=done) (ys:=z2c b) (enc:=z08) hs (λz3 w' hs=>?_) (by omega)
    refine zf ⟨z3,rfl,?_⟩
    exact hs.sub
   ·refine zx ?_ (by simpa using hd)
    rw [if_neg hd,List.append_nil]
    exact zf ⟨z,rfl,hs⟩
  clear hs
  rintro _ w ⟨z',rfl,hs⟩
  refine zj ?_
  refine ze hs ?_
  refine z8 (z92 b hs) λ_ w' hs=>?_
  obtain ⟨rfl,hs⟩:=hs
  refine zb ?_
  refine wp_lt ?_
  refine z28 (us':=[z'.v,.int .i64 (z1o b),.int .i64 ((i+1:Nat):Int)]) (by (try simp (disch:=omega) only [w64]);first|rfl|(congr;omega)) ?_
  refine z0w (outs.length-(i+1)) ⟨i+1,z',z1o b,done++(if c=false\/z6p A.V b=1 then z2c b else []),rfl,by omega,rfl,?_,?_,hs.sub⟩
  ·rw [List.length_append]
   split
   ·omega
   ·simp only [List.length_nil];omega
  ·rw [hq,List.append_assoc]
end
section
variable {w:World} {l r:List HP}
theorem z032 (x:Sl) (bs:List UInt8) [hx:FocR l x 1 (bs.flatMap zi)] (hcap:x.len<=x.cap) (hn:bs.length<=1000000000) (hs:Sat w l) :
  Ret P F.a51 #[x.v] w λvs w'=>∃ z:Sl,vs=[z.v,.bool (zjp bs).isSome]/\Sat w' (slc T.a56 1 z (((zjp bs).getD []).flatMap zi)::l) :=
 ztx x <| by
  delta z07g AM Ac Ad Ag Ah Bl
  have hl:=hs.slen x (xs:=bs) (enc:=zi)
  refine z8 (zbb x bs hcap hn hs) λ_ _ hs=>?_
  obtain ⟨z,rfl,hs⟩:=hs
  refine zb ?_
  refine wp_lt ?_
  refine wp_lt ?_
  unfold zjp
  cases hf:z0u bs with
  | none =>
   refine z0b ?_ (by simp)
   exact ⟨rfl,⟨none,0,0⟩,rfl,(hs.tail).slc_nil⟩
  | some q =>
   obtain ⟨body,n⟩:=q
   rw [hf] at hs
   dsimp only
   refine zg (λh=>?_) λh=>?_
   ·rw [if_neg (by simp at h;omega)]
    exact ⟨rfl,⟨none,0,0⟩,rfl,(hs.tail).slc_nil⟩
   ·rw [if_pos (by simp at h;omega)]
    exact ⟨rfl,z,rfl,hs⟩
end
def zdm (pre:ByteArray):ByteArray:=pre++ByteArray.mk #[46,115,110,97,112]
def zdo (pre:ByteArray):ByteArray:=pre++ByteArray.mk #[46,116,109,112]
def z6r (L:LogA) (most:Int):PartA:=⟨L,most,⟨most,0,[]⟩,⟨0,[],[]⟩⟩
def z5m (L:LogA) (most:Int):PartA:=(z05 L.l).foldl z4r (z6r L most)
theorem z066 (A:PartA) (b:BatM):z4r A b.p=z4r A b:=rfl
theorem zqx:∀ (bs:List BatM) (A:PartA),(bs.map BatM.p).foldl z4r A=bs.foldl z4r A
 | [],A=>rfl
 | b::bs,A=>by
  rw [List.map_cons,List.foldl_cons,List.foldl_cons,z066]
  exact zqx bs _
section
variable {w:World} {l r:List HP} {p d lg t v:Nat} {A:PartA} {D:DiskA} {c1 c2 c3 c4 c5:Value}
theorem z03w (pre:ByteArray) (hp:pre.size<=100) [hf:FocB l p (.cells [c1,c2,.string pre,c3,c4,c5].toArray T.a37) r] (hs:Sat w l):Ret P F.a118 #[.pointer (some ⟨p,0,none⟩)] w λvs w'=>vs=[.string (zdm pre)]/\Sat w' l :=
 zn7 _ <| by
  delta z00g Ah As Bf Bh
  refine zh ?_
  refine za hs ?_
  refine wp_must (by omega) ?_
  refine wp_lt ?_
  exact ⟨rfl,rfl,hs⟩
theorem zqh (pre:ByteArray) (hp:pre.size<=100) [hf:FocB l p (.cells [c1,c2,.string pre,c3,c4,c5].toArray T.a37) r] (hs:Sat w l):Ret P F.a120 #[.pointer (some ⟨p,0,none⟩)] w λvs w'=>vs=[.string (zdo pre)]/\Sat w' l :=
 zn9 _ <| by
  delta z00i Ah As Bf Bh
  refine zh ?_
  refine za hs ?_
  refine wp_must (by omega) ?_
  refine wp_lt ?_
  exact ⟨rfl,rfl,hs⟩
theorem z03q (n:ByteArray) (hno:∀ f ∈ D.fs,f.name≠n) [hf:Fo l dk d D r] (hs:Sat w l):Ret P F.a121 #[.pointer (some ⟨d,0,none⟩),.string n] w λvs w'=>vs=[.bool false]/\Sat w' (dk d D::r) :=
 zna _ n <| by
  delta z00j AM AO Ag Ah Aq
  refine z8 (zgf (d:=d) (A:=D) n hs) λ_ w' h=>?_
  rcases h with ⟨f,hf1,hf2,-⟩|⟨-,rfl,hs⟩
  ·exact absurd hf2 (hno f hf1)
  refine ⟨(⟨none,0,0⟩,3,()),rfl,trivial,z2l _ _ ?_⟩
  refine wp_lt ?_
  refine wp_lt ?_
  exact ⟨rfl,rfl,hs⟩
theorem zye (pre:ByteArray) (most:Int) (hp:pre.size<=100) (hm:1<=most/\most<=4096) (hno:∀ f ∈ D.fs,f.name≠zdm pre) (hs:Sat w (pt p (.cells #[c1,.pointer (some ⟨d,0,none⟩),.string pre,.int .i64 most,c2,c3] T.a37)::dk d D::r)) :
  Ret P F.a116 #[.pointer (some ⟨p,0,none⟩)] w λvs w'=>vs=[.int .i64 0]/\∃ t v:Nat,Sat w' (pt p (.cells #[c1,.pointer (some ⟨d,0,none⟩),.string pre,.int .i64 most,.pointer (some ⟨t,0,none⟩),.pointer (some ⟨v,0,none⟩)] T.a37)::tb t ⟨most,0,[]⟩::vw v ⟨0,[],[]⟩::dk d D::r) :=
 zn5 _ <| by
  delta z00e AK AM AO AP AT AU Ac Af Ag Ah Ai Aj Ak Am Aq As Av Aw Az Be Bf Bg Bj Bw Ce
  refine zh ?_
  refine za hs ?_
  refine z8 (z067 most hs) λ_ w' h=>?_
  rcases h with ⟨-,-,t,rfl,hs⟩|⟨h,-⟩
  rotate_left
  ·omega
  refine ⟨(some ⟨t,0,none⟩,0,()),rfl,trivial,z2l _ _ ?_⟩
  refine zh ?_
  refine z03 hs λw' hs=>?_
  refine z8 (z06a hs) λ_ w' hs=>?_
  obtain ⟨v,rfl,hs⟩:=hs
  refine zb ?_
  refine zh ?_
  refine z03 hs λw' hs=>?_
  refine zk (λq w'=>q=(⟨none,0,0⟩,())/\Sat w' (pt p (.cells #[c1,.pointer (some ⟨d,0,none⟩),.string pre,.int .i64 most,.pointer (some ⟨t,0,none⟩),.pointer (some ⟨v,0,none⟩)] T.a37)::tb t ⟨most,0,[]⟩::vw v ⟨0,[],[]⟩::dk d D::r)) ?_ ?_
  ·refine zy hs λw' hs=>?_
   refine zh ?_
   refine z0x hs ?_
   refine z8 (z03w (p:=p) pre hp hs) λ_ w' hs=>?_
   obtain ⟨rfl,hs⟩:=hs
   refine zb ?_ (by first|trivial|(repeat (first|exact trivial|exact λ_=>z06 hs|exact λ_=>z0f hs|refine And.intro ?_ ?_)))
   refine zd ?_
   refine z8 (zgf (d:=d) (A:=D) (zdm pre) hs) λ_ w' h=>?_
   rcases h with ⟨f,hf1,hf2,-⟩|⟨-,rfl,hs⟩
   ·exact absurd hf2 (hno f hf1)
   refine ⟨(⟨none,0,0⟩,3,()),rfl,trivial,z2l _ _ ?_⟩
   refine wp_lt ?_
   refine zd ?_
   refine zf ⟨rfl,?_⟩
   exact hs.sub
  clear hs
  rintro _ w ⟨rfl,hs⟩
  refine zj ?_
  have hs:Sat w (slc T.a56 1 ⟨none,0,0⟩ (([]:List UInt8).flatMap zi)::_):=hs.slc_nil
  refine z8 (z032 ⟨none,0,0⟩ [] (Nat.le_refl _) (Nat.zero_le _) hs) λ_ w' hs=>?_
  obtain ⟨z,rfl,hs⟩:=hs
  have e:(zjp []).isSome=false:=by kernel_rfl
  rw [e]
  refine ⟨(z,false,()),rfl,trivial,z2l _ _ ?_⟩
  refine wp_lt ?_
  refine z0b ?_ (by simp)
  exact ⟨rfl,rfl,t,v,hs.tail.tail⟩
theorem zxe {fs:List FileA} {n:ByteArray} (hno:∀ f ∈ fs,f.name≠n):(z8w fs n).1=0:=by rw [z8w,zcn hno]
set_option maxHeartbeats 1000000 in
theorem zyf (pre:ByteArray) (seg gap most:Int) (hp:z3q pre=true) (hc:zdg seg gap) (hm:1<=most/\most<=1024) (hg:D.gone=false) (S:List SegA) (D':DiskA) (ho:z4c pre D=(0,S,D')) (hno:∀ f ∈ D'.fs,f.name≠zdm pre/\f.name≠zdo pre)
  (hok:z09 0 S) (hhas:zk0 pre S D') (hlen:S.length<=1000000) (hall:(z05 S).length<=1000000) [hf:Fo l dk d D r] (hs:Sat w l) :
  Ret P F.a103 #[.pointer (some ⟨d,0,none⟩),.string pre,.agg #[.int .i64 seg,.int .i64 gap,.int .i64 most]] w λvs w'=>∃ p:Nat,vs=[.pointer (some ⟨p,0,none⟩),.int .i64 0]/\Sat w' (paP p (z5m ⟨d,pre,seg,gap,S⟩ most)::dk d D'::r) :=
 zmw _ pre seg gap most <| by
  delta z005 AA AB AC AD AE AI AK AP AV Ac Ad Af Ag Ah Ai An Ao Ap Aq Ar Aw Ax Ay Az Bb Br Bw Cb
  have hs:=hs.perm hf.perm
  clear hf
  have hps:pre.size<=100:=by
   unfold z3q at hp
   rw [Bool.and_eq_true,decide_eq_true_eq] at hp
   omega
  refine zp hs λa0 w' hs=>?_
  refine za hs ?_
  refine za hs ?_
  refine zx ?_ (by simp;omega)
  refine zda hs (seg,gap,()) ?_
  refine z8 (z03h (d:=d) (D:=D) pre seg gap hp hc hg hs) λ_ w' hs=>?_
  rw [ho] at hs
  rcases hs with ⟨he,-,-⟩|⟨-,lg,rfl,hs⟩
  ·exact absurd rfl he
  refine ⟨(some ⟨lg,0,none⟩,0,()),rfl,trivial,z2l _ _ ?_⟩
  refine wp_lt ?_
  refine zx ?_ (by simp)
  refine za hs ?_
  refine zp hs λa10 w' hs=>?_
  have hs:Sat w' (pt a10 (.cells #[.pointer (some ⟨lg,0,none⟩),.pointer (some ⟨d,0,none⟩),.string pre,.int .i64 most,.pointer none,.pointer none] T.a37)::dk d D'::lgP lg ⟨d,pre,seg,gap,S⟩::r):=hs.sub
  refine zk (λq w'=>q=(false,())/\Sat w' (pt a10 (.cells #[.pointer (some ⟨lg,0,none⟩),.pointer (some ⟨d,0,none⟩),.string pre,.int .i64 most,.pointer none,.pointer none] T.a37)::dk d D'::lgP lg ⟨d,pre,seg,gap,S⟩::r)) ?_ ?_
  ·refine z8 (zqh (p:=a10) pre hps hs) λ_ w' hs=>?_
   obtain ⟨rfl,hs⟩:=hs
   refine zb ?_
   refine z8 (z064 (d:=d) (A:=D') (zdo pre) hs) λ_ w' hs=>?_
   obtain ⟨rfl,hs⟩:=hs
   refine zb ?_
   rw [zxe λf hf=>(hno f hf).2]
   refine zx ?_ (by simp)
   refine z8 (zqh (p:=a10) pre hps hs) λ_ w' hs=>?_
   obtain ⟨rfl,hs⟩:=hs
   refine zb ?_
   refine z8 (z03q (d:=d) (D:=D') (zdo pre) (λf hf=>(hno f hf).2) hs) λ_ w' hs=>?_
   obtain ⟨rfl,hs⟩:=hs
   refine zb ?_
   exact zf ⟨rfl,hs.sub⟩
  clear hs
  rintro _ w ⟨rfl,hs⟩
  refine zj ?_
  refine zk (λq w'=>Sat w' (pt a10 (.cells #[.pointer (some ⟨lg,0,none⟩),.pointer (some ⟨d,0,none⟩),.string pre,.int .i64 most,.pointer none,.pointer none] T.a37)::dk d D'::lgP lg ⟨d,pre,seg,gap,S⟩::r)) ?_ ?_
  ·refine zx ?_ (by simp)
   exact zf hs
  clear hs
  rintro _ w hs
  refine zj ?_
  refine z8 (zye (p:=a10) (d:=d) (D:=D') pre most hps (by omega) (λf hf=>(hno f hf).1) hs) λ_ w' hs=>?_
  obtain ⟨rfl,t,v,hs⟩:=hs
  refine zb ?_
  refine wp_lt ?_
  refine z8 (zvh (lg:=lg) (A:=⟨d,pre,seg,gap,S⟩) (D:=D') hok hhas hlen hall hs) λ_ w' hs=>?_
  obtain ⟨y,outs,rfl,hmap,hs⟩:=hs
  refine zb ?_
  have hmap:outs.map BatM.p=z05 S:=hmap
  have hs:Sat w' (paP a10 (z6r ⟨d,pre,seg,gap,S⟩ most)::slc T.a0 7 y (outs.flatMap zr)::z0y outs::dk d D'::r):=by
   have hs:Sat w' (slc T.a0 7 y (outs.flatMap zr)::z0y outs::lgP lg (z6r ⟨d,pre,seg,gap,S⟩ most).L::dk d D'::pt a10 (.cells #[.pointer (some ⟨lg,0,none⟩),.pointer (some ⟨(z6r ⟨d,pre,seg,gap,S⟩ most).L.d,0,none⟩),.string (z6r ⟨d,pre,seg,gap,S⟩ most).L.pre,.int .i64 (z6r ⟨d,pre,seg,gap,S⟩ most).most,.pointer (some ⟨t,0,none⟩),.pointer (some ⟨v,0,none⟩)] T.a37)::tb t (z6r ⟨d,pre,seg,gap,S⟩ most).T::vw v (z6r ⟨d,pre,seg,gap,S⟩ most).V::r):=hs
   exact z2i (lg:=lg) (t:=t) (v:=v) (z6r ⟨d,pre,seg,gap,S⟩ most) hs
  have hlo:=congrArg List.length hmap
  rw [List.length_map] at hlo
  have hly:=hs.slen y (xs:=outs) (enc:=zr)
  have hov:∀ b ∈ outs,0<=b.base:=λb hb=>by
   have h1:b.p ∈ z05 S:=by rw [<- hmap];exact List.mem_map.2 ⟨b,hb,rfl⟩
   have hv:z04 b=0:=((z90 (Int.le_refl 0) hok).valid _ h1).1
   exact (z14 b hv).2.2.1.2.1.1
  have hop:z5m ⟨d,pre,seg,gap,S⟩ most=outs.foldl z4r (z6r ⟨d,pre,seg,gap,S⟩ most):=by
   unfold z5m
   show (z05 S).foldl z4r _=_
   rw [<- hmap,zqx]
  rw [hop]
  generalize z6r ⟨d,pre,seg,gap,S⟩ most=A0 at *
  refine zk (λq w'=>Sat w' (paP a10 (outs.foldl z4r A0)::dk d D'::r)) ?_ ?_
  rotate_left
  ·rintro _ w2 hs
   refine zj ?_
   exact ⟨rfl,a10,rfl,hs⟩
  refine z0a (λm q w=>∃ i:Nat,q=((i:Int),())/\i<=outs.length/\outs.length-i=m/\Sat w (paP a10 ((outs.take i).foldl z4r A0)::slc T.a0 7 y (outs.flatMap zr)::z0y outs::dk d D'::r)) outs.length ⟨0,rfl,by omega,rfl,hs⟩ ?_
  clear hs
  rintro m _ w ⟨i,rfl,hi,hm2,hs⟩
  refine zj ?_
  refine zg (λhc2=>?_) λhc2=>?_
  rotate_left
  ·rw [List.take_of_length_le (by omega)] at hs
   refine zo (zf ?_)
   exact hs.sub
  have hil:i<outs.length:=by omega
  have hb0:=hov _ (List.getElem_mem hil)
  have hbr:FocR (z0y outs::dk d D'::r) outs[i].x 4 (outs[i].rs.flatMap z01):=zao (List.getElem_mem hil)
  have htk:outs.take (i+1)=outs.take i++[outs[i]]:=by rw [List.take_add_one,List.getElem?_eq_getElem hil,Option.toList_some]
  refine z35 hs i hil ?_
  refine zm hs λa33 w' hs=>?_
  refine zl hs λw' hs=>?_
  refine za hs ?_
  refine zk (λq w'=>Sat w' (paP a10 ((outs.take (i+1)).foldl z4r A0)::slc T.a0 7 y (outs.flatMap zr)::z0y outs::dk d D'::r)) ?_ ?_
  ·refine z0b ?_ (by simpa using hb0)
   refine ze hs ?_
   refine z8 (zqk (p:=a10) (A:=(outs.take i).foldl z4r A0) outs[i] hs) λ_ w' hs=>?_
   obtain ⟨rfl,hs⟩:=hs
   refine zb ?_
   refine zf ?_
   rw [htk,List.foldl_append,List.foldl_cons,List.foldl_nil]
   exact hs.sub
  clear hs
  rintro _ w hs
  refine zj ?_
  refine z28 (us':=[.int .i64 ((i+1:Nat):Int)]) (by (try simp (disch:=omega) only [w64]);first|rfl|(congr;omega)) ?_
  exact z0w (outs.length-(i+1)) ⟨i+1,rfl,by omega,rfl,hs⟩
end
theorem zsi (A:PartA) (D:DiskA) (b:BatM):(z0n A D b).2.1.L.d=A.L.d/\(z0n A D b).2.1.L.pre=A.L.pre/\(z0n A D b).2.1.L.seg=A.L.seg/\(z0n A D b).2.1.L.gap=A.L.gap/\(z0n A D b).2.1.most=A.most:=by
 unfold z0n
 split
 ·exact ⟨rfl,rfl,rfl,rfl,rfl⟩
 unfold zra
 split
 ·exact ⟨rfl,rfl,rfl,rfl,rfl⟩
 split
 ·exact ⟨rfl,rfl,rfl,rfl,rfl⟩
 ·exact ⟨rfl,rfl,rfl,rfl,rfl⟩
theorem zqj {A:PartA} {D:DiskA} (b:BatM) (hp:z3q A.L.pre=true) (h:Cpl A.L.pre A.L.l D):Cpl A.L.pre (z0n A D b).2.1.L.l (z0n A D b).2.2:=by
 unfold z0n
 split
 ·exact h
 have h1:=(zev A.L.seg [b.to (zt A.L.l)] hp h).1
 unfold zra
 split
 ·exact h1
 split
 ·exact (z8d h1).1
 ·exact (z8d h1).1
section
variable {w:World} {l r:List HP} {p d:Nat} {A:PartA} {D:DiskA}
theorem z05s (b:BatM) {r1:List HP} [hf:Fo l paP p A r1] [hf2:Fo r1 dk A.L.d D r] (hb:FocR r b.x 4 (b.rs.flatMap z01)) (h:Cpl A.L.pre A.L.l D) (hr:b.rs.length<=1000000) (hm:z0i b=false) (hs:Sat w l) :
  Ret P F.a104 #[.pointer (some ⟨p,0,none⟩),.agg (zr b).toArray] w λvs w'=>vs=[.int .i64 (z0n A D b).1.1,.bool (z0n A D b).1.2.1,.int .i64 (z0n A D b).1.2.2]/\Sat w' (paP p (z0n A D b).2.1::dk A.L.d (z0n A D b).2.2::r):=by
 obtain ⟨h1,h2,h3⟩:=h.len
 exact zw1 b hb (by omega) h.segs (λs hs=>by have:=h3 s hs;omega) hr hm hs
theorem z03s (pid epoch:Int) (commit:Bool) (time:Int) {r1:List HP} [hf:Fo l paP p A r1] [hf2:Fo r1 dk A.L.d D r] (h:Cpl A.L.pre A.L.l D) (hs:Sat w l) :
  Ret P F.a108 #[.pointer (some ⟨p,0,none⟩),.int .i64 pid,.int .i64 epoch,.bool commit,.int .i64 time] w λvs w'=>vs=[.int .i64 (z0n A D (z1p pid epoch commit time ⟨none,0,0⟩)).1.1,.bool (z0n A D (z1p pid epoch commit time ⟨none,0,0⟩)).1.2.1,.int .i64 (z0n A D (z1p pid epoch commit time ⟨none,0,0⟩)).1.2.2]/\Sat w' (paP p (z0n A D (z1p pid epoch commit time ⟨none,0,0⟩)).2.1::dk A.L.d (z0n A D (z1p pid epoch commit time ⟨none,0,0⟩)).2.2::r):=by
 obtain ⟨h1,h2,h3⟩:=h.len
 exact z03p pid epoch commit time (by omega) h.segs (λs hs=>by have:=h3 s hs;omega) hs
theorem zyj (hst:zam A) (off most:Int) (c:Bool) (ho : -9223372036854775808<=off/\off<9223372036854775808) (hmo:most<9223372036854775808) {r1:List HP} [hf:Fo l paP p A r1] [hf2:Fo r1 dk A.L.d D r] (h:Cpl A.L.pre A.L.l D) (hs:Sat w l) :
  Ret P F.a110 #[.pointer (some ⟨p,0,none⟩),.int .i64 off,.int .i64 most,.bool c] w λvs w'=>∃ z:Sl,vs=[z.v,.int .i64 (z1v A off most c).1.2,.int .i64 (z1v A off most c).2]/\Sat w' (slc T.a38 5 z ((z1v A off most c).1.1.flatMap z08)::paP p A::dk A.L.d D::r):=by
 obtain ⟨h1,h2,h3⟩:=h.len
 exact z03v hst off most c ho hmo h.segs h.has (by omega) (by omega) hs
theorem z03t (pre:ByteArray) (seg gap most:Int) (hp:z3q pre=true) (hc:zdg seg gap) (hm:1<=most/\most<=1024) (hg:D.gone=false) {S:List SegA} (h:Cpl pre S D) (hno:∀ f ∈ D.fs,f.name≠zdm pre/\f.name≠zdo pre) [hf:Fo l dk d D r] (hs:Sat w l) :
  Ret P F.a103 #[.pointer (some ⟨d,0,none⟩),.string pre,.agg #[.int .i64 seg,.int .i64 gap,.int .i64 most]] w λvs w'=>∃ p:Nat,vs=[.pointer (some ⟨p,0,none⟩),.int .i64 0]/\Sat w' (paP p (z5m ⟨d,pre,seg,gap,S⟩ most)::dk d D::r):=by
 obtain ⟨h1,h2,h3⟩:=h.len
 exact zyf pre seg gap most hp hc hm hg S D h.opened hno h.segs h.has (by omega) (by omega) hs
end
def kR:List RecM:=[⟨ByteArray.mk #[107],ByteArray.mk #[],false,0⟩]
def kB (x:Sl):BatM:=⟨0,3,0,0,1,0,x,kR⟩
def kA (d:Nat):PartA:=z6r ⟨d,aP,100,9,[]⟩ 4
def kD:DiskA:=⟨10000,-1,false,[]⟩
theorem k1 (d:Nat) (x:Sl):(z0n (kA d) kD (kB x)).1=(0,false,0):=by kernel_rfl
section
variable {d:Nat} {x:Sl} {S U:PartA × DiskA}
theorem k2 (h:S=(z0n (kA d) kD (kB x)).2):z0n S.1 S.2 (kB x)=((0,true,0),S):=by subst h;kernel_rfl
end
section
variable {w:World} {l r:List HP} {p d a:Nat} {A:PartA} {D:DiskA} {R:RefM}
theorem zsd {r1:List HP} [hf:Fo l paP p A r1] [hf2:Fo r1 dk A.L.d D r] (h:Cpl A.L.pre A.L.l D) (hs:Sat w l) :
  Ret P F.a105 #[.pointer (some ⟨p,0,none⟩)] w λvs w'=>∃ (z:Sl) (outs:List BatM),vs=[z.v]/\outs.map BatM.p=z05 A.L.l/\Sat w' (slc T.a0 7 z (outs.flatMap zr)::z0y outs::paP p A::dk A.L.d D::r) :=
 zmy _ <| by
  delta z007 AW Ac Ah An Aq As
  obtain ⟨h1,h2,h3⟩:=h.len
  obtain ⟨lg,t,v,hs⟩:=z4y (hs.perm (hf.perm.trans (.cons _ hf2.perm)))
  refine zx ?_ (by simp)
  refine zh ?_
  refine za hs ?_
  refine z8 (zvh (lg:=lg) (A:=A.L) (D:=D) h.segs h.has (by omega) (by omega) hs) λ_ w' hs=>?_
  obtain ⟨z,outs,rfl,hm,hs⟩:=hs
  refine zb ?_
  have hs:Sat w' (paP p A::slc T.a0 7 z (outs.flatMap zr)::z0y outs::dk A.L.d D::r):=z2i (lg:=lg) (t:=t) (v:=v) A hs
  exact ⟨rfl,z,outs,rfl,hm,hs.pick [1,1]⟩
end
structure TbC where
 next:Int
 l:List AtM
def z0p (l:List AtM) (k:ByteArray):Nat:=(l.filter λa=>ltS a.r.key k).length
def z3d (l:List AtM) (k:ByteArray):Bool:=(l[z0p l k]?).any λa=>decide (a.r.key=k)
def z25 (T:TbC) (r:AtM):TbC:=⟨r.off+1,if z3d T.l r.r.key=true then (if r.r.gone=true then T.l.take (z0p T.l r.r.key)++T.l.drop (z0p T.l r.r.key+1) else T.l.set (z0p T.l r.r.key) r) else if r.r.gone=true then T.l else T.l.take (z0p T.l r.r.key)++r::T.l.drop (z0p T.l r.r.key)⟩
def z1y:Int->List AtM->Bool
 | _,[]=>true
 | f,a::l=>if a.off<f then false else z1y (a.off+1) l
def z8x (l:List AtM):Prop:=l.Pairwise λa b=>ltS a.r.key b.r.key=true
def zdf (xs:List AtM):Bool:=xs.getLast?.any λa=>decide (a.off>1099511627776)
def z7b (T:TbC) (xs:List AtM):Int × TbC:=if z1y T.next xs=false\/zdf xs=true then (8,T) else (0,xs.foldl z25 T)
def z1j (l:List AtM) (k:ByteArray):Option AtM:=if z3d l k=true then l[z0p l k]? else none
theorem z035 (l:List AtM) (k:ByteArray):z0p l k<=l.length:=List.length_filter_le ..
theorem zxh {l:List AtM} {k:ByteArray} {i:Nat} (hs:z8x l) (hi:i<=l.length) (h1:∀ (h:i-1<l.length),0<i->ltS l[i-1].r.key k=true) (h2:∀ h:i<l.length,ltS l[i].r.key k=false):z0p l k=i:=by
 unfold z0p
 rw [zgj (p:=λa=>ltS a.r.key k) hi (hs.imp λ{a b} hab hb=>z74 hab hb) h1 h2,List.length_take]
 omega
theorem zbe:∀ {l:List AtM} {k:ByteArray},z8x l->(∀ a ∈ l.take (z0p l k),ltS a.r.key k=true)/\∀ a ∈ l.drop (z0p l k),ltS a.r.key k=false
 | [],k,_=>⟨λa h=>by simp at h,λa h=>by simp at h⟩
 | a::l,k,hs=>by
  obtain ⟨h1,h2⟩:=List.pairwise_cons.1 hs
  obtain ⟨i1,i2⟩:=zbe (l:=l) (k:=k) h2
  by_cases h:ltS a.r.key k=true
  ·have e:z0p (a::l) k=z0p l k+1:=by unfold z0p;rw [List.filter_cons_of_pos (by simpa using h),List.length_cons]
   rw [e,List.take_succ_cons,List.drop_succ_cons]
   refine ⟨λb hb=>?_,i2⟩
   rcases List.mem_cons.1 hb with rfl|hb
   ·exact h
   ·exact i1 b hb
  ·have h0:∀ b ∈ a::l,ltS b.r.key k=false:=λb hb=>by
    rcases List.mem_cons.1 hb with rfl|hb
    ·simpa using h
    ·cases hk:ltS b.r.key k with
     | false=>rfl
     | true=>exact absurd (z74 (h1 b hb) hk) h
   have e:z0p (a::l) k=0:=by
    unfold z0p
    rw [List.filter_eq_nil_iff.2 λb hb=>by simp [h0 b hb]];rfl
   rw [e]
   exact ⟨λb hb=>by simp at hb,λb hb=>h0 b (by simpa using hb)⟩
theorem za8 {l:List AtM} {k:ByteArray}:z3d l k=true↔∃ h:z0p l k<l.length,l[z0p l k].r.key=k:=by
 unfold z3d
 by_cases h:z0p l k<l.length
 ·rw [List.getElem?_eq_getElem h];simp [h]
 ·rw [List.getElem?_eq_none (by omega)];simp [h]
theorem z034 {l:List AtM} {k:ByteArray} (hs:z8x l) (ht:z3d l k=false):∀ a ∈ l.drop (z0p l k),ltS k a.r.key=true:=λa ha=>by
 have h1:=(zbe (k:=k) hs).2
 have hd:(l.drop (z0p l k)).Pairwise λa b=>ltS a.r.key b.r.key=true:=hs.sublist (List.drop_sublist ..)
 have hnt:¬ ∃ h:z0p l k<l.length,l[z0p l k].r.key=k:=λh=>by rw [za8.2 h] at ht;cases ht
 by_cases hl:z0p l k<l.length
 ·rw [List.drop_eq_getElem_cons hl] at ha hd h1
  have h0:ltS k l[z0p l k].r.key=true:=by
   rcases zin k l[z0p l k].r.key with h|h|h
   ·exact h
   ·exact absurd ⟨hl,h.symm⟩ hnt
   ·rw [h1 _ (List.mem_cons_self ..)] at h;cases h
  rcases List.mem_cons.1 ha with rfl|ha
  ·exact h0
  ·exact z74 h0 ((List.pairwise_cons.1 hd).1 a ha)
 ·rw [List.drop_eq_nil_of_le (by omega)] at ha;cases ha
theorem zyy {T:TbC} (r:AtM) (hs:z8x T.l):z8x (z25 T r).l:=by
 unfold z25
 split
 ·rename_i ht
  obtain ⟨hi,hk⟩:=za8.1 ht
  split
  ·rw [<- List.eraseIdx_eq_take_drop_succ]
   exact hs.sublist (List.eraseIdx_sublist ..)
  ·have e:(T.l.set (z0p T.l r.r.key) r).map (λa=>a.r.key)=T.l.map λa=>a.r.key:=by
    rw [List.map_set]
    apply List.ext_getElem (by simp)
    intro j h1 h2
    rw [List.getElem_set]
    split
    ·rename_i e;subst e;simp [hk]
    ·rfl
   have h1:(T.l.map λa=>a.r.key).Pairwise λa b=>ltS a b=true:=by rw [List.pairwise_map];exact hs
   rw [<- e,List.pairwise_map] at h1
   exact h1
 ·rename_i ht
  have ht:z3d T.l r.r.key=false:=by simpa using ht
  split
  ·exact hs
  ·have hg:=z034 hs ht
   obtain ⟨h1,-⟩:=zbe (k:=r.r.key) hs
   refine List.pairwise_append.2 ⟨hs.sublist (List.take_sublist ..),List.pairwise_cons.2 ⟨hg,hs.sublist (List.drop_sublist ..)⟩,λa ha b hb=>?_⟩
   rcases List.mem_cons.1 hb with rfl|hb
   ·exact h1 a ha
   ·exact z74 (h1 a ha) (hg b hb)
theorem zqr (T:TbC) (r:AtM):(z25 T r).l.length<=T.l.length+1:=by
 unfold z25
 have:=z035 T.l r.r.key
 split
 ·split
  ·simp only [List.length_append,List.length_take,List.length_drop];omega
  ·simp
 ·split
  ·exact Nat.le_succ _
  ·simp only [List.length_append,List.length_cons,List.length_take,List.length_drop];omega
theorem zfg:∀ (xs:List AtM) (T:TbC),(xs.foldl z25 T).l.length<=T.l.length+xs.length
 | [],T=>Nat.le_refl _
 | x::xs,T=>by
  have h1:=zfg xs (z25 T x)
  have h2:=zqr T x
  rw [List.foldl_cons,List.length_cons];omega
instance:EncF z08 0 (.int .i64) (λa=>a.off):=⟨λ_=>rfl⟩
instance:EncF z08 1 .str (λa=>a.r.key):=⟨λ_=>rfl⟩
def tbC (t:Nat) (C:TbC):HP:=HP.ex λz:Sl=>HP.and (z8x C.l/\C.l.length<=1000000000) (HP.star (pt t (.cells #[.int .i64 C.next,.slice z.a z.len z.cap] T.a4)) (slc T.a38 5 z (C.l.flatMap z08)))
def orC (o:Option AtM):AtM:=o.getD ⟨0,⟨ByteArray.mk #[],ByteArray.mk #[],false,0⟩⟩
instance {a:AtM} {b:Bool}:IsR (.tup [.agg [.int .i64,.str,.str,.bool,.int .i64],.one .bool]) [.agg (z08 a).toArray,.bool b] (a.off,a.r.key,a.r.value,a.r.gone,a.r.time,b,()):=⟨rfl⟩
theorem add_zero (a:Addr):Addr.add a 0=a:=rfl
section
variable {w:World} {l r r1 r2:List HP} {t:Nat} {C:TbC} {z:Sl}
theorem z9o (hs:Sat w (tbC t C::l)):∃ z:Sl,(z8x C.l/\C.l.length<=1000000000)/\Sat w (pt t (.cells #[.int .i64 C.next,.slice z.a z.len z.cap] T.a4)::slc T.a38 5 z (C.l.flatMap z08)::l):=by
 obtain ⟨z,hs⟩:=hs.ex
 obtain ⟨h,hs⟩:=hs.and
 exact ⟨z,h,hs.star⟩
theorem z66 (C:TbC) {z:Sl} (h:z8x C.l/\C.l.length<=1000000000) (hs:Sat w (pt t (.cells #[.int .i64 C.next,.slice z.a z.len z.cap] T.a4)::slc T.a38 5 z (C.l.flatMap z08)::l)):Sat w (tbC t C::l) :=
 .ex_mk z (.and_mk h (.star_mk hs))
theorem z04z (hs:Sat w l):Ret P F.a6 #[] w λvs w'=>∃ t:Nat,vs=[.pointer (some ⟨t,0,none⟩)]/\Sat w' (tbC t ⟨0,[]⟩::l) :=
 zdt <| by
  unfold zdw
  refine zp hs λa w' hs=>?_
  refine ⟨rfl,a,rfl,?_⟩
  have h0:Sat w' (slc T.a38 5 ⟨none,0,0⟩ (([]:List AtM).flatMap z08)::_):=hs.slc_nil
  exact z66 ⟨0,[]⟩ (z:=⟨none,0,0⟩) ⟨.nil,by decide⟩ (h0.pick [1])
theorem zx4 (i:Nat) (a0 a1:Nat) (k:ByteArray) (hi:i<C.l.length) [h0:FocB l a0 (.cells [.pointer (some ⟨t,0,none⟩)].toArray T.a27) r1] [h1:FocB l a1 (.cells [.string k].toArray T.a55) r2]
  [h2:FocB l t (.cells [.int .i64 C.next,.slice z.a z.len z.cap].toArray T.a4) r] [h3:FocR l z 5 (C.l.flatMap z08)] (hs:Sat w l) :
  Ret P F.a13 #[.int .i64 (i:Int),.pointer (some ⟨a0,0,none⟩),.pointer (some ⟨a1,0,none⟩)] w λvs w'=>vs=[.bool (!ltS C.l[i].r.key k)]/\Sat w' l :=
 zt3 _ _ _ <| by
  delta z06n AM AT AU Ad Ae Ah Aq As Bh Bk Bn
  refine zy hs λw' hs=>?_
  refine za hs ?_
  refine zh ?_
  refine za hs ?_
  simp only [add_zero]
  refine zwr hs (xs:=C.l) (enc:=z08) i hi ?_
  refine za hs ?_
  refine wp_lt ?_
  refine zd ?_
  exact ⟨rfl,rfl,hs⟩
theorem z02p (k:ByteArray) [hf:Fo l tbC t C r] (hs:Sat w l):Ret P F.a12 #[.pointer (some ⟨t,0,none⟩),.string k] w λvs w'=>vs=[.int .i64 (z0p C.l k:Nat)]/\Sat w' (tbC t C::r) :=
 zt2 _ k <| by
  delta z06m AR Ad Ae Ag Ah Ai Ao Ap Aq As Aw
  obtain ⟨z,hok,hs⟩:=z9o (hs.perm hf.perm)
  have hl:=hs.slen z (xs:=C.l) (enc:=z08)
  refine zp hs λa0 w' hs=>?_
  refine zp hs λa1 w' hs=>?_
  refine za hs ?_
  refine zh ?_
  refine za hs ?_
  rw [hl]
  have hlen:=hok.2
  refine z8 (zff C.l.length (by omega) F.a13 #[.pointer (some ⟨a0,0,none⟩),.pointer (some ⟨a1,0,none⟩)] (λi=>!ltS (orC C.l[i]?).r.key k) (by kernel_rfl) (λi w hi hs=>?_) hs) λ_ w' hs=>?_
  ·have e:orC C.l[i]? = C.l[i]:=by rw [List.getElem?_eq_getElem hi];rfl
   simp only [e]
   exact zx4 (C:=C) (t:=t) (z:=z) i a0 a1 k hi hs
  obtain ⟨i,hi,h1,h2,rfl,hs⟩:=hs
  refine zb ?_
  refine wp_lt ?_
  have e:z0p C.l k=i:=by
   refine zxh hok.1 hi (λh h0=>?_) λh=>?_
   ·have:=h1 h0
    rw [List.getElem?_eq_getElem h] at this
    have:(!ltS C.l[i-1].r.key k)=false:=this
    simpa using this
   ·have:=h2 h
    rw [List.getElem?_eq_getElem h] at this
    have:(!ltS C.l[i].r.key k)=true:=this
    simpa using this
  refine ⟨rfl,by rw [e],?_⟩
  exact z66 C (z:=z) hok hs.sub
theorem zzr (k:ByteArray) [hf:Fo l tbC t C r] (hs:Sat w l):Ret P F.a11 #[.pointer (some ⟨t,0,none⟩),.string k] w λvs w'=>vs=[.int .i64 (z0p C.l k:Nat),.bool (z3d C.l k)]/\Sat w' (tbC t C::r) :=
 zt1 _ k <| by
  delta z06l AM AT AU AZ Ad Ae Ag Ah Ai Aq As Aw Ba By
  refine z8 (z02p (t:=t) (C:=C) k hs) λ_ w' hs=>?_
  obtain ⟨rfl,hs⟩:=hs
  refine zb ?_
  obtain ⟨z,hok,hs⟩:=z9o hs
  have hl:=hs.slen z (xs:=C.l) (enc:=z08)
  refine wp_lt ?_
  refine zy hs λw' hs=>?_
  refine zh ?_
  refine za hs ?_
  refine z0k ?_
  refine za hs ?_
  simp only [add_zero]
  refine zbz (xs:=C.l) (enc:=z08) hs (orC C.l[z0p C.l k]?).r.key (λhg=>?_) ?_
  ·have hg:z0p C.l k<C.l.length:=by rw [<- hl];simpa using hg
   exact ⟨_,hg,rfl,by rw [List.getElem?_eq_getElem hg];rfl⟩
  refine wp_lt ?_
  refine wp_lt ?_
  refine zd ?_
  refine ⟨rfl,?_,z66 C (z:=z) hok hs.sub⟩
  have e:(decide (((z0p C.l k:Nat):Int)<((z.len:Nat):Int)) && (ByteArray.toList (orC C.l[z0p C.l k]?).r.key == ByteArray.toList k))=z3d C.l k:=by
   rw [hl]
   unfold z3d
   by_cases h:z0p C.l k<C.l.length
   ·rw [List.getElem?_eq_getElem h]
    show (_ && (ByteArray.toList C.l[z0p C.l k].r.key == ByteArray.toList k))=decide (C.l[z0p C.l k].r.key=k)
    rw [decide_eq_true (by omega:((z0p C.l k:Nat):Int)<(C.l.length:Int)),Bool.true_and,Bool.eq_iff_iff,beq_iff_eq,decide_eq_true_iff]
    exact ⟨λh=>by rw [ByteArray.toList_eq,ByteArray.toList_eq] at h;exact ByteArray.ext (Array.ext' h),λh=>by rw [h]⟩
   ·rw [List.getElem?_eq_none (by omega),decide_eq_false (by omega)];rfl
  rw [e]
theorem zkc (k:ByteArray) [hf:Fo l tbC t C r] (hs:Sat w l):Ret P F.a10 #[.pointer (some ⟨t,0,none⟩),.string k] w λvs w'=>vs=[.agg (z08 (orC (z1j C.l k))).toArray,.bool (z1j C.l k).isSome]/\Sat w' (tbC t C::r) :=
 zwx _ k <| by
  delta zf9 AB AC AM Ac Ad Ae Ag Ah Ai Aq As BW BX Bi Cd
  refine zm (hs.perm hf.perm) λa0 w' hs=>?_
  refine zx ?_ (by simp)
  refine z8 (zzr (t:=t) (C:=C) k hs) λ_ w' hs=>?_
  obtain ⟨rfl,hs⟩:=hs
  refine ⟨(((z0p C.l k:Nat):Int),z3d C.l k,()),rfl,trivial,z2l _ _ ?_⟩
  refine wp_lt ?_
  refine wp_lt ?_
  by_cases ht:z3d C.l k=true
  ·refine zx ?_ (by rw [ht];simp)
   obtain ⟨hi,hk⟩:=za8.1 ht
   have e:z1j C.l k=some C.l[z0p C.l k]:=by unfold z1j;rw [if_pos ht,List.getElem?_eq_getElem hi]
   obtain ⟨z,hok,hs⟩:=z9o hs
   refine zh ?_
   refine za hs ?_
   refine z35 hs (xs:=C.l) (enc:=z08) (z0p C.l k) hi ?_
   refine zl hs λw' hs=>?_
   refine ze hs ?_
   rw [e]
   exact ⟨rfl,rfl,z66 C (z:=z) hok hs.sub⟩
  ·have ht:z3d C.l k=false:=by simpa using ht
   refine z0b ?_ (by rw [ht];simp)
   have e:z1j C.l k=none:=by unfold z1j;rw [if_neg (by rw [ht];simp)]
   refine zl hs λw' hs=>?_
   refine ze hs ?_
   rw [e]
   exact ⟨rfl,rfl,hs.sub⟩
theorem zj1:∀ (xs:List AtM) (f:Int) (a:AtM),z1y f (xs++[a])=(z1y f xs && decide ((match xs.getLast? with|none=>f|some b=>b.off+1)<=a.off))
 | [],f,a=>by
  show (if a.off<f then false else true)=(true && decide (f<=a.off))
  by_cases h:a.off<f
  ·rw [if_pos h,decide_eq_false (by omega)];rfl
  ·rw [if_neg h,decide_eq_true (by omega)];rfl
 | x::xs,f,a=>by
  have ih:=zj1 xs (x.off+1) a
  show (if x.off<f then false else z1y (x.off+1) (xs++[a]))=((if x.off<f then false else z1y (x.off+1) xs) && _)
  by_cases h:x.off<f
  ·rw [if_pos h,if_pos h];rfl
  ·rw [if_neg h,if_neg h,ih]
   cases xs with
   | nil=>rfl
   | cons y ys =>
    rw [List.getLast?_cons_cons]
    have:∃ u,(y::ys).getLast? = some u:=⟨_,List.getLast?_eq_some_getLast (by simp)⟩
    obtain ⟨u,hu⟩:=this
    rw [hu]
theorem zlm:∀ (xs ys:List AtM) (f:Int),z1y f xs=false->z1y f (xs++ys)=false
 | [],ys,f,h=>by cases h
 | x::xs,ys,f,h=>by
  have h:(if x.off<f then false else z1y (x.off+1) xs)=false:=h
  show (if x.off<f then false else z1y (x.off+1) (xs++ys))=false
  by_cases hx:x.off<f
  ·rw [if_pos hx]
  ·rw [if_neg hx] at h ⊢
   exact zlm xs ys _ h
theorem z02s (f:Int) (x:Sl) (xs:List AtM) (hn:xs.length<=1000000000) [hx:FocR l x 5 (xs.flatMap z08)] (hs:Sat w l):Ret P F.a17 #[.int .i64 f,x.v] w λvs w'=>vs=[.bool (z1y f xs)]/\Sat w' l :=
 zt6 _ x <| by
  delta z06p AB AC AT AU AV Ac Ad Af Ag Ah Ai Ax BW BX Bb
  have hl:=hs.slen x (xs:=xs) (enc:=z08)
  refine z44 ?_
  refine z0a (λm q w=>∃ i:Nat,q=((i:Int),())/\i<=xs.length/\xs.length-i=m/\z1y f (xs.take i)=true/\Sat w l) xs.length ⟨0,rfl,by omega,rfl,rfl,hs⟩ ?_
  clear hs
  rintro m _ w ⟨i,rfl,hi,hm,hr,hs⟩
  refine zj ?_
  refine zg (λhc=>?_) λhc=>?_
  rotate_left
  ·rw [List.take_of_length_le (by omega)] at hr
   refine zo (z4o ⟨(),rfl,?_⟩)
   exact ⟨rfl,by rw [hr],hs⟩
  have hil:i<xs.length:=by omega
  have htk:xs.take (i+1)=xs.take i++[xs[i]]:=by rw [List.take_add_one,List.getElem?_eq_getElem hil,Option.toList_some]
  have hst:z1y f (xs.take (i+1))=decide ((match (xs.take i).getLast? with|none=>f|some b=>b.off+1)<=xs[i].off):=by rw [htk,zj1,hr,Bool.true_and]
  have hlast:0<i->(xs.take i).getLast? = some (xs[i-1]'(by omega)):=λh0=>by
   rw [List.getLast?_eq_getElem?,List.length_take,Nat.min_eq_left (by omega),List.getElem?_take,if_pos (by omega),List.getElem?_eq_getElem (by omega)]
  refine z35 hs i hil ?_
  refine zm hs λa8 w' hs=>?_
  refine wp_lt ?_
  refine zl hs λw' hs=>?_
  refine zy hs λw' hs=>?_
  refine za hs ?_
  refine za hs ?_
  refine zbz (xs:=xs) (enc:=z08) hs (orC xs[i-1]?).off (λhg=>?_) ?_
  ·have h0:0<i:=by have:=hg.2;simp at this;omega
   exact ⟨i-1,by omega,by rw [w64 (by omega) (by omega)];omega,by rw [List.getElem?_eq_getElem (by omega)];rfl⟩
  refine zd ?_
  have hcond:((i:Int)=0/\xs[i].off<f\/(i:Int)>0/\xs[i].off<=(orC xs[i-1]?).off)↔z1y f (xs.take (i+1))=false:=by
   rw [hst]
   by_cases h0:i=0
   ·subst h0
    show _↔decide (f<=xs[0].off)=false
    rw [decide_eq_false_iff_not]
    omega
   ·have e:orC xs[i-1]? = xs[i-1]'(by omega):=by rw [List.getElem?_eq_getElem (by omega)];rfl
    rw [e,hlast (by omega)]
    show _↔decide ((xs[i-1]'(by omega)).off+1<=xs[i].off)=false
    rw [decide_eq_false_iff_not]
    omega
  refine zg (λh=>?_) λh=>?_
  ·have h:z1y f (xs.take (i+1))=false:=hcond.1 h
   refine zo (zo ?_)
   have:=zlm _ (xs.drop (i+1)) f h
   rw [List.take_append_drop] at this
   exact ⟨rfl,by rw [this],hs.tail⟩
  ·have h:z1y f (xs.take (i+1))=true:=by
    cases hh:z1y f (xs.take (i+1)) with
    | true=>rfl
    | false=>exact absurd (hcond.2 hh) h
   refine z28 (us':=[.int .i64 ((i+1:Nat):Int)]) (by (try simp (disch:=omega) only [w64]);first|rfl|(congr;omega)) ?_
   exact z0w (xs.length-(i+1)) ⟨i+1,rfl,by omega,rfl,h,hs.tail⟩
theorem zuw (x:Sl) (xs:List AtM) (i:Nat) (hi:i<xs.length) (hn:xs.length<=1000000000) (hs:Sat w (slc T.a38 5 x (xs.flatMap z08)::l)) :
  Ret P F.a176 #[x.v,.int .i64 (i:Int),.int .i64 ((i+1:Nat):Int)] w λvs w'=>∃ z:Sl,vs=[z.v]/\Sat w' (slc T.a38 5 z ((xs.take i++xs.drop (i+1)).flatMap z08)::l) :=
 zom x _ _ <| by
  delta z01w AT AU Ac Ad Ag Ah Aj BA
  have hl:=hs.slen x (xs:=xs) (enc:=z08)
  have hcap:=hs.slc_cap
  refine wp_must (by omega) ?_
  refine zx ?_ (by simp;omega)
  refine wp_lt ?_
  refine zy hs λw' hs=>?_
  refine wp_must (by omega) ?_
  refine wp_must (by omega) ?_
  rw [Int.toNat_natCast,Int.toNat_natCast]
  have hrd:Rd w' 5 ⟨z10 x.a 5 (i+1) x.cap,x.len-(i+1),x.cap-(i+1)⟩ ((xs.drop (i+1)).flatMap z08) :=
   (FocR.post (l:=slc T.a38 5 x (xs.flatMap z08)::l) (x:=x) (sz:=5) (xs:=xs) (enc:=z08) (n:=i+1) (m:=x.cap) (c:=x.cap-(i+1)) hcap).rd w' hs
  have hs:=hs.slc_pre (n:=i) (by omega)
  rw [z8g] at hs
  have hroom:i+(x.len-(i+1))<=x.cap:=by omega
  refine z04i (x:=⟨x.a,i,x.cap⟩) (y:=⟨z10 x.a 5 (i+1) x.cap,x.len-(i+1),x.cap-(i+1)⟩) (el:=T.a38) (sz:=5) (xs:=xs.take i) (ys:=xs.drop (i+1)) (enc:=z08) hs hrd hroom (λw' hs=>?_)
  refine zd ?_
  refine wp_must (by show (0:Int)<=((i+(x.len-(i+1)):Nat):Int)/\((i+(x.len-(i+1)):Nat):Int)<=((x.len:Nat):Int)/\((x.len:Nat):Int)<=((x.cap:Nat):Int);omega) ?_
  rw [Int.toNat_natCast,Int.toNat_natCast]
  have hroom2:i+(x.len-(i+1))+(x.len-(i+(x.len-(i+1))))<=x.cap:=by omega
  refine z06f (t:=T.a47) (el:=T.a38) (x:=⟨x.a,i+(x.len-(i+1)),x.cap⟩) (n:=i+(x.len-(i+1))) (m:=x.len-(i+(x.len-(i+1)))) hs (Nat.le_refl _) hroom2 (λw' hs=>?_)
  exact ⟨rfl,_,rfl,hs⟩
theorem zuz (x v:Sl) (xs:List AtM) (a:AtM) (hn:xs.length<=1000000000) [hv:FocR l v 5 ([a].flatMap z08)] (hs:Sat w (slc T.a38 5 x (xs.flatMap z08)::l)) :
  Ret P F.a178 #[x.v,.int .i64 (xs.length:Int),v.v] w λvs w'=>∃ z:Sl,vs=[z.v]/\Sat w' (slc T.a38 5 z ((xs++[a]).flatMap z08)::l) :=
 zoo x _ v <| by
  delta z01y AT AU Ac Ad Af Ag Ah Ai Aj
  have hl:=hs.slen x (xs:=xs) (enc:=z08)
  have hl2:=hs.slen v (xs:=[a]) (enc:=z08)
  refine wp_must (by omega) ?_
  refine wp_lt ?_
  refine zx ?_ (by rw [hl2];simp)
  refine wp_lt ?_
  refine z0b ?_ (by rw [hl])
  refine wp_app' (xs:=xs) (ys:=[a]) (enc:=z08) hs (λz w' hs=>?_) (by simp only [List.length_cons,List.length_nil];omega)
  exact ⟨rfl,z,rfl,hs⟩
def zb8 (C:TbC) (a:AtM):Bool:=z3d C.l a.r.key || a.r.gone || decide (z0p C.l a.r.key=C.l.length)
def z83:TbC->List AtM->Bool
 | _,[]=>true
 | C,a::xs=>zb8 C a && z83 (z25 C a) xs
theorem zpo:∀ (xs:List AtM) (C:TbC) (i:Nat) (h:i<xs.length),z83 C xs=true->zb8 ((xs.take i).foldl z25 C) xs[i]=true
 | x::xs,C,0,_,h=>by
  have h:(zb8 C x && z83 (z25 C x) xs)=true:=h
  rw [Bool.and_eq_true] at h
  exact h.1
 | x::xs,C,i+1,hi,h=>by
  have h:(zb8 C x && z83 (z25 C x) xs)=true:=h
  rw [Bool.and_eq_true] at h
  exact zpo xs (z25 C x) i (by simpa using hi) h.2
set_option maxHeartbeats 1000000 in
theorem z050 (a:AtM) (he:zb8 C a=true) (hlo : -9223372036854775808<=a.off) (hhi:a.off<=1099511627776) (hlen:C.l.length<1000000000) [hf:Fo l tbC t C r] (hs:Sat w l) :
  Ret P F.a14 #[.pointer (some ⟨t,0,none⟩),.agg (z08 a).toArray] w λvs w'=>vs=[]/\Sat w' (tbC t (z25 C a)::r) :=
 zt4 _ a.off a.r.key a.r.value a.r.gone a.r.time <| by
  delta z06o AM AT AU Ac Ad Ae Af Ag Ah Ai Aj An Ao Aq As Ax Az B1 BX Be Bh Bi Bz Cd
  refine zp (hs.perm hf.perm) λa0 w' hs=>?_
  clear hf
  refine za hs ?_
  refine z8 (zzr (t:=t) (C:=C) a.r.key hs) λ_ w' hs=>?_
  obtain ⟨rfl,hs⟩:=hs
  refine ⟨(((z0p C.l a.r.key:Nat):Int),z3d C.l a.r.key,()),rfl,trivial,z2l _ _ ?_⟩
  refine wp_lt ?_
  refine wp_lt ?_
  refine za hs ?_
  refine wp_lt ?_
  obtain ⟨z,hok,hs⟩:=z9o hs
  have hl:=hs.slen z (xs:=C.l) (enc:=z08)
  have hokS:z8x (z25 C a).l/\(z25 C a).l.length<=1000000000:=⟨zyy a hok.1,by have:=zqr C a;omega⟩
  refine zk (λq w'=>∃ z':Sl,Sat w' (pt a0 (.cells #[.int .i64 a.off,.string a.r.key,.string a.r.value,.bool a.r.gone,.int .i64 a.r.time] T.a38)::pt t (.cells #[.int .i64 C.next,.slice z'.a z'.len z'.cap] T.a4)::slc T.a38 5 z' ((z25 C a).l.flatMap z08)::r)) ?_ ?_
  rotate_left
  ·rintro _ w2 ⟨z',hs⟩
   refine zj ?_
   refine za hs ?_
   refine zh ?_
   rw [w64 (by omega) (by omega)]
   refine z03 hs λw' hs=>?_
   have hs:Sat w' (pt t (.cells #[.int .i64 (z25 C a).next,.slice z'.a z'.len z'.cap] T.a4)::pt a0 (.cells #[.int .i64 a.off,.string a.r.key,.string a.r.value,.bool a.r.gone,.int .i64 a.r.time] T.a38)::slc T.a38 5 z' ((z25 C a).l.flatMap z08)::r):=hs
   exact ⟨rfl,rfl,z66 (z25 C a) (z:=z') hokS hs.sub⟩
  by_cases ht:z3d C.l a.r.key=true
  ·obtain ⟨hi,hk⟩:=za8.1 ht
   by_cases hg:a.r.gone=true
   ·refine z0b ?_ ⟨ht,hg⟩
    have e:(z25 C a).l=C.l.take (z0p C.l a.r.key)++C.l.drop (z0p C.l a.r.key+1):=by unfold z25;rw [if_pos ht,if_pos hg]
    refine zh ?_
    refine za hs ?_
    rw [show IntKind.wrap .i64 (((z0p C.l a.r.key:Nat):Int)+1)=((z0p C.l a.r.key+1:Nat):Int) by rw [w64 (by omega) (by omega)];omega]
    have hs:=hs.pick [1]
    refine z8 (zuw z C.l (z0p C.l a.r.key) hi hok.2 hs) λ_ w' hs=>?_
    obtain ⟨z2,rfl,hs⟩:=hs
    refine zb ?_
    refine zh ?_
    refine z03 hs λw' hs=>?_
    refine zf ⟨z2,?_⟩
    rw [e]
    exact hs.sub
   ·have hg:a.r.gone=false:=by simpa using hg
    refine zx ?_ (by rw [hg];simp)
    have e:(z25 C a).l=C.l.set (z0p C.l a.r.key) a:=by unfold z25;rw [if_pos ht,if_neg (by rw [hg];simp)]
    refine wp_lt ?_
    refine zk (λq w'=>Sat w' (pt a0 (.cells #[.int .i64 a.off,.string a.r.key,.string a.r.value,.bool a.r.gone,.int .i64 a.r.time] T.a38)::pt t (.cells #[.int .i64 C.next,.slice z.a z.len z.cap] T.a4)::slc T.a38 5 z ((C.l.set (z0p C.l a.r.key) a).flatMap z08)::r)) ?_ ?_
    rotate_left
    ·rintro _ w2 hs
     refine zj ?_
     refine zf ⟨z,?_⟩
     rw [e];exact hs.sub
    refine z0b ?_ ht
    refine zy hs λw' hs=>?_
    refine zh ?_
    refine za hs ?_
    refine ze hs ?_
    refine z04m hs (xs:=C.l) (enc:=z08) (z0p C.l a.r.key) hi a λw' hs=>?_
    refine zd ?_
    exact zf hs.sub
  have ht:z3d C.l a.r.key=false:=by simpa using ht
  refine zx ?_ (by rw [ht];simp)
  refine wp_lt ?_
  refine zk (λq w'=>∃ z':Sl,Sat w' (pt a0 (.cells #[.int .i64 a.off,.string a.r.key,.string a.r.value,.bool a.r.gone,.int .i64 a.r.time] T.a38)::pt t (.cells #[.int .i64 C.next,.slice z'.a z'.len z'.cap] T.a4)::slc T.a38 5 z' ((z25 C a).l.flatMap z08)::r)) ?_ ?_
  rotate_left
  ·rintro _ w2 ⟨z',hs⟩
   refine zj ?_
   exact zf ⟨z',hs⟩
  refine zx ?_ (by rw [ht];simp)
  refine za hs ?_
  refine wp_lt ?_
  refine zk (λq w'=>∃ z':Sl,Sat w' (pt a0 (.cells #[.int .i64 a.off,.string a.r.key,.string a.r.value,.bool a.r.gone,.int .i64 a.r.time] T.a38)::pt t (.cells #[.int .i64 C.next,.slice z'.a z'.len z'.cap] T.a4)::slc T.a38 5 z' ((z25 C a).l.flatMap z08)::r)) ?_ ?_
  rotate_left
  ·rintro _ w2 ⟨z',hs⟩
   refine zj ?_
   exact zf ⟨z',hs⟩
  by_cases hg:a.r.gone=true
  ·refine zx ?_ (by rw [hg];simp)
   have e:(z25 C a).l=C.l:=by unfold z25;rw [if_neg (by rw [ht];simp),if_pos hg]
   refine zf ⟨z,?_⟩
   rw [e];exact hs.sub
  ·have hg:a.r.gone=false:=by simpa using hg
   refine z0b ?_ (by rw [hg];simp)
   have hfr:z0p C.l a.r.key=C.l.length:=by
    unfold zb8 at he
    rw [ht,hg] at he
    simpa using he
   have e:(z25 C a).l=C.l++[a]:=by
    unfold z25
    rw [if_neg (by rw [ht];simp),if_neg (by rw [hg];simp),hfr,List.take_length,List.drop_length]
   refine zk (λq w'=>∃ z':Sl,Sat w' (pt a0 (.cells #[.int .i64 a.off,.string a.r.key,.string a.r.value,.bool a.r.gone,.int .i64 a.r.time] T.a38)::pt t (.cells #[.int .i64 C.next,.slice z'.a z'.len z'.cap] T.a4)::slc T.a38 5 z' ((z25 C a).l.flatMap z08)::r)) ?_ ?_
   rotate_left
   ·rintro _ w2 ⟨z',hs⟩
    refine zj ?_
    exact zf ⟨z',hs⟩
   refine zy hs λw' hs=>?_
   refine zh ?_
   refine z0x hs ?_
   refine ze hs ?_
   refine z6j hs (enc:=z08) [a] λy w' hs=>⟨(by first|trivial|(repeat (first|exact trivial|exact λ_=>z06 hs|exact λ_=>z0f hs|refine And.intro ?_ ?_))),?_⟩
   refine zd ?_
   rw [hfr]
   have hs:Sat w' (slc T.a38 5 z (C.l.flatMap z08)::slc T.a38 5 y ([a].flatMap z08)::pt a0 (.cells #[.int .i64 a.off,.string a.r.key,.string a.r.value,.bool a.r.gone,.int .i64 a.r.time] T.a38)::pt t (.cells #[.int .i64 C.next,.slice z.a z.len z.cap] T.a4)::r):=hs.sub
   refine z8 (zuz z y C.l a hok.2 hs) λ_ w' hs=>?_
   obtain ⟨z2,rfl,hs⟩:=hs
   refine zb ?_
   refine zh ?_
   refine z03 hs λw' hs=>?_
   refine zd ?_
   refine zf ⟨z2,?_⟩
   rw [e]
   exact hs.sub
theorem zqm:∀ (xs:List AtM) (f:Int),z1y f xs=true->∀ a ∈ xs,∀ b,xs.getLast? = some b->a.off<=b.off
 | [],f,_,a,ha,_,_=>by cases ha
 | x::xs,f,h,a,ha,b,hb=>by
  have h:(if x.off<f then false else z1y (x.off+1) xs)=true:=h
  by_cases hx:x.off<f
  ·rw [if_pos hx] at h;cases h
  rw [if_neg hx] at h
  cases xs with
  | nil =>
   simp at ha hb
   subst ha hb
   omega
  | cons y ys =>
   rw [List.getLast?_cons_cons] at hb
   have ih:=zqm (y::ys) (x.off+1) h
   rcases List.mem_cons.1 ha with rfl|ha
   ·have h1:y.off<=b.off:=ih y (List.mem_cons_self ..) b hb
    have h2:(if y.off<a.off+1 then false else z1y (y.off+1) ys)=true:=h
    by_cases hy:y.off<a.off+1
    ·rw [if_pos hy] at h2;cases h2
    ·omega
   ·exact ih a ha b hb
set_option maxHeartbeats 1000000 in
theorem zx3 (x:Sl) (xs:List AtM) (hlo:∀ a ∈ xs,-9223372036854775808<=a.off) (he:z83 C xs=true) (hlen:C.l.length+xs.length<=1000000000) [hf:Fo l tbC t C r] [hx:FocR r x 5 (xs.flatMap z08)] (hs:Sat w l) :
  Ret P F.a9 #[.pointer (some ⟨t,0,none⟩),x.v] w λvs w'=>vs=[.int .i64 (z7b C xs).1]/\Sat w' (tbC t (z7b C xs).2::r) :=
 zww _ x <| by
  delta zf8 AB AC AJ AV Ac Ad Af Ah Ai Aq Ar As Ax Ay Az BW BX Bb Cd;unfold z7b
  have hs:=hs.perm hf.perm
  clear hf
  refine wp_lt ?_
  refine zx ?_ (by simp)
  obtain ⟨z,hok,hs⟩:=z9o hs
  have hl:=hs.slen x (xs:=xs) (enc:=z08)
  refine zh ?_
  refine za hs ?_
  refine z8 (z02s C.next x xs (by omega) hs) λ_ w' hs=>?_
  obtain ⟨rfl,hs⟩:=hs
  refine zb ?_
  have hgl:∀ h0:0<xs.length,xs.getLast? = some (xs[xs.length-1]'(by omega)):=λh0=>by
   rw [List.getLast?_eq_getElem?,List.getElem?_eq_getElem (by omega)]
  refine zbz (xs:=xs) (enc:=z08) hs (orC xs.getLast?).off (λhg=>?_) ?_
  ·have h0:0<xs.length:=by have:=hg.2;rw [hl] at this;simp at this;omega
   exact ⟨xs.length-1,by omega,by rw [hl,w64 (by omega) (by omega)];omega,by rw [hgl h0];rfl⟩
  refine wp_lt ?_
  have hcond:(!z1y C.next xs || (decide (((x.len:Nat):Int)>0) && decide ((orC xs.getLast?).off>1099511627776)))=true↔(z1y C.next xs=false\/zdf xs=true):=by
   rw [hl]
   unfold zdf
   by_cases h0:xs.length=0
   ·have e:xs=[]:=List.length_eq_zero_iff.1 h0
    subst e
    simp
   ·rw [hgl (by omega)]
    rw [decide_eq_true (by omega:((xs.length:Nat):Int)>0)]
    show (!z1y C.next xs || (true && decide ((xs[xs.length-1]'(by omega)).off>1099511627776)))=true↔(z1y C.next xs=false\/decide ((xs[xs.length-1]'(by omega)).off>1099511627776)=true)
    simp
  by_cases hc:z1y C.next xs=false\/zdf xs=true
  ·rw [if_pos hc]
   refine z5f (hcond.2 hc) ?_
   exact ⟨rfl,rfl,z66 C (z:=z) hok hs⟩
  rw [if_neg hc]
  refine z2x (by cases hh:(!z1y C.next xs || (decide (((x.len:Nat):Int)>0) && decide ((orC xs.getLast?).off>1099511627776))) with|false=>rfl|true=>exact absurd (hcond.1 hh) hc) ?_
  have hrise:z1y C.next xs=true:=by
   cases h:z1y C.next xs with
   | true=>rfl
   | false=>exact absurd (.inl h) hc
  have hhi:∀ a ∈ xs,a.off<=1099511627776:=λa ha=>by
   have h0:0<xs.length:=by
    rcases Nat.eq_zero_or_pos xs.length with h|h
    ·rw [List.length_eq_zero_iff.1 h] at ha;cases ha
    ·exact h
   have h1:=zqm xs C.next hrise a ha _ (hgl h0)
   have h2:¬ zdf xs=true:=λh=>hc (.inr h)
   unfold zdf at h2
   rw [hgl h0] at h2
   have h2:¬ decide ((xs[xs.length-1]'(by omega)).off>1099511627776)=true:=h2
   rw [decide_eq_true_iff] at h2
   omega
  have hs:Sat w' (tbC t C::r):=z66 C (z:=z) hok hs
  refine zk (λq w'=>Sat w' (tbC t (xs.foldl z25 C)::r)) ?_ ?_
  rotate_left
  ·rintro _ w2 hs
   refine zj ?_
   exact ⟨rfl,rfl,hs⟩
  refine z0a (λm q w=>∃ i:Nat,q=((i:Int),())/\i<=xs.length/\xs.length-i=m/\Sat w (tbC t ((xs.take i).foldl z25 C)::r)) xs.length ⟨0,rfl,by omega,rfl,hs⟩ ?_
  clear hs
  rintro m _ w ⟨i,rfl,hi,hm,hs⟩
  refine zj ?_
  refine zg (λhc2=>?_) λhc2=>?_
  rotate_left
  ·rw [List.take_of_length_le (by omega)] at hs
   exact zo (zf hs)
  have hil:i<xs.length:=by omega
  have htk:xs.take (i+1)=xs.take i++[xs[i]]:=by rw [List.take_add_one,List.getElem?_eq_getElem hil,Option.toList_some]
  refine z35 hs i hil ?_
  refine zm hs λa17 w' hs=>?_
  refine zl hs λw' hs=>?_
  refine ze hs ?_
  have hs:=hs.pick [1]
  refine z8 (z050 (t:=t) (C:=(xs.take i).foldl z25 C) xs[i] (zpo xs C i hil he) (hlo _ (List.getElem_mem hil)) (hhi _ (List.getElem_mem hil)) (by have:=zfg (xs.take i) C;rw [List.length_take] at this;omega) hs) λ_ w' hs=>?_
  obtain ⟨rfl,hs⟩:=hs
  refine zb ?_
  refine z28 (us':=[.int .i64 ((i+1:Nat):Int)]) (by (try simp (disch:=omega) only [w64]);first|rfl|(congr;omega)) ?_
  refine z0w (xs.length-(i+1)) ⟨i+1,rfl,by omega,rfl,?_⟩
  rw [htk,List.foldl_append,List.foldl_cons,List.foldl_nil]
  exact hs.sub
end
abbrev LedA:=PartA × TbC
def zaf (M:LedA) (D:DiskA) (b:BatM):Int × LedA × DiskA :=
 if (z0n M.1 D b).1.2.2≠0 then ((z0n M.1 D b).1.2.2,((z0n M.1 D b).2.1,M.2),(z0n M.1 D b).2.2)
 else (0,((z0n M.1 D b).2.1,(z7b M.2 (z2c (b.to (z0n M.1 D b).1.1))).2),(z0n M.1 D b).2.2)
def z5i (time:Int) (x:Sl) (rs:List RecM):BatM:=⟨0,0,0,0,0,time,x,rs⟩
def z71 (k v:ByteArray) (time:Int):RecM:=⟨k,v,false,time⟩
def zrm (k:ByteArray) (time:Int):RecM:=⟨k,ByteArray.mk #[],true,time⟩
theorem zxf {b:BatM}:∀ a ∈ z2c b,-9223372036854775808<=a.off:=λa ha=>by
 unfold z2c at ha
 split at ha
 ·cases ha
 ·obtain ⟨i,hi,rfl⟩:=List.mem_mapIdx.1 ha
  show -9223372036854775808<=IntKind.wrap .i64 _
  rw [zhr]
  split <;> omega
section
variable {w:World} {l r:List HP} {v:Nat} {A:ViewA}
theorem z049 (f:Value) (z:Sl) (ys:List TxnA) (h1:ys.length<=1) (hs:Sat w (slc T.a15 4 z (ys.flatMap z2g)::l)) :
  Ret P F.a180 #[z.v,f] w λvs w'=>vs=[]/\Sat w' (slc T.a15 4 z (ys.flatMap z2g)::l) :=
 zop z f <| by
  delta z01z Ad Ag Ah Ai Aw Ay
  have hl:=hs.slen z (xs:=ys) (enc:=z2g)
  refine wp_lt ?_
  have hlen:Ret P F.a86 #[.int .u64 (IntKind.wrap .u64 ((z.len:Nat):Int))] w λvs w'=>(∃ k:Int,vs=[.int .i64 k])/\Sat w' (slc T.a15 4 z (ys.flatMap z2g)::l):=by
   rw [zhs (by omega) (by omega)]
   by_cases h0:z.len=0
   ·rw [h0]
    exact Ret.mono (z05j hs) λvs w' h=>⟨⟨0,h.1⟩,h.2⟩
   ·exact Ret.mono (z08a z.len (by omega) (by omega) hs) λvs w' h=>⟨by obtain ⟨⟨k,h1,-⟩,-⟩:=h;exact ⟨k,h1⟩,h.2⟩
  refine z8 hlen λ_ w' hs=>?_
  obtain ⟨⟨k,rfl⟩,hs⟩:=hs
  refine zb ?_
  refine z8 (R:=λvs w'=>vs=[]/\Sat w' (slc T.a15 4 z (ys.flatMap z2g)::l)) ?_ λ_ w' hs=>?_
  ·refine zor z _ _ _ _ ?_
   delta z021 AK AM AT AU Aa Ac Ad Af Ag Ah Ai Ar Aw Ax Ay BB BE BI BJ BK BL BM BN Bi
   refine z0a (λm q w=>q=(0,((z.len:Nat):Int),k,true,true,())/\Sat w (slc T.a15 4 z (ys.flatMap z2g)::l)) 0 ⟨rfl,hs⟩ ?_
   clear hs
   rintro m _ w ⟨rfl,hs⟩
   refine z3w _ _ _ _ _ ?_
   refine z44 ?_
   rw [w64 (by omega) (by omega)]
   refine wp_lt ?_
   refine z0b ?_ (by omega)
   refine z8 (R:=λvs w'=>vs=[]/\Sat w' (slc T.a15 4 z (ys.flatMap z2g)::l)) ?_ λ_ w' hs=>?_
   ·refine zoq z _ _ _ ?_
    delta z020 AK AT AU AV Ac Ad Af Ag Ah Ai Ax BE BL BM BO Be
    rw [w64 (by omega) (by omega)]
    refine wp_lt ?_
    refine zk (λq w'=>Sat w' (slc T.a15 4 z (ys.flatMap z2g)::l)) ?_ ?_
    ·refine z0a (λm q w=>q=(0+1,())/\Sat w (slc T.a15 4 z (ys.flatMap z2g)::l)) 0 ⟨rfl,hs⟩ ?_
     clear hs
     rintro m _ w ⟨rfl,hs⟩
     refine zj ?_
     refine zx ?_ (by omega)
     exact zo (zf hs)
    clear hs
    rintro _ w hs
    refine zj ?_
    exact ⟨rfl,rfl,hs⟩
   obtain ⟨rfl,hs⟩:=hs
   refine zb ?_
   refine zo (zo ?_)
   exact ⟨rfl,rfl,hs⟩
  obtain ⟨rfl,hs⟩:=hs
  refine zb ?_
  exact ⟨rfl,rfl,hs⟩
theorem zxm [hf:Fo l vw v A r] (h1:A.op.length<=1) (hs:Sat w l):Ret P F.a72 #[.pointer (some ⟨v,0,none⟩)] w λvs w'=>∃ z:Sl,vs=[z.v]/\Sat w' (slc T.a15 4 z (A.op.flatMap z2g)::vw v A::r) :=
 zub _ <| by
  delta zzd AB AC Ac Ah Aj Ak Ap As Ay B5 BD BE BF
  obtain ⟨m1,m2,hok,hs⟩:=z96 (hs.perm hf.perm)
  have hmany:=hok.many
  refine zx ?_ (by simp)
  refine zh ?_
  refine za hs ?_
  refine zjh hs λit w' hs=>?_
  refine zk (λx w'=>∃ (z:Sl) (ys:List TxnA),x=(z,())/\ys.Perm A.op/\Sat w' (slc T.a15 4 z (ys.flatMap z2g)::vw v A::r)) ?_ ?_
  ·refine z0a (λk x w=>∃ (z:Sl) (ys:List TxnA) (todo:List (Int × TxnA)) (last:Option (Int × TxnA)),x=(z,())/\todo.length=k/\(ys++todo.map Prod.snd).Perm A.op /\
    Sat w (slc T.a15 4 z (ys.flatMap z2g)::itP ekI evX it m1 (opK A) todo last::pt v (.cells #[.int .i64 A.next,.map (some m1),.map (some m2)] T.a16)::z19 ekK evX m2 (faK A)::r)) (opK A).length
    ⟨⟨none,0,0⟩,[],opK A,none,rfl,rfl,by rw [List.nil_append,opK,List.map_map];exact .of_eq (List.map_id _),hs.slc_nil⟩ ?_
   clear hs
   rintro k _ w ⟨z,ys,todo,last,rfl,hk,hperm,hs⟩
   have hlen:=hperm.length_eq
   rw [List.length_append,List.length_map] at hlen
   refine zj ?_
   refine zma hs (λk t=>(k,t.pid,t.epoch,t.first,t.last,())) (λkk t todo' w' hp hs=>?_) λh0=>?_
   ·refine z3w kk t.pid t.epoch t.first t.last ?_
    refine zr6 hs (kk,t.pid,t.epoch,t.first,t.last,()) ?_
    refine z3w kk t.pid t.epoch t.first t.last ?_
    refine zm hs λc w' hs=>?_
    refine zl hs λw' hs=>?_
    refine ze hs ?_
    refine z8 (z04f t hs) λ_ _ hs=>?_
    obtain ⟨rfl,hs⟩:=hs
    refine zb ?_
    refine z5g hs (xs:=ys) (enc:=z2g) t (λz w' hs=>?_)
    refine z0w todo'.length ?_ (by rw [<- hk,hp.length_eq,List.length_cons];omega)
    refine ⟨z,ys++[t],todo',some (kk,t),rfl,rfl,?_,hs.sub⟩
    rw [List.append_assoc,List.singleton_append]
    exact ((List.Perm.append_left ys (hp.map Prod.snd)).symm).trans hperm
   ·refine zo (zf ⟨z,ys,rfl,?_,?_⟩)
    ·subst h0
     rw [List.map_nil,List.append_nil] at hperm
     exact hperm
    ·have hs:=(hs.pick [1]).itDone
     have hs:Sat w (vw v A::slc T.a15 4 z (ys.flatMap z2g)::r):=z4n m1 m2 hok hs
     exact hs.pick [1]
  clear hs
  rintro _ w ⟨z,ys,rfl,hperm,hs⟩
  refine zj ?_
  have hy:ys=A.op:=by
   have hlen:=hperm.length_eq
   cases hop:A.op with
   | nil=>rw [hop] at hperm;exact hperm.eq_nil
   | cons t ts =>
    rw [hop] at hperm h1
    have:ts=[]:=by simpa using h1
    subst this
    exact List.perm_singleton.1 hperm
  rw [hy] at hs
  refine z8 (z049 _ z A.op h1 hs) λ_ w' h=>?_
  obtain ⟨rfl,hs⟩:=h
  refine zb ?_
  exact ⟨rfl,z,rfl,hs⟩
end
section
variable {w:World} {l r:List HP} {p:Nat} {A:PartA}
theorem zsg [hf:Fo l paP p A r] (h1:A.V.op.length<=1) (hlen:A.L.l.length<=1000000000) (hs:Sat w l):Ret P F.a112 #[.pointer (some ⟨p,0,none⟩)] w λvs w'=>vs=[.int .i64 (z5h A)]/\Sat w' (paP p A::r) :=
 zn3 _ <| by
  delta z00c AW Ac Ad Ag Ah Ai An Aq As Aw;unfold z5h
  obtain ⟨lg,t,v,hs⟩:=z4y (hs.perm hf.perm)
  refine zx ?_ (by simp)
  refine zh ?_
  refine za hs ?_
  refine z8 (zxm (v:=v) (A:=A.V) h1 hs) λ_ w' hs=>?_
  obtain ⟨z,rfl,hs⟩:=hs
  refine zb ?_
  have hz:=hs.slen z (xs:=A.V.op) (enc:=z2g)
  refine zg (λh=>?_) λh=>?_
  ·have h0:A.V.op.length=0:=by simpa [hz] using h
   rw [if_pos h0]
   have hs:Sat w' (paP p A::r):=z2i A hs
   refine z8 (zqf (p:=p) (A:=A) hlen hs) λ_ w' hs=>?_
   obtain ⟨rfl,hs⟩:=hs
   refine zb ?_
   refine wp_lt ?_
   exact ⟨rfl,rfl,hs⟩
  ·have h0:¬ A.V.op.length=0:=by simpa [hz] using h
   rw [if_neg h0]
   refine zh ?_
   refine za hs ?_
   refine z8 (zil (v:=v) (A:=A.V) hs) λ_ w' hs=>?_
   obtain ⟨rfl,hs⟩:=hs
   refine zb ?_
   have hs:Sat w' (paP p A::r):=z2i A hs
   refine z8 (zlf (p:=p) (A:=A) hs) λ_ w' hs=>?_
   obtain ⟨rfl,hs⟩:=hs
   refine zb ?_
   refine wp_lt ?_
   refine ⟨rfl,?_,hs⟩
   have e:(if z11 A.L.l>z6i A.V then z11 A.L.l else z6i A.V)=max (z6i A.V) (z11 A.L.l):=by split <;> omega
   rw [e]
theorem zlz {A:PartA} (h1:A.V.op.length<=1):zam A:=λ{w l r p} hf hlen hs=>@zsg w l r p A hf h1 hlen hs
end
theorem gdk {w:World} {d e:Nat} {D:DiskA} {X:HP} {l:List HP} (h:d=e) (hs:Sat w (X::dk d D::l)):Sat w (X::dk e D::l):=by rw [<- h];exact hs
theorem zqw:∀ (bs:List BatM) (A:PartA),(bs.foldl z4r A).L=A.L
 | [],A=>rfl
 | b::bs,A=>by rw [List.foldl_cons,zqw bs];rfl
theorem z03n (L:LogA) (most:Int):(z5m L most).L=L:=by unfold z5m;rw [zqw];rfl
section
variable {w:World} {l r r1 r2 r3 l':List HP} {b d t p:Nat} {M:LedA} {D:DiskA}
def s13 (seg:Int):Int:=64+(if Int.tmod seg 200<0 then 0-Int.tmod seg 200 else Int.tmod seg 200)
theorem z061 (seg:Int):64<=s13 seg/\s13 seg<=263:=by
 have h1:=Int.lt_tmod_of_pos seg (b:=200) (by omega)
 have h2:=Int.tmod_lt_of_pos seg (b:=200) (by omega)
 unfold s13
 split <;> omega
end
def gP:ByteArray:=ByteArray.mk #[120]
def gM (d:Nat):LedA:=(z5m ⟨d,gP,64,30,[]⟩ 2,⟨0,[]⟩)
def gD:DiskA:=⟨65536,-1,false,[]⟩
abbrev gA:ByteArray:=ByteArray.mk #[97]
abbrev gB:ByteArray:=ByteArray.mk #[98]
theorem g1 (d:Nat) (x:Sl):(zaf (gM d) gD (z5i 0 x [z71 gA (ByteArray.mk #[49]) 0])).1=0/\z83 (gM d).2 (z2c ((z5i 0 x [z71 gA (ByteArray.mk #[49]) 0]).to (z0n (gM d).1 gD (z5i 0 x [z71 gA (ByteArray.mk #[49]) 0])).1.1))=true:=⟨by kernel_rfl,by kernel_rfl⟩
section
variable {d:Nat} {x1 x2 x3 x4:Sl} {S U V W:LedA × DiskA}
theorem g2 (x:Sl) (h:S=(zaf (gM d) gD (z5i 0 x1 [z71 gA (ByteArray.mk #[49]) 0])).2):(zaf S.1 S.2 (z5i 0 x [z71 gA (ByteArray.mk #[50]) 0])).1=0/\z83 S.1.2 (z2c ((z5i 0 x [z71 gA (ByteArray.mk #[50]) 0]).to (z0n S.1.1 S.2 (z5i 0 x [z71 gA (ByteArray.mk #[50]) 0])).1.1))=true/\S.1.2.l.length=1:=by subst h;exact ⟨by kernel_rfl,by kernel_rfl,by kernel_rfl⟩
theorem g3 (x:Sl) (h:S=(zaf (gM d) gD (z5i 0 x1 [z71 gA (ByteArray.mk #[49]) 0])).2) (h2:U=(zaf S.1 S.2 (z5i 0 x2 [z71 gA (ByteArray.mk #[50]) 0])).2):(zaf U.1 U.2 (z5i 0 x [z71 gB (ByteArray.mk #[120]) 0])).1=0/\z83 U.1.2 (z2c ((z5i 0 x [z71 gB (ByteArray.mk #[120]) 0]).to (z0n U.1.1 U.2 (z5i 0 x [z71 gB (ByteArray.mk #[120]) 0])).1.1))=true/\U.1.2.l.length=1:=by subst h h2;exact ⟨by kernel_rfl,by kernel_rfl,by kernel_rfl⟩
theorem g4 (x:Sl) (h:S=(zaf (gM d) gD (z5i 0 x1 [z71 gA (ByteArray.mk #[49]) 0])).2) (h2:U=(zaf S.1 S.2 (z5i 0 x2 [z71 gA (ByteArray.mk #[50]) 0])).2) (h3:V=(zaf U.1 U.2 (z5i 0 x3 [z71 gB (ByteArray.mk #[120]) 0])).2) :
  (z1j V.1.2.l gB).isSome=true/\(zaf V.1 V.2 (z5i 1 x [zrm gB 1])).1=0/\z83 V.1.2 (z2c ((z5i 1 x [zrm gB 1]).to (z0n V.1.1 V.2 (z5i 1 x [zrm gB 1])).1.1))=true/\V.1.2.l.length=2:=by subst h h2 h3;exact ⟨by kernel_rfl,by kernel_rfl,by kernel_rfl,by kernel_rfl⟩
end
instance (r:RecM) (c:ComM):Decidable (z98 r c):=by unfold z98;infer_instance
def zjm (r:RecM):ComM:=⟨z4q (r.key.extract 1 r.key.size).data.toList,(zv (some r.value.data.toList)).1,(zv (zv (some r.value.data.toList)).2).1,(zv (zv (zv (some r.value.data.toList)).2).2).1⟩
def z8n (r:RecM):Option ComM:=if z98 r (zjm r) then some (zjm r) else none
theorem zle {r:RecM} {c:ComM}:z8n r=some c↔z98 r c:=by
 unfold z8n
 constructor
 ·intro h
  split at h
  ·rename_i h1
   rw [<- Option.some.inj h];exact h1
  ·cases h
 ·intro h
  have e:zjm r=c:=by
   obtain ⟨h1,h2,h3⟩:=z9z h
   obtain ⟨q1,q2,q3,-⟩:=zjg h.1
   obtain ⟨q0,q5,q6,q7⟩:=h.1
   unfold zjm
   rw [h2,h3,ziw q0,q1,q2,q3]
   obtain ⟨a,b,d,e⟩:=c
   simp only at q5 q6 q7
   congr 1 <;> simp only <;> omega
  rw [e,if_pos h]
theorem zd0 {r:RecM} {c:ComM} {e:Int} (h:zzo r c e):(e=0/\z8n r=some c)\/(e=6/\c=com0/\z8n r=none):=by
 rcases h with ⟨h1,h2⟩|⟨h1,h2,h3⟩
 ·exact .inl ⟨h1,zle.2 h2⟩
 ·refine .inr ⟨h1,h2,?_⟩
  cases hp:z8n r with
  | none=>rfl
  | some c'=>exact absurd (zle.1 hp) (h3 c')
structure OffA where
 A:PartA
 at_:Int
 C:TbC
def ofP (b:Nat) (M:OffA):HP:=HP.ex λq:Nat × Nat=>HP.star (pt b (.cells #[.pointer (some ⟨q.2,0,none⟩),.int .i64 M.at_,.pointer (some ⟨q.1,0,none⟩)] T.a25)) (HP.star (tbC q.1 M.C) (paP q.2 M.A))
def z36 (C:TbC) (a:AtM):TbC:=if (z8n a.r).isSome=true then (z7b C [a]).2 else C
def zfw {β:Type} (ok:β->AtM->Bool) (st:β->AtM->β):β->List AtM->Bool
 | _,[]=>true
 | C,a::xs=>ok C a && zfw ok st (st C a) xs
theorem zkj {β:Type} (ok:β->AtM->Bool) (st:β->AtM->β):∀ (xs:List AtM) (C:β) (i:Nat) (h:i<xs.length),zfw ok st C xs=true->ok ((xs.take i).foldl st C) xs[i]=true
 | x::xs,C,0,_,h=>by
  have h:(ok C x && zfw ok st (st C x) xs)=true:=h
  rw [Bool.and_eq_true] at h
  exact h.1
 | x::xs,C,i+1,hi,h=>by
  have h:(ok C x && zfw ok st (st C x) xs)=true:=h
  rw [Bool.and_eq_true] at h
  exact zkj ok st xs (st C x) i (by simpa using hi) h.2
def okK (C:TbC) (a:AtM):Bool:=(z8n a.r).isNone || zb8 C a
abbrev endsK:TbC->List AtM->Bool:=zfw okK z36
def z87 (M:OffA):OffA:=if (z1v M.A M.at_ 1099511627776 true).2≠0 then M else ⟨M.A,(z1v M.A M.at_ 1099511627776 true).1.2,(z1v M.A M.at_ 1099511627776 true).1.1.foldl z36 M.C⟩
theorem zur (C:TbC) (xs:List AtM):(z7b C xs).2.l.length<=C.l.length+xs.length:=by
 unfold z7b
 split
 ·exact Nat.le_add_right _ _
 ·exact zfg xs C
theorem zuq (C:TbC) (a:AtM):(z36 C a).l.length<=C.l.length+1:=by
 unfold z36
 split
 ·exact zur C [a]
 ·exact Nat.le_succ _
theorem zfp:∀ (xs:List AtM) (C:TbC),(xs.foldl z36 C).l.length<=C.l.length+xs.length
 | [],C=>Nat.le_refl _
 | x::xs,C=>by
  have h1:=zfp xs (z36 C x)
  have h2:=zuq C x
  rw [List.foldl_cons,List.length_cons];omega
theorem zlg {A:PartA} {c:Bool} {a:AtM}:∀ (bs:List BatM) (n:Int),a ∈ (z2u A c n bs).1->∃ b ∈ bs,a ∈ z2c b
 | [],n,h=>by cases h
 | b::bs,n,h=>by
  by_cases hs:c=true/\b.base>=z5h A
  ·rw [zix hs] at h;cases h
  rw [zqd hs] at h
  rcases List.mem_append.1 h with h|h
  ·split at h
   ·exact ⟨b,List.mem_cons_self ..,h⟩
   ·cases h
  ·obtain ⟨d,h1,h2⟩:=zlg bs _ h
   exact ⟨d,List.mem_cons_of_mem _ h1,h2⟩
theorem zxg {b:BatM} {a:AtM} (h:a ∈ z2c b):a.r ∈ b.rs:=by
 unfold z2c at h
 split at h
 ·cases h
 ·obtain ⟨i,hi,rfl⟩:=List.mem_mapIdx.1 h
  exact List.getElem_mem hi
theorem zw8 {l:List SegA} {off most:Int} {b:BatM} (hok:z09 0 l) (h:b ∈ (z4f l off most).2):∀ r ∈ b.rs,z1u r=0:=by
 unfold z4f at h
 split at h
 ·cases h
 split at h
 ·cases h
 ·obtain ⟨c,hc,hf⟩:=List.mem_filterMap.1 (List.mem_of_mem_take h)
  have hv:=((z90 (Int.le_refl 0) hok).valid c hc).1
  have hr:=(z22 hv).2
  unfold z0o at hf
  split at hf
  ·cases hf
  split at hf
  ·cases hf;exact hr
  ·cases hf
   exact λr h=>hr r (List.mem_of_mem_drop h)
theorem zyk {A:PartA} {off most:Int} {c:Bool} (hok:z09 0 A.L.l) {a:AtM} (h:a ∈ (z1v A off most c).1.1) : -9223372036854775808<=a.off/\z1u a.r=0:=by
 unfold z1v at h
 split at h
 ·cases h
 ·obtain ⟨b,h1,h2⟩:=zlg _ _ h
  exact ⟨zxf a h2,zw8 hok h1 _ (zxg h2)⟩
section
variable {w:World} {l r r1 r2 r3 l':List HP} {b d t p:Nat} {M:OffA} {D:DiskA}
theorem zaz (hs:Sat w (ofP b M::l)):∃ t p:Nat,Sat w (pt b (.cells #[.pointer (some ⟨p,0,none⟩),.int .i64 M.at_,.pointer (some ⟨t,0,none⟩)] T.a25)::tbC t M.C::paP p M.A::l):=by
 obtain ⟨⟨t,p⟩,hs⟩:=hs.ex
 have hs:=hs.star
 have hs:=(hs.pick [1]).star
 exact ⟨t,p,hs.pick [2]⟩
theorem zjo (t p:Nat) (hs:Sat w (pt b (.cells #[.pointer (some ⟨p,0,none⟩),.int .i64 M.at_,.pointer (some ⟨t,0,none⟩)] T.a25)::tbC t M.C::paP p M.A::l)):Sat w (ofP b M::l):=by
 have h1:=(hs.pick [1,1]).star_mk
 exact .ex_mk (t,p) ((h1.pick [1]).star_mk)
theorem zbo (M:OffA) (hs:Sat w l) [h1:FocB l b (.cells [.pointer (some ⟨p,0,none⟩),.int .i64 M.at_,.pointer (some ⟨t,0,none⟩)].toArray T.a25) r1] [h2:Fo r1 tbC t M.C r2] [h3:Fo r2 paP p M.A r3] [h4:Sub r3 l']:Sat w (ofP b M::l'):=by
 have hs:=hs.perm (h1.perm.trans (.cons _ (h2.perm.trans (.cons _ h3.perm))))
 have hs:Sat w (ofP b M::r3):=zjo t p hs
 exact hs.sub
set_option maxHeartbeats 1000000 in
theorem zqb {r1:List HP} [hf:Fo l ofP b M r1] [hf2:Fo r1 dk M.A.L.d D r] (h:Cpl M.A.L.pre M.A.L.l D) (hat : -9223372036854775808<=M.at_/\M.at_<9223372036854775808)
  (hend:endsK M.C (z1v M.A M.at_ 1099511627776 true).1.1=true) (hlen:M.C.l.length+(z1v M.A M.at_ 1099511627776 true).1.1.length<=1000000) (hst:zam M.A) (hs:Sat w l) :
  Ret P F.a97 #[.pointer (some ⟨b,0,none⟩)] w λvs w'=>vs=[]/\Sat w' (ofP b (z87 M)::dk M.A.L.d D::r) :=
 zmq _ <| by
  delta zzz AB AC AF AG AT AU AV AW Ac Ad Af Ag Ah Ai Aj Aq As Aw Ax Az BE BW BX BY Be Bg Cd;unfold z87
  have hs:=hs.perm (hf.perm.trans (.cons _ hf2.perm))
  clear hf hf2
  obtain ⟨t,p,hs⟩:=zaz hs
  refine zy hs λw' hs=>?_
  refine zh ?_
  refine za hs ?_
  refine zh ?_
  refine za hs ?_
  have hs:Sat w' (paP p M.A::dk M.A.L.d D::pt b (.cells #[.pointer (some ⟨p,0,none⟩),.int .i64 M.at_,.pointer (some ⟨t,0,none⟩)] T.a25)::tbC t M.C::r):=hs.sub
  refine z8 (zyj (p:=p) (A:=M.A) (D:=D) hst M.at_ 1099511627776 true hat (by omega) h hs) λ_ w' hs=>?_
  obtain ⟨z,rfl,hs⟩:=hs
  have hpo:∀ a ∈ (z1v M.A M.at_ 1099511627776 true).1.1,-9223372036854775808<=a.off/\z1u a.r=0:=λa ha=>zyk h.segs ha
  generalize z1v M.A M.at_ 1099511627776 true=q at hs hend hlen hpo ⊢
  obtain ⟨⟨xs,n⟩,e⟩:=q
  simp only at hs hend hlen hpo ⊢
  refine ⟨(z,n,e,()),rfl,trivial,zgr _ _ _ ?_⟩
  refine wp_lt ?_
  refine wp_lt ?_
  refine zd ?_
  refine zg (λhe=>?_) λhe=>?_
  ·rw [if_pos (by simpa using he)]
   exact ⟨rfl,rfl,zbo (t:=t) (p:=p) M hs⟩
  rw [if_neg (by simpa using he)]
  have hzl:=hs.slen z (xs:=xs) (enc:=z08)
  have hs:Sat w' (slc T.a38 5 z (xs.flatMap z08)::pt b (.cells #[.pointer (some ⟨p,0,none⟩),.int .i64 M.at_,.pointer (some ⟨t,0,none⟩)] T.a25)::tbC t M.C::paP p M.A::dk M.A.L.d D::r):=hs.sub
  refine zk (λq w'=>Sat w' (pt b (.cells #[.pointer (some ⟨p,0,none⟩),.int .i64 M.at_,.pointer (some ⟨t,0,none⟩)] T.a25)::tbC t (xs.foldl z36 M.C)::paP p M.A::dk M.A.L.d D::r)) ?_ ?_
  rotate_left
  ·rintro _ w2 hs
   refine zj ?_
   refine zh ?_
   refine z03 hs λw' hs=>?_
   exact ⟨rfl,rfl,zbo (t:=t) (p:=p) ⟨M.A,n,xs.foldl z36 M.C⟩ hs⟩
  refine z0a (λm q w=>∃ i:Nat,q=((i:Int),())/\i<=xs.length/\xs.length-i=m/\Sat w (slc T.a38 5 z (xs.flatMap z08)::pt b (.cells #[.pointer (some ⟨p,0,none⟩),.int .i64 M.at_,.pointer (some ⟨t,0,none⟩)] T.a25)::tbC t ((xs.take i).foldl z36 M.C)::paP p M.A::dk M.A.L.d D::r)) xs.length
   ⟨0,rfl,by omega,rfl,hs⟩ ?_
  clear hs
  rintro m _ w ⟨i,rfl,hi,hm,hs⟩
  refine zj ?_
  refine zg (λhc=>?_) λhc=>?_
  rotate_left
  ·rw [List.take_of_length_le (by omega)] at hs
   exact zo (zf hs.sub)
  have hil:i<xs.length:=by omega
  have htk:(xs.take (i+1)).foldl z36 M.C=z36 ((xs.take i).foldl z36 M.C) xs[i]:=by rw [List.take_add_one,List.getElem?_eq_getElem hil,Option.toList_some,List.foldl_append,List.foldl_cons,List.foldl_nil]
  have hal:=zfp (xs.take i) M.C
  rw [List.length_take] at hal
  have hea:okK ((xs.take i).foldl z36 M.C) xs[i]=true:=zkj okK z36 xs M.C i hil hend
  have hpa:=hpo _ (List.getElem_mem hil)
  generalize (xs.take i).foldl z36 M.C=C at *
  refine z35 hs i hil ?_
  generalize xs[i]=a at *
  refine zm hs λa19 w' hs=>?_
  refine zl hs λw' hs=>?_
  refine zda hs (a.r.key,a.r.value,a.r.gone,a.r.time,()) ?_
  refine z8 (zhh a.r (by have:=(z3k hpa.2).2.1;omega) hs) λ_ w' hs=>?_
  obtain ⟨c,e',rfl,hp,hs⟩:=hs
  refine ⟨(c.part,c.off,c.mem,c.gen,e',()),rfl,trivial,z3w _ _ _ _ _ ?_⟩
  refine zm hs λa29 w' hs=>?_
  refine zl hs λw' hs=>?_
  refine wp_lt ?_
  refine zk (λq w'=>Sat w' (slc T.a38 5 z (xs.flatMap z08)::pt b (.cells #[.pointer (some ⟨p,0,none⟩),.int .i64 M.at_,.pointer (some ⟨t,0,none⟩)] T.a25)::tbC t (z36 C a)::paP p M.A::dk M.A.L.d D::r)) ?_ ?_
  rotate_left
  ·rintro _ w2 hs
   refine zj ?_
   refine z28 (us':=[.int .i64 ((i+1:Nat):Int)]) (by (try simp (disch:=omega) only [w64]);first|rfl|(congr;omega)) ?_
   refine z0w (xs.length-(i+1)) ⟨i+1,rfl,by omega,rfl,?_⟩
   rw [htk];exact hs
  rcases zd0 hp with ⟨rfl,hpk⟩|⟨rfl,-,hpk⟩
  rotate_left
  ·refine zx ?_ (by simp)
   have e:z36 C a=C:=by unfold z36;rw [hpk];rfl
   rw [e]
   exact zf hs.sub
  have heb:z83 C [a]=true:=by
   unfold okK at hea
   rw [hpk] at hea
   have hea:zb8 C a=true:=hea
   show (zb8 C a && true)=true
   rw [hea];rfl
  refine z0b ?_ (by simp)
  have e:z36 C a=(z7b C [a]).2:=by unfold z36;rw [hpk];rfl
  rw [e]
  refine zk (λq w'=>Sat w' (slc T.a38 5 z (xs.flatMap z08)::pt b (.cells #[.pointer (some ⟨p,0,none⟩),.int .i64 M.at_,.pointer (some ⟨t,0,none⟩)] T.a25)::tbC t (z7b C [a]).2::paP p M.A::dk M.A.L.d D::r)) ?_ ?_
  rotate_left
  ·rintro _ w2 hs
   refine zj ?_
   exact zf hs
  refine zy hs λw' hs=>?_
  refine zh ?_
  refine z0x hs ?_
  refine ze hs ?_
  refine z6j hs (enc:=z08) [a] λy w' hs=>⟨(by first|trivial|(repeat (first|exact trivial|exact λ_=>z06 hs|exact λ_=>z0f hs|refine And.intro ?_ ?_))),?_⟩
  refine zd ?_
  have hs:Sat w' (tbC t C::slc T.a38 5 y ([a].flatMap z08)::slc T.a38 5 z (xs.flatMap z08)::pt b (.cells #[.pointer (some ⟨p,0,none⟩),.int .i64 M.at_,.pointer (some ⟨t,0,none⟩)] T.a25)::paP p M.A::dk M.A.L.d D::r):=hs.sub
  refine z8 (zx3 (t:=t) (C:=C) y [a] (λa' ha=>by rw [List.mem_singleton.1 ha];exact hpa.1) heb (by simp only [List.length_cons,List.length_nil];omega) hs) λ_ w' hs=>?_
  obtain ⟨rfl,hs⟩:=hs
  refine zb ?_
  refine zd ?_
  exact zf hs.sub
end
def z7h (pid epoch seq time:Int) (z:Sl) (cs:List ComM):BatM:=⟨0,pid,epoch,seq,1,time,z,cs.map λc=>z5a c time⟩
def zb0 (M:OffA) (q:(Int × Bool × Int) × PartA × DiskA):OffA:=⟨q.2.1,M.at_,M.C⟩
def ofO (M:OffA) (part:Int):ComM × Bool:=match z1j M.C.l (z18 part) with
 | none=>(com0,false)
 | some a=>((z8n a.r).getD com0,true)
instance {b:Bool} {n:Int}:IsR (.tup [.one .bool,.one (.int .i64)]) [.bool b,.int .i64 n] (b,n,()):=⟨rfl⟩
instance {c:ComM} {b:Bool}:IsR (.tup [.agg [.int .i64,.int .i64,.int .i64,.int .i64],.one .bool]) [.agg (z6v c).toArray,.bool b] (c.part,c.off,c.mem,c.gen,b,()):=⟨rfl⟩
structure PenM where
 pid:Int
 epoch:Int
 c:ComM
def z2y (p:PenM):List Value:=[.int .i64 p.pid,.int .i64 p.epoch,.int .i64 p.c.part,.int .i64 p.c.off,.int .i64 p.c.mem,.int .i64 p.c.gen]
instance:EncA z2y [.int .i64,.int .i64,.int .i64,.int .i64,.int .i64,.int .i64] (λp=>(p.pid,p.epoch,p.c.part,p.c.off,p.c.mem,p.c.gen,())):=⟨λ_=>rfl⟩
instance:EncN z2y 6:=⟨λ_=>rfl,by decide,by simp [z2y,Value.oneCell']⟩
instance:EncF z2y 3 (.int .i64) (λp=>p.c.off):=⟨λ_=>rfl⟩
section
variable {w:World} {l r r1 r2 r3 l':List HP} {b d t p:Nat} {M:OffA} {D:DiskA}
theorem z03m (pre:ByteArray) (seg gap most:Int) (hp:z3q pre=true) (hc:zdg seg gap) (hm:1<=most/\most<=1024) (hg:D.gone=false) {S:List SegA} (h:Cpl pre S D) (hno:∀ f ∈ D.fs,f.name≠zdm pre/\f.name≠zdo pre)
  (hf0 : -9223372036854775808<=z11 S/\z11 S<9223372036854775808)
  (hend:endsK ⟨0,[]⟩ (z1v (z5m ⟨d,pre,seg,gap,S⟩ most) (z11 S) 1099511627776 true).1.1=true) (hlen:(z1v (z5m ⟨d,pre,seg,gap,S⟩ most) (z11 S) 1099511627776 true).1.1.length<=1000000) (hst:zam (z5m ⟨d,pre,seg,gap,S⟩ most)) [hf:Fo l dk d D r] (hs:Sat w l) :
  Ret P F.a98 #[.pointer (some ⟨d,0,none⟩),.string pre,.agg #[.int .i64 seg,.int .i64 gap,.int .i64 most]] w λvs w'=>∃ b:Nat,vs=[.pointer (some ⟨b,0,none⟩),.int .i64 0] /\
   Sat w' (ofP b (z87 ⟨z5m ⟨d,pre,seg,gap,S⟩ most,z11 S,⟨0,[]⟩⟩)::dk d D::r) :=
 zmr _ pre seg gap most <| by
  delta z000 Ac Ag Ah Ai Ao Ap Aq Aw Ay Bj Br Bw Bx
  refine zp (hs.perm hf.perm) λa0 w' hs=>?_
  clear hf
  refine ze hs ?_
  have hs:=hs.pick [1]
  refine z8 (z03t (d:=d) (D:=D) pre seg gap most hp hc hm hg h hno hs) λ_ w' hs=>?_
  obtain ⟨p,rfl,hs⟩:=hs
  refine ⟨(some ⟨p,0,none⟩,0,()),rfl,trivial,z2l _ _ ?_⟩
  refine wp_lt ?_
  refine zx ?_ (by simp)
  obtain ⟨A,hA⟩:∃ A,A=z5m ⟨d,pre,seg,gap,S⟩ most:=⟨_,rfl⟩
  have hAL:A.L=⟨d,pre,seg,gap,S⟩:=by rw [hA];exact z03n _ _
  rw [<- hA] at hs hend hlen hst ⊢
  refine z8 (zlf (p:=p) (A:=A) hs) λ_ w' hs=>?_
  obtain ⟨rfl,hs⟩:=hs
  refine zb ?_
  have e1:z11 A.L.l=z11 S:=by rw [hAL]
  have hd:A.L.d=d:=by rw [hAL]
  have hcp:Cpl A.L.pre A.L.l D:=by rw [hAL];exact h
  rw [e1]
  refine z8 (z04z hs) λ_ w' hs=>?_
  obtain ⟨t,rfl,hs⟩:=hs
  refine zb ?_
  refine zp hs λb w' hs=>?_
  have hs:Sat w' (ofP b ⟨A,z11 S,⟨0,[]⟩⟩::dk d D::r):=by
   have hs:Sat w' (pt b (.cells #[.pointer (some ⟨p,0,none⟩),.int .i64 (z11 S),.pointer (some ⟨t,0,none⟩)] T.a25)::tbC t ⟨0,[]⟩::paP p A::dk d D::r):=hs.sub
   exact zjo (M:=⟨A,z11 S,⟨0,[]⟩⟩) t p hs
  have hs:=gdk hd.symm hs
  refine z8 (zqb (b:=b) (M:=⟨A,z11 S,⟨0,[]⟩⟩) (D:=D) hcp hf0 hend (by show 0+(z1v A (z11 S) 1099511627776 true).1.1.length<=1000000;omega) hst hs) λ_ w' hs=>?_
  obtain ⟨rfl,hs⟩:=hs
  refine zb ?_
  refine ⟨rfl,b,rfl,?_⟩
  exact gdk hd hs
set_option maxHeartbeats 1000000 in
theorem z05r (pid epoch seq time:Int) (x:Sl) (cs:List ComM) (hcs:∀ c ∈ cs,z6l c/\(0<=time/\time<=1099511627776)) (hne:cs≠[]) (hcl:cs.length<=1000) {r1:List HP} [hf:Fo l ofP b M r1] [hf2:Fo r1 dk M.A.L.d D r] (hb:FocR r x 4 (cs.flatMap z6v)) (h:Cpl M.A.L.pre M.A.L.l D) (hs:Sat w l) :
  Ret P F.a95 #[.pointer (some ⟨b,0,none⟩),.int .i64 pid,.int .i64 epoch,.int .i64 seq,.int .i64 time,x.v] w λvs w'=>∃ z:Sl,
   vs=[.bool (z0n M.A D (z7h pid epoch seq time z cs)).1.2.1,.int .i64 (z0n M.A D (z7h pid epoch seq time z cs)).1.2.2]/\Sat w' (ofP b (zb0 M (z0n M.A D (z7h pid epoch seq time z cs)))::dk M.A.L.d (z0n M.A D (z7h pid epoch seq time z cs)).2.2::r) :=
 zgx _ pid epoch seq time x <| by
  delta zzk AB AC AD AE AG AH AM AT AU AV AW Ac Ad Ae Af Ag Ah Ai Aj Aq As Ax BE BF BO BV Be
  have hs:=hs.perm (hf.perm.trans (.cons _ hf2.perm))
  clear hf hf2
  have hxl:=hs.slen x (xs:=cs) (enc:=z6v)
  have hpos:0<cs.length:=List.length_pos_iff.2 hne
  refine zx ?_ (by simp)
  refine zx ?_ (by rw [hxl];omega)
  refine zm hs λa0 w' hs=>?_
  refine zl hs λw' hs=>?_
  have hs:Sat w' (slc T.a2 4 ⟨none,0,0⟩ (([]:List RecM).flatMap z01)::_):=hs.slc_nil
  have hs:Sat w' (pt a0 (.cells #[.int .i64 0,.int .i64 pid,.int .i64 epoch,.int .i64 seq,.int .i64 1,.int .i64 time,.slice none 0 0] T.a0)::slc T.a2 4 ⟨none,0,0⟩ (([]:List RecM).flatMap z01)::ofP b M::dk M.A.L.d D::r):=hs.sub
  refine zk (λq w'=>∃ z:Sl,Sat w' (pt a0 (.cells #[.int .i64 0,.int .i64 pid,.int .i64 epoch,.int .i64 seq,.int .i64 1,.int .i64 time,.slice z.a z.len z.cap] T.a0)::slc T.a2 4 z ((cs.map λc=>z5a c time).flatMap z01)::ofP b M::dk M.A.L.d D::r)) ?_ ?_
  ·refine z0a (λm q w=>∃ (i:Nat) (z:Sl),q=((i:Int),())/\i<=cs.length/\cs.length-i=m/\Sat w (pt a0 (.cells #[.int .i64 0,.int .i64 pid,.int .i64 epoch,.int .i64 seq,.int .i64 1,.int .i64 time,.slice z.a z.len z.cap] T.a0)::slc T.a2 4 z (((cs.take i).map λc=>z5a c time).flatMap z01)::ofP b M::dk M.A.L.d D::r)) cs.length
    ⟨0,⟨none,0,0⟩,rfl,by omega,rfl,hs⟩ ?_
   clear hs
   rintro m _ w ⟨i,z,rfl,hi,hm,hs⟩
   refine zj ?_
   refine zg (λhc=>?_) λhc=>?_
   rotate_left
   ·rw [List.take_of_length_le (by omega)] at hs
    exact zo (zf ⟨z,hs⟩)
   have hil:i<cs.length:=by omega
   have htk:(cs.take (i+1)).map (λc=>z5a c time)=(cs.take i).map (λc=>z5a c time)++[z5a cs[i] time]:=by rw [List.take_add_one,List.getElem?_eq_getElem hil,Option.toList_some,List.map_append];rfl
   have hmy:=hcs _ (List.getElem_mem hil)
   have hrl:((cs.take i).map λc=>z5a c time).length<=1000:=by rw [List.length_map,List.length_take];omega
   refine z35 hs i hil ?_
   generalize cs[i]=c at *
   refine zm hs λa8 w' hs=>?_
   refine zl hs λw' hs=>?_
   refine ze hs ?_
   refine z8 (zw0 c time hs) λ_ w' hs=>?_
   obtain ⟨rfl,hs⟩:=hs
   have e:zhk c time=(z5a c time,0):=by unfold zhk;rw [if_pos hmy]
   rw [e]
   refine ⟨((z5a c time).key,(z5a c time).value,false,time,0,()),rfl,trivial,z3w _ _ _ _ _ ?_⟩
   refine zm hs λa18 w' hs=>?_
   refine zl hs λw' hs=>?_
   refine wp_lt ?_
   refine zx ?_ (by simp)
   refine za hs ?_
   refine ze hs ?_
   refine z5g hs (xs:=(cs.take i).map λc=>z5a c time) (enc:=z01) (z5a c time) (λz' w' hs=>?_) rfl (by omega)
   rw [<- htk] at hs
   refine z03 hs λw' hs=>?_
   refine z28 (us':=[.int .i64 ((i+1:Nat):Int)]) (by (try simp (disch:=omega) only [w64]);first|rfl|(congr;omega)) ?_
   exact z0w (cs.length-(i+1)) ⟨i+1,z',rfl,by omega,rfl,hs.sub⟩
  clear hs
  rintro _ w ⟨z,hs⟩
  refine zj ?_
  refine zy hs λw' hs=>?_
  obtain ⟨t,p,hs⟩:=zaz (hs.pick [2])
  refine zh ?_
  refine za hs ?_
  refine ze hs ?_
  have hs:Sat w' (paP p M.A::dk M.A.L.d D::slc T.a2 4 z ((cs.map λc=>z5a c time).flatMap z01)::pt b (.cells #[.pointer (some ⟨p,0,none⟩),.int .i64 M.at_,.pointer (some ⟨t,0,none⟩)] T.a25)::tbC t M.C::r):=hs.sub
  have hb0:FocR (slc T.a2 4 z ((cs.map λc=>z5a c time).flatMap z01)::pt b (.cells #[.pointer (some ⟨p,0,none⟩),.int .i64 M.at_,.pointer (some ⟨t,0,none⟩)] T.a25)::tbC t M.C::r) (z7h pid epoch seq time z cs).x 4 ((z7h pid epoch seq time z cs).rs.flatMap z01) :=
   (FocR.head:FocR (slc T.a2 4 z ((cs.map λc=>z5a c time).flatMap z01)::pt b (.cells #[.pointer (some ⟨p,0,none⟩),.int .i64 M.at_,.pointer (some ⟨t,0,none⟩)] T.a25)::tbC t M.C::r) z 4 ((cs.map λc=>z5a c time).flatMap z01))
  refine z8 (z05s (p:=p) (A:=M.A) (D:=D) (z7h pid epoch seq time z cs) hb0 h (by show (cs.map λc=>z5a c time).length<=_;rw [List.length_map];omega) rfl hs) λ_ w' hs=>?_
  obtain ⟨rfl,hs⟩:=hs
  generalize hq:z0n M.A D (z7h pid epoch seq time z cs)=q at *
  obtain ⟨⟨n,again,e⟩,A',D'⟩:=q
  simp only at hs ⊢
  refine ⟨(n,again,e,()),rfl,trivial,zgr _ _ _ ?_⟩
  refine wp_lt ?_
  refine wp_lt ?_
  refine wp_lt ?_
  refine zd ?_
  refine wp_lt ?_
  refine wp_lt ?_
  refine ⟨rfl,z,by rw [hq],?_⟩
  rw [hq]
  exact zbo (t:=t) (p:=p) (zb0 M ((n,again,e),A',D')) hs
end
theorem z04s (a:Addr):Addr.add (Addr.add (Addr.add a 0) 2) 1=Addr.add (Addr.add a 0) 3:=rfl
def z2t (b:BatM) (rs:List RecM):List PenM:=(rs.filterMap z8n).map λc=>⟨b.pid,b.epoch,c⟩
section
variable {w:World} {l r r1 r2 r3 l':List HP} {b d t p:Nat} {M:OffA} {D:DiskA}
set_option maxHeartbeats 1000000 in
theorem zzu (part:Int) (hp:0<=part/\part<=255) (hv:∀ a ∈ M.C.l,a.r.value.size<=1000000) [hf:Fo l ofP b M r] (hs:Sat w l) :
  Ret P F.a94 #[.pointer (some ⟨b,0,none⟩),.int .i64 part] w λvs w'=>vs=[.agg (z6v (ofO M part).1).toArray,.bool (ofO M part).2]/\Sat w' (ofP b M::r) :=
 zgw _ part <| by
  delta zzj AB AC AF AG AM AP AT AU Ac Ag Ah Ai Ap Aq As BE BF BX BY BZ Bg Ca
  have hs:=hs.perm hf.perm
  clear hf
  obtain ⟨t,p,hs⟩:=zaz hs
  refine zm hs λa0 w' hs=>?_
  refine z2x (by rw [Bool.or_eq_false_iff,Bool.or_eq_false_iff,decide_eq_false_iff_not,decide_eq_false_iff_not];exact ⟨⟨rfl,by omega⟩,by omega⟩) ?_
  have hk:∀ {w:World} {l:List HP},Sat w l->Ret P F.a102 #[.int .i64 part] w λvs w'=>vs=[.string (z18 part)]/\Sat w' l:=λhs=>by
   have hk:=zl9 part.toNat (by omega) hs
   rw [show ((part.toNat:Nat):Int)=part by omega] at hk
   exact hk
  refine zk (λq w'=>∃ a:Nat,q=(⟨a,0,none⟩,(z1j M.C.l (z18 part)).isSome,())/\Sat w' (pt a (.cells #[.int .i64 (orC (z1j M.C.l (z18 part))).off,.string (orC (z1j M.C.l (z18 part))).r.key,.string (orC (z1j M.C.l (z18 part))).r.value,.bool (orC (z1j M.C.l (z18 part))).r.gone,.int .i64 (orC (z1j M.C.l (z18 part))).r.time] T.a38) ::
   pt a0 (.cells #[.int .i64 0,.int .i64 0,.int .i64 0,.int .i64 0] T.a24)::ofP b M::r)) ?_ ?_
  ·refine zy hs λw' hs=>?_
   refine zh ?_
   refine z0x hs ?_
   have hfin:∀ {w':World} {a:Nat},Sat w' (tbC t M.C::pt a (.cells #[.int .i64 (orC (z1j M.C.l (z18 part))).off,.string (orC (z1j M.C.l (z18 part))).r.key,.string (orC (z1j M.C.l (z18 part))).r.value,.bool (orC (z1j M.C.l (z18 part))).r.gone,.int .i64 (orC (z1j M.C.l (z18 part))).r.time] T.a38)::pt a0 (.cells #[.int .i64 0,.int .i64 0,.int .i64 0,.int .i64 0] T.a24)::pt b (.cells #[.pointer (some ⟨p,0,none⟩),.int .i64 M.at_,.pointer (some ⟨t,0,none⟩)] T.a25)::paP p M.A::r) ->
     Sat w' (pt a (.cells #[.int .i64 (orC (z1j M.C.l (z18 part))).off,.string (orC (z1j M.C.l (z18 part))).r.key,.string (orC (z1j M.C.l (z18 part))).r.value,.bool (orC (z1j M.C.l (z18 part))).r.gone,.int .i64 (orC (z1j M.C.l (z18 part))).r.time] T.a38)::pt a0 (.cells #[.int .i64 0,.int .i64 0,.int .i64 0,.int .i64 0] T.a24)::ofP b M::r):=λhs=>by
    have hs:=zjo (M:=M) t p (hs.pick [3,0,2])
    exact hs.sub
   refine ⟨?_,?_⟩
   ·refine z8 (hk hs) λ_ w' hs=>?_
    obtain ⟨rfl,hs⟩:=hs
    refine zb ?_ (by first|trivial|(repeat (first|exact trivial|exact λ_=>z06 hs|exact λ_=>z0f hs|refine And.intro ?_ ?_)))
    refine ⟨?_,?_⟩
    ·refine zd ?_
     refine z8 (zkc (t:=t) (C:=M.C) (z18 part) hs) λ_ w' hs=>?_
     obtain ⟨rfl,hs⟩:=hs
     refine ⟨((orC (z1j M.C.l (z18 part))).off,(orC (z1j M.C.l (z18 part))).r.key,(orC (z1j M.C.l (z18 part))).r.value,(orC (z1j M.C.l (z18 part))).r.gone,(orC (z1j M.C.l (z18 part))).r.time,(z1j M.C.l (z18 part)).isSome,()),rfl,trivial,zsx _ _ _ _ _ _ ?_⟩
     refine zm hs λa15 w' hs=>?_
     refine zl hs λw' hs=>?_
     refine wp_lt ?_
     refine zd ?_
     exact zf ⟨a15,rfl,hfin hs.sub⟩
    ·refine zm hs λa17 w' hs=>?_
     refine zd ?_
     refine z8 (zkc (t:=t) (C:=M.C) (z18 part) hs) λ_ w' hs=>?_
     obtain ⟨rfl,hs⟩:=hs
     refine ⟨((orC (z1j M.C.l (z18 part))).off,(orC (z1j M.C.l (z18 part))).r.key,(orC (z1j M.C.l (z18 part))).r.value,(orC (z1j M.C.l (z18 part))).r.gone,(orC (z1j M.C.l (z18 part))).r.time,(z1j M.C.l (z18 part)).isSome,()),rfl,trivial,zsx _ _ _ _ _ _ ?_⟩
     refine zl hs λw' hs=>?_
     refine wp_lt ?_
     refine zd ?_
     exact zf ⟨a17,rfl,hfin hs.sub⟩
   ·refine zm hs λa25 w' hs=>?_
    refine z8 (hk hs) λ_ w' hs=>?_
    obtain ⟨rfl,hs⟩:=hs
    refine zb ?_ (by first|trivial|(repeat (first|exact trivial|exact λ_=>z06 hs|exact λ_=>z0f hs|refine And.intro ?_ ?_)))
    refine zd ?_
    refine z8 (zkc (t:=t) (C:=M.C) (z18 part) hs) λ_ w' hs=>?_
    obtain ⟨rfl,hs⟩:=hs
    refine ⟨((orC (z1j M.C.l (z18 part))).off,(orC (z1j M.C.l (z18 part))).r.key,(orC (z1j M.C.l (z18 part))).r.value,(orC (z1j M.C.l (z18 part))).r.gone,(orC (z1j M.C.l (z18 part))).r.time,(z1j M.C.l (z18 part)).isSome,()),rfl,trivial,zsx _ _ _ _ _ _ ?_⟩
    refine zl hs λw' hs=>?_
    refine wp_lt ?_
    refine zd ?_
    exact zf ⟨a25,rfl,hfin hs.sub⟩
  clear hs
  rintro _ w ⟨a,rfl,hs⟩
  refine z2l _ _ ?_
  unfold ofO
  cases hg:z1j M.C.l (z18 part) with
  | none =>
   rw [hg] at hs
   refine z0b ?_ (by simp)
   refine zl hs λw' hs=>?_
   refine ze hs ?_
   exact ⟨rfl,rfl,hs.sub⟩
  | some y =>
   rw [hg] at hs
   have hs:Sat w (pt a (.cells #[.int .i64 y.off,.string y.r.key,.string y.r.value,.bool y.r.gone,.int .i64 y.r.time] T.a38)::pt a0 (.cells #[.int .i64 0,.int .i64 0,.int .i64 0,.int .i64 0] T.a24)::ofP b M::r):=hs
   have hym:y ∈ M.C.l:=by
    unfold z1j at hg
    split at hg
    ·exact List.mem_of_getElem? hg
    ·cases hg
   refine zx ?_ (by simp)
   refine zda hs (y.r.key,y.r.value,y.r.gone,y.r.time,()) ?_
   refine z8 (zhh y.r (hv y hym) hs) λ_ w' hs=>?_
   obtain ⟨c,e',rfl,hpk,hs⟩:=hs
   refine ⟨(c.part,c.off,c.mem,c.gen,e',()),rfl,trivial,z3w _ _ _ _ _ ?_⟩
   have hc:(z8n y.r).getD com0=c:=by
    rcases zd0 hpk with ⟨-,h⟩|⟨-,h1,h⟩
    ·rw [h];rfl
    ·rw [h,h1];rfl
   refine zm hs λa49 w' hs=>?_
   refine zl hs λw' hs=>?_
   refine wp_lt ?_
   refine ze hs ?_
   refine zl hs λw' hs=>?_
   refine ze hs ?_
   refine ⟨rfl,?_,hs.sub⟩
   show _=[Value.agg (z6v ((z8n y.r).getD com0)).toArray,Value.bool true]
   rw [hc]
   rfl
theorem z03k (pid epoch:Int) (commit:Bool) (time:Int) {r1:List HP} [hf:Fo l ofP b M r1] [hf2:Fo r1 dk M.A.L.d D r] (h:Cpl M.A.L.pre M.A.L.l D) (h2:Cpl M.A.L.pre (z0n M.A D (z1p pid epoch commit time ⟨none,0,0⟩)).2.1.L.l (z0n M.A D (z1p pid epoch commit time ⟨none,0,0⟩)).2.2)
  (hat : -9223372036854775808<=M.at_/\M.at_<9223372036854775808)
  (hend:endsK M.C (z1v (z0n M.A D (z1p pid epoch commit time ⟨none,0,0⟩)).2.1 M.at_ 1099511627776 true).1.1=true) (hlen:M.C.l.length+(z1v (z0n M.A D (z1p pid epoch commit time ⟨none,0,0⟩)).2.1 M.at_ 1099511627776 true).1.1.length<=1000000) (hst:zam (z0n M.A D (z1p pid epoch commit time ⟨none,0,0⟩)).2.1) (hs:Sat w l) :
  Ret P F.a93 #[.pointer (some ⟨b,0,none⟩),.int .i64 pid,.int .i64 epoch,.bool commit,.int .i64 time] w λvs w'=>vs=[.bool (z0n M.A D (z1p pid epoch commit time ⟨none,0,0⟩)).1.2.1,.int .i64 (z0n M.A D (z1p pid epoch commit time ⟨none,0,0⟩)).1.2.2] /\
   Sat w' (ofP b (if (z0n M.A D (z1p pid epoch commit time ⟨none,0,0⟩)).1.2.2=0 then z87 (zb0 M (z0n M.A D (z1p pid epoch commit time ⟨none,0,0⟩))) else zb0 M (z0n M.A D (z1p pid epoch commit time ⟨none,0,0⟩)))::dk M.A.L.d (z0n M.A D (z1p pid epoch commit time ⟨none,0,0⟩)).2.2::r) :=
 zgv _ pid epoch commit time <| by
  delta zzi AM AW Ac Ag Ah Ai Aq As Ax Ay BV
  have hs:=hs.perm (hf.perm.trans (.cons _ hf2.perm))
  clear hf hf2
  obtain ⟨t,p,hs⟩:=zaz hs
  refine zx ?_ (by simp)
  refine zh ?_
  refine za hs ?_
  have hs:Sat w (paP p M.A::dk M.A.L.d D::pt b (.cells #[.pointer (some ⟨p,0,none⟩),.int .i64 M.at_,.pointer (some ⟨t,0,none⟩)] T.a25)::tbC t M.C::r):=hs.sub
  refine z8 (z03s (p:=p) (A:=M.A) (D:=D) pid epoch commit time h hs) λ_ w' hs=>?_
  obtain ⟨rfl,hs⟩:=hs
  obtain ⟨g1,g2,-⟩:=zsi M.A D (z1p pid epoch commit time ⟨none,0,0⟩)
  generalize z0n M.A D (z1p pid epoch commit time ⟨none,0,0⟩)=q at hs h2 hend hlen hst g1 g2 ⊢
  obtain ⟨⟨n,again,e⟩,A',D'⟩:=q
  simp only at hs h2 hend hlen hst g1 g2 ⊢
  refine ⟨(n,again,e,()),rfl,trivial,zgr _ _ _ ?_⟩
  refine wp_lt ?_
  refine wp_lt ?_
  refine wp_lt ?_
  have hs:Sat w' (ofP b ⟨A',M.at_,M.C⟩::dk M.A.L.d D'::r):=zbo (t:=t) (p:=p) ⟨A',M.at_,M.C⟩ hs
  refine zk (λq w'=>Sat w' (ofP b (if e=0 then z87 ⟨A',M.at_,M.C⟩ else ⟨A',M.at_,M.C⟩)::dk M.A.L.d D'::r)) ?_ ?_
  rotate_left
  ·rintro _ w2 hs
   refine zj ?_
   refine wp_lt ?_
   refine wp_lt ?_
   exact ⟨rfl,rfl,hs⟩
  refine zg (λhe=>?_) λhe=>?_
  ·have he:e=0:=by simpa using he
   have hs:=gdk g1.symm hs
   refine z8 (zqb (b:=b) (M:=⟨A',M.at_,M.C⟩) (D:=D') (by rw [g2];exact h2) hat hend hlen hst hs) λ_ w' hs=>?_
   obtain ⟨rfl,hs⟩:=hs
   refine zb ?_
   exact zf (by rw [if_pos he];exact gdk g1 hs)
  ·exact zf (by rw [if_neg (by simpa using he)];exact hs)
theorem zvv (y:Sl) (hy:y.len=0) (o:BatM) (hs:Sat w l):Ret P F.a101 #[.agg (zr o).toArray,y.v] w λvs w'=>vs=[.bool false]/\Sat w' l :=
 zmu o.base o.pid o.epoch o.seq o.kind o.time o.x y <| by
  delta z003 AD AM Ah Ao Ap Ar
  refine zp hs λa0 w' hs=>?_
  refine z8 (R:=λvs w'=>vs=[.bool false]/\Sat w' l) ?_ λ_ w' hs=>?_
  ·refine zol y _ ?_
   delta z01v AM Ah Aw
   refine z8 (R:=λvs w'=>vs=[.int .i64 (-1)]/\Sat w' l) ?_ λ_ w' hs=>?_
   ·refine zon y _ ?_
    delta z01x AA AD AV Ac Ad Af Ag Ah Ai Ax Bq
    refine zk (λq w'=>Sat w' l) ?_ ?_
    ·refine z0a (λm q w=>q=(0,())/\Sat w l) 0 ⟨rfl,hs.tail⟩ ?_
     clear hs
     rintro m _ w ⟨rfl,hs⟩
     refine zj ?_
     refine zx ?_ (by rw [hy];simp)
     exact zo (zf hs)
    clear hs
    rintro _ w hs
    refine zj ?_
    exact ⟨rfl,rfl,hs⟩
   obtain ⟨rfl,hs⟩:=hs
   refine zb ?_
   refine wp_lt ?_
   exact ⟨rfl,rfl,hs⟩
  obtain ⟨rfl,hs⟩:=hs
  refine zb ?_
  refine wp_lt ?_
  exact ⟨rfl,rfl,hs⟩
set_option maxHeartbeats 1000000 in
theorem zya (b0:BatM) (hall:z05 M.A.L.l=[b0]) (hk:b0.kind=1) {r1:List HP} [hf:Fo l ofP b M r1] [hf2:Fo r1 dk M.A.L.d D r] (h:Cpl M.A.L.pre M.A.L.l D) (hs:Sat w l) :
  Ret P F.a96 #[.pointer (some ⟨b,0,none⟩)] w λvs w'=>∃ z:Sl,vs=[z.v]/\Sat w' (slc T.a26 6 z ((z2t b0 b0.rs).flatMap z2y)::ofP b M::dk M.A.L.d D::r) :=
 zgy _ <| by
  delta zzl AA AB AC AD AF AG AH AK AT AU AW Ac Ad Ae Af Ag Ah Ai Aj Ak Al An Aq Ar As Az BE BF BY Bp
  have hs:=hs.perm (hf.perm.trans (.cons _ hf2.perm))
  clear hf hf2
  obtain ⟨t,p,hs⟩:=zaz hs
  refine zx ?_ (by simp)
  refine zh ?_
  refine za hs ?_
  have hs:Sat w (paP p M.A::dk M.A.L.d D::pt b (.cells #[.pointer (some ⟨p,0,none⟩),.int .i64 M.at_,.pointer (some ⟨t,0,none⟩)] T.a25)::tbC t M.C::r):=hs.sub
  refine z8 (zsd (p:=p) (A:=M.A) (D:=D) h hs) λ_ w' hs=>?_
  obtain ⟨z,outs,rfl,hm,hs⟩:=hs
  refine zb ?_
  rw [hall] at hm
  obtain ⟨o,rfl,ho⟩:∃ o,outs=[o]/\o.p=b0:=by
   cases outs with
   | nil=>cases hm
   | cons o os =>
    cases os with
    | nil=>exact ⟨o,rfl,by simpa using hm⟩
    | cons _ _=>simp at hm
  have hrec:∀ r ∈ o.rs,z1u r=0:=by
   have hv:z04 b0=0:=((z90 (Int.le_refl 0) h.segs).valid b0 (by rw [hall];simp)).1
   have:=(z22 hv).2
   rw [<- ho] at this
   exact this
  have hn64:o.rs.length<=64:=by
   have hv:z04 b0=0:=((z90 (Int.le_refl 0) h.segs).valid b0 (by rw [hall];simp)).1
   have:=(z22 hv).1
   rw [<- ho] at this
   exact this
  have hko:o.kind=1:=by rw [<- ho] at hk;exact hk
  have hpe:z2t b0 b0.rs=z2t o o.rs:=by rw [<- ho];rfl
  rw [hpe]
  have hzl:=hs.slen z (xs:=[o]) (enc:=zr)
  have hs:Sat w' (slc T.a26 6 ⟨none,0,0⟩ (([]:List PenM).flatMap z2y)::slc T.a0 7 z ([o].flatMap zr)::z0y [o]::ofP b M::dk M.A.L.d D::r):=by
   have hs:Sat w' (slc T.a26 6 ⟨none,0,0⟩ (([]:List PenM).flatMap z2y)::_):=hs.slc_nil
   have hs:Sat w' (pt b (.cells #[.pointer (some ⟨p,0,none⟩),.int .i64 M.at_,.pointer (some ⟨t,0,none⟩)] T.a25)::tbC t M.C::paP p M.A::slc T.a26 6 ⟨none,0,0⟩ (([]:List PenM).flatMap z2y)::slc T.a0 7 z ([o].flatMap zr)::z0y [o]::dk M.A.L.d D::r):=hs.sub
   have hs:=zjo (M:=M) t p hs
   exact hs.pick [1,1,1]
  refine zk (λq w'=>∃ z':Sl,q=(z',())/\Sat w' (slc T.a26 6 z' ((z2t o o.rs).flatMap z2y)::ofP b M::dk M.A.L.d D::r)) ?_ ?_
  rotate_left
  ·rintro _ w2 ⟨z',rfl,hs⟩
   refine zj ?_
   exact ⟨rfl,z',rfl,hs⟩
  refine z0a (λm q w=>∃ (i:Nat) (z':Sl) (xs:List PenM),q=(z',(i:Int),())/\i<=1/\1-i=m/\(i=0->xs=[])/\(i=1->xs=z2t o o.rs)/\Sat w (slc T.a26 6 z' (xs.flatMap z2y)::slc T.a0 7 z ([o].flatMap zr)::z0y [o]::ofP b M::dk M.A.L.d D::r)) 1
   ⟨0,⟨none,0,0⟩,[],rfl,by omega,rfl,(λ_=>rfl),(λh=>by cases h),hs⟩ ?_
  clear hs
  rintro m _ w ⟨i,z',xs,rfl,hi,hm,hx0,hx1,hs⟩
  refine z2l _ _ ?_
  refine zg (λhc=>?_) λhc=>?_
  rotate_left
  ·have hi1:i=1:=by rw [hzl] at hc;simp at hc;omega
   rw [hx1 hi1] at hs
   exact zo (zf ⟨z',rfl,hs.sub⟩)
  have hi0:i=0:=by rw [hzl] at hc;simp at hc;omega
  subst hi0
  have hxs:=hx0 rfl
  subst hxs
  refine zk (λq w'=>∃ z2:Sl,q=(z2,())/\Sat w' (slc T.a26 6 z2 ((z2t o o.rs).flatMap z2y)::slc T.a0 7 z ([o].flatMap zr)::z0y [o]::ofP b M::dk M.A.L.d D::r)) ?_ ?_
  rotate_left
  ·rintro _ w2 ⟨z2,rfl,hs⟩
   refine zj ?_
   refine z28 (us':=[z2.v,.int .i64 ((1:Nat):Int)]) (by (try simp (disch:=omega) only [w64]);first|rfl|(congr;omega)) ?_
   exact z0w 0 ⟨1,z2,z2t o o.rs,rfl,by omega,rfl,(λh=>by cases h),(λ_=>rfl),hs⟩
  refine z35 hs 0 (by simp) ?_
  refine zm hs λa15 w' hs=>?_
  refine wp_lt ?_
  refine zl hs λw' hs=>?_
  have hs:Sat w' (pt a15 (.cells #[.int .i64 o.base,.int .i64 o.pid,.int .i64 o.epoch,.int .i64 o.seq,.int .i64 o.kind,.int .i64 o.time,.slice o.x.a o.x.len o.x.cap] T.a0)::slc T.a26 6 z' (([]:List PenM).flatMap z2y)::slc T.a0 7 z ([o].flatMap zr)::z0y [o]::ofP b M::dk M.A.L.d D::r):=hs
  refine zk (λq w'=>q=(false,())/\Sat w' (pt a15 (.cells #[.int .i64 o.base,.int .i64 o.pid,.int .i64 o.epoch,.int .i64 o.seq,.int .i64 o.kind,.int .i64 o.time,.slice o.x.a o.x.len o.x.cap] T.a0)::slc T.a26 6 z' (([]:List PenM).flatMap z2y)::slc T.a0 7 z ([o].flatMap zr)::z0y [o]::ofP b M::dk M.A.L.d D::r)) ?_ ?_
  ·refine zy hs λw' hs=>?_
   refine za hs ?_
   refine ze hs ?_
   have e1:IntKind.wrap .i64 (((0:Nat):Int)+1)=1:=by decide
   rw [e1]
   refine wp_must (λ_=>by rw [hzl];simp) ?_
   refine zx ?_ (by rw [hko];simp)
   refine z8 (zvv ⟨z10 z.a 7 (Int.toNat 1) z.cap,z.len-Int.toNat 1,z.cap-Int.toNat 1⟩ (by show z.len-1=0;rw [hzl];rfl) o hs) λ_ w' hs=>?_
   obtain ⟨rfl,hs⟩:=hs
   refine zb ?_
   refine zd ?_
   exact zf ⟨rfl,hs⟩
  clear hs
  rintro _ w ⟨rfl,hs⟩
  refine zj ?_
  refine zx ?_ (by simp)
  refine za hs ?_
  have hbr:FocR (z0y [o]::ofP b M::dk M.A.L.d D::r) o.x 4 (o.rs.flatMap z01):=zao (by simp)
  have hxl:=hs.slen o.x (xs:=o.rs) (enc:=z01)
  refine zk (λq w'=>∃ z2:Sl,q=(z2,())/\Sat w' (slc T.a26 6 z2 ((z2t o o.rs).flatMap z2y)::slc T.a0 7 z ([o].flatMap zr)::z0y [o]::ofP b M::dk M.A.L.d D::r)) ?_ ?_
  rotate_left
  ·rintro _ w2 ⟨z2,rfl,hs⟩
   refine zj ?_
   exact zf ⟨z2,rfl,hs⟩
  refine z0a (λm q w=>∃ (i:Nat) (z2:Sl),q=(z2,(i:Int),())/\i<=o.rs.length/\o.rs.length-i=m/\Sat w (pt a15 (.cells #[.int .i64 o.base,.int .i64 o.pid,.int .i64 o.epoch,.int .i64 o.seq,.int .i64 o.kind,.int .i64 o.time,.slice o.x.a o.x.len o.x.cap] T.a0)::slc T.a26 6 z2 ((z2t o (o.rs.take i)).flatMap z2y)::slc T.a0 7 z ([o].flatMap zr)::z0y [o]::ofP b M::dk M.A.L.d D::r)) o.rs.length
   ⟨0,z',rfl,by omega,rfl,hs⟩ ?_
  clear hs
  rintro m2 _ w ⟨i,z2,rfl,hi2,hm2,hs⟩
  refine z2l _ _ ?_
  refine zg (λhc2=>?_) λhc2=>?_
  rotate_left
  ·rw [List.take_of_length_le (by omega)] at hs
   exact zo (zf ⟨z2,rfl,hs.sub⟩)
  have hil:i<o.rs.length:=by omega
  have htk:z2t o (o.rs.take (i+1))=z2t o (o.rs.take i)++z2t o [o.rs[i]]:=by
   unfold z2t
   rw [List.take_add_one,List.getElem?_eq_getElem hil,Option.toList_some,List.filterMap_append,List.map_append]
  have hpl:(z2t o (o.rs.take i)).length<=64:=by
   unfold z2t
   rw [List.length_map]
   have:=List.length_filterMap_le z8n (o.rs.take i)
   rw [List.length_take] at this
   omega
  have hr:=hrec _ (List.getElem_mem hil)
  refine z35 hs i hil ?_
  generalize o.rs[i]=y at *
  refine zm hs λa36 w' hs=>?_
  refine zl hs λw' hs=>?_
  refine ze hs ?_
  refine z8 (zhh y (by have:=(z3k hr).2.1;omega) hs) λ_ w' hs=>?_
  obtain ⟨c,e',rfl,hpk,hs⟩:=hs
  refine ⟨(c.part,c.off,c.mem,c.gen,e',()),rfl,trivial,z3w _ _ _ _ _ ?_⟩
  refine zm hs λa46 w' hs=>?_
  refine zl hs λw' hs=>?_
  refine wp_lt ?_
  refine zk (λq w'=>∃ z3:Sl,q=(z3,())/\Sat w' (pt a15 (.cells #[.int .i64 o.base,.int .i64 o.pid,.int .i64 o.epoch,.int .i64 o.seq,.int .i64 o.kind,.int .i64 o.time,.slice o.x.a o.x.len o.x.cap] T.a0)::slc T.a26 6 z3 ((z2t o (o.rs.take (i+1))).flatMap z2y)::slc T.a0 7 z ([o].flatMap zr)::z0y [o]::ofP b M::dk M.A.L.d D::r)) ?_ ?_
  rotate_left
  ·rintro _ w2 ⟨z3,rfl,hs⟩
   refine zj ?_
   refine z28 (us':=[z3.v,.int .i64 ((i+1:Nat):Int)]) (by (try simp (disch:=omega) only [w64]);first|rfl|(congr;omega)) ?_
   exact z0w (o.rs.length-(i+1)) ⟨i+1,z3,rfl,by omega,rfl,hs⟩
  rw [htk]
  rcases zd0 hpk with ⟨rfl,hp2⟩|⟨rfl,-,hp2⟩
  ·have e:z2t o [y]=[⟨o.pid,o.epoch,c⟩]:=by unfold z2t;rw [List.filterMap_cons,hp2];rfl
   rw [e]
   refine z0b ?_ (by simp)
   refine za hs ?_
   refine za hs ?_
   refine ze hs ?_
   refine z5g hs (xs:=z2t o (o.rs.take i)) (enc:=z2y) ⟨o.pid,o.epoch,c⟩ (λz3 w' hs=>?_) rfl (by omega)
   exact zf ⟨z3,rfl,hs.sub⟩
  ·have e:z2t o [y]=[]:=by unfold z2t;rw [List.filterMap_cons,hp2];rfl
   rw [e,List.append_nil]
   refine zx ?_ (by simp)
   exact zf ⟨z2,rfl,hs.sub⟩
end
def hP:ByteArray:=ByteArray.mk #[111]
def hC:ComM:=⟨7,300,2,5⟩
def hM (d:Nat):OffA:=z87 ⟨z5m ⟨d,hP,64,30,[]⟩ 20,0,⟨0,[]⟩⟩
def hD:DiskA:=⟨65536,-1,false,[]⟩
def hB:BatM:=⟨0,3,0,0,1,9,z7e,[z5a hC 9]⟩
theorem h0 (d:Nat):(hM d).at_=0/\(hM d).C=⟨0,[]⟩/\(hM d).A.L=⟨d,hP,64,30,[]⟩:=⟨by kernel_rfl,by kernel_rfl,by kernel_rfl⟩
theorem h1 (d:Nat) (z:Sl):(z0n (hM d).A hD (z7h 3 0 0 9 z [hC])).1.2=(false,0):=by kernel_rfl
section
variable {d:Nat} {z:Sl} {q q2:(Int × Bool × Int) × PartA × DiskA}
theorem h2 (h:q=z0n (hM d).A hD (z7h 3 0 0 9 z [hC])):z05 q.2.1.L.l=[hB]/\(z0n q.2.1 q.2.2 (z1p 3 0 true 9 ⟨none,0,0⟩)).1.2=(false,0):=by subst h;exact ⟨by kernel_rfl,by kernel_rfl⟩
theorem h3 (h:q=z0n (hM d).A hD (z7h 3 0 0 9 z [hC])) (hh:q2=z0n q.2.1 q.2.2 (z1p 3 0 true 9 ⟨none,0,0⟩)):endsK ⟨0,[]⟩ (z1v q2.2.1 0 1099511627776 true).1.1=true/\(z1v q2.2.1 0 1099511627776 true).1.1.length=1 /\
  ofO (z87 ⟨q2.2.1,0,⟨0,[]⟩⟩) 7=(hC,true)/\(z87 ⟨q2.2.1,0,⟨0,[]⟩⟩).C.l.all (λa=>decide (a.r.value.size<=1000000))=true/\q2.2.1.V.op.length=0:=by subst h hh;exact ⟨by kernel_rfl,by kernel_rfl,by kernel_rfl,by kernel_rfl,by kernel_rfl⟩
theorem h4:z2t hB hB.rs=[⟨3,0,hC⟩]:=by kernel_rfl
theorem h5:zhk hC 9=(⟨ByteArray.mk #[111,48,48,55],ByteArray.mk #[172,2,2,5],false,9⟩,0):=by kernel_rfl
end
section
variable {w:World} {l r:List HP}
theorem zrf (seg:Int) (hs:Sat w l):Ret P F.a227 #[.int .i64 seg] w λvs w'=>vs=[.agg #[.int .i64 (s13 seg),.int .i64 30,.int .i64 20]]/\Sat w' l :=
 zou seg <| by
  delta z024 AB AC Aa Ac Af Ag Ah Ai Br Bx
  have h1:=Int.lt_tmod_of_pos seg (b:=200) (by omega)
  have h2:=Int.tmod_lt_of_pos seg (b:=200) (by omega)
  have hb:=z061 seg
  unfold s13 at hb ⊢
  generalize Int.tmod seg 200=s at *
  refine zm hs λa0 w' hs=>?_
  refine wp_lt ?_
  refine zk (λq w'=>q=((if s<0 then 0-s else s),())/\Sat w' (pt a0 (.cells [.int .i64 0,.int .i64 0,.int .i64 0].toArray T.a36)::l)) ?_ ?_
  ·refine zg (λh=>?_) λh=>?_
   ·rw [w64 (by omega) (by omega)]
    refine wp_lt ?_
    exact zf ⟨by rw [if_pos h],hs⟩
   ·exact zf ⟨by rw [if_neg h],hs⟩
  clear hs
  rintro _ w ⟨rfl,hs⟩
  refine zj ?_
  rw [w64 (by omega) (by omega)]
  refine zl hs λw' hs=>?_
  refine ze hs ?_
  exact ⟨rfl,rfl,hs.tail⟩
set_option maxHeartbeats 2000000 in
theorem zut (hs:Sat w l):Ret P F.a226 #[] w λvs w'=>vs=[.bool true]/\Sat w' l :=
 z9p <| by
  unfold z8h
  refine zm hs λa0 w' hs=>?_
  refine zl hs λw' hs=>?_
  refine ze hs ?_
  refine z8 (zw0 hC 9 hs) λ_ w' hs=>?_
  obtain ⟨rfl,hs⟩:=hs
  rw [h5]
  refine ⟨(ByteArray.mk #[111,48,48,55],ByteArray.mk #[172,2,2,5],false,9,0,()),rfl,trivial,z3w _ _ _ _ _ ?_⟩
  refine zm hs λa10 w' hs=>?_
  refine zl hs λw' hs=>?_
  refine wp_lt ?_
  refine z8 (z05n 65536 (by omega) hs) λ_ w' hs=>?_
  obtain ⟨d,rfl,hs⟩:=hs
  refine ⟨(some ⟨d,0,none⟩,0,()),rfl,trivial,z2l _ _ ?_⟩
  refine wp_lt ?_
  have hs:Sat w' (dk d hD::pt a10 (.cells #[.string (ByteArray.mk #[111,48,48,55]),.string (ByteArray.mk #[172,2,2,5]),.bool false,.int .i64 9] T.a2)::pt a0 (.cells #[.int .i64 7,.int .i64 300,.int .i64 2,.int .i64 5] T.a24)::l):=hs
  refine z8 (zrf 0 hs) λ_ w' hs=>?_
  obtain ⟨rfl,hs⟩:=hs
  have e64:s13 0=64:=by decide
  rw [e64]
  refine ⟨(64,30,20,()),rfl,trivial,zgr _ _ _ ?_⟩
  have hp0:z3q hP=true:=by kernel_rfl
  have c0:Cpl hP [] hD:=zv0 hP 65536 (by omega)
  have er:(z1v (z5m ⟨d,hP,64,30,[]⟩ 20) (z11 []) 1099511627776 true).1.1=[]:=by kernel_rfl
  refine z8 (z03m (d:=d) (D:=hD) hP 64 30 20 hp0 ⟨by decide,by decide⟩ (by omega) rfl c0 (λf hf=>by cases hf) ⟨by decide,by decide⟩ (by rw [er];rfl) (by rw [er];exact Nat.zero_le _) (zlz (Nat.zero_le _)) hs) λ_ w' hs=>?_
  obtain ⟨b,rfl,hs⟩:=hs
  refine ⟨(some ⟨b,0,none⟩,0,()),rfl,trivial,z2l _ _ ?_⟩
  refine wp_lt ?_
  have hs:Sat w' (ofP b (hM d)::dk d hD::pt a10 (.cells #[.string (ByteArray.mk #[111,48,48,55]),.string (ByteArray.mk #[172,2,2,5]),.bool false,.int .i64 9] T.a2)::pt a0 (.cells #[.int .i64 7,.int .i64 300,.int .i64 2,.int .i64 5] T.a24)::l):=hs
  refine za hs ?_
  refine za hs ?_
  refine z2x (by kernel_rfl) ?_
  refine ze hs ?_
  refine zr3 hs (enc:=z6v) [hC] λx w' hs=>?_
  obtain ⟨m1,m2,m3⟩:=h0 d
  have md:(hM d).A.L.d=d:=by rw [m3]
  have mp:(hM d).A.L.pre=hP:=by rw [m3]
  have ml:(hM d).A.L.l=[]:=by rw [m3]
  have hcp:Cpl (hM d).A.L.pre (hM d).A.L.l hD:=by rw [mp,ml];exact c0
  have hs:Sat w' (ofP b (hM d)::dk d hD::slc T.a24 4 x ([hC].flatMap z6v)::pt a10 (.cells #[.string (ByteArray.mk #[111,48,48,55]),.string (ByteArray.mk #[172,2,2,5]),.bool false,.int .i64 9] T.a2)::pt a0 (.cells #[.int .i64 7,.int .i64 300,.int .i64 2,.int .i64 5] T.a24)::l):=hs.sub
  have hs:=gdk md.symm hs
  refine z8 (z05r (b:=b) (M:=hM d) (D:=hD) 3 0 0 9 x [hC] (λc hc=>by rw [List.mem_singleton.1 hc];decide) (by simp) (by simp) inferInstance hcp hs) λ_ w' hs=>?_
  obtain ⟨z,hv,hs⟩:=hs
  have e1:=h1 d z
  obtain ⟨q,hq⟩:∃ q,q=z0n (hM d).A hD (z7h 3 0 0 9 z [hC]):=⟨_,rfl⟩
  have hcq:=zqj (A:=(hM d).A) (D:=hD) (z7h 3 0 0 9 z [hC]) (by rw [mp];exact hp0) hcp
  obtain ⟨k1,k2,-⟩:=zsi (hM d).A hD (z7h 3 0 0 9 z [hC])
  rw [<- hq] at hv hs e1 hcq k1 k2
  rw [md] at k1 hs
  rw [mp] at k2 hcq
  have e1a:q.1.2.1=false:=by rw [e1]
  have e1b:q.1.2.2=0:=by rw [e1]
  rw [e1a,e1b] at hv
  subst hv
  refine ⟨(false,0,()),rfl,trivial,z2l _ _ ?_⟩
  refine wp_lt ?_
  refine wp_lt ?_
  obtain ⟨f1,f2⟩:=h2 hq
  have hs:Sat w' (ofP b ⟨q.2.1,0,⟨0,[]⟩⟩::dk d q.2.2::pt a10 (.cells #[.string (ByteArray.mk #[111,48,48,55]),.string (ByteArray.mk #[172,2,2,5]),.bool false,.int .i64 9] T.a2)::pt a0 (.cells #[.int .i64 7,.int .i64 300,.int .i64 2,.int .i64 5] T.a24)::l):=by
   have e:zb0 (hM d) q=⟨q.2.1,0,⟨0,[]⟩⟩:=by unfold zb0;rw [m1,m2]
   rw [e] at hs
   exact hs.sub
  refine z8 (zzu (b:=b) (M:=⟨q.2.1,0,⟨0,[]⟩⟩) 7 (by omega) (λa ha=>by cases ha) hs) λ_ w' hs=>?_
  obtain ⟨rfl,hs⟩:=hs
  refine ⟨(0,0,0,0,false,()),rfl,trivial,z3w _ _ _ _ _ ?_⟩
  refine zm hs λa37 w' hs=>?_
  refine zl hs λw' hs=>?_
  refine wp_lt ?_
  have hs:Sat w' (ofP b ⟨q.2.1,0,⟨0,[]⟩⟩::dk q.2.1.L.d q.2.2::pt a0 (.cells #[.int .i64 7,.int .i64 300,.int .i64 2,.int .i64 5] T.a24)::l):=by rw [k1];exact hs.sub
  refine z8 (zya (b:=b) (M:=⟨q.2.1,0,⟨0,[]⟩⟩) (D:=q.2.2) hB f1 rfl (by show Cpl q.2.1.L.pre q.2.1.L.l q.2.2;rw [k2];exact hcq) hs) λ_ w' hs=>?_
  obtain ⟨y,rfl,hs⟩:=hs
  refine zb ?_
  rw [h4] at hs
  have hyl:=hs.slen y (xs:=[(⟨3,0,hC⟩:PenM)]) (enc:=z2y)
  have hcq2:=zqj (A:=q.2.1) (D:=q.2.2) (z1p 3 0 true 9 ⟨none,0,0⟩) (by rw [k2];exact hp0) (by rw [k2];exact hcq)
  obtain ⟨j1,j2,-⟩:=zsi q.2.1 q.2.2 (z1p 3 0 true 9 ⟨none,0,0⟩)
  obtain ⟨q2,hq2⟩:∃ q2,q2=z0n q.2.1 q.2.2 (z1p 3 0 true 9 ⟨none,0,0⟩):=⟨_,rfl⟩
  obtain ⟨t1,t2,t3,t4,t5⟩:=h3 hq hq2
  have hs:Sat w' (ofP b ⟨q.2.1,0,⟨0,[]⟩⟩::dk q.2.1.L.d q.2.2::slc T.a26 6 y ([(⟨3,0,hC⟩:PenM)].flatMap z2y)::pt a0 (.cells #[.int .i64 7,.int .i64 300,.int .i64 2,.int .i64 5] T.a24)::l):=hs.pick [1,1]
  refine z8 (z03k (b:=b) (M:=⟨q.2.1,0,⟨0,[]⟩⟩) (D:=q.2.2) 3 0 true 9 (by show Cpl q.2.1.L.pre q.2.1.L.l q.2.2;rw [k2];exact hcq) hcq2 (by show -9223372036854775808<=(0:Int)/\(0:Int)<9223372036854775808;omega) (by rw [<- hq2];exact t1) (by rw [<- hq2];show 0+_<=_;rw [t2];omega) (zlz (by rw [<- hq2,t5];omega)) hs) λ_ w' hs=>?_
  obtain ⟨hv,hs⟩:=hs
  rw [<- hq2] at hv hs f2
  have f2a:q2.1.2.1=false:=by rw [f2]
  have f2b:q2.1.2.2=0:=by rw [f2]
  rw [f2a,f2b] at hv
  rw [if_pos f2b] at hs
  subst hv
  refine ⟨(false,0,()),rfl,trivial,z2l _ _ ?_⟩
  refine wp_lt ?_
  refine wp_lt ?_
  have hs:Sat w' (ofP b (z87 ⟨q2.2.1,0,⟨0,[]⟩⟩)::dk q.2.1.L.d q2.2.2::slc T.a26 6 y ([(⟨3,0,hC⟩:PenM)].flatMap z2y)::pt a0 (.cells #[.int .i64 7,.int .i64 300,.int .i64 2,.int .i64 5] T.a24)::l):=hs
  refine z8 (zzu (b:=b) (M:=z87 ⟨q2.2.1,0,⟨0,[]⟩⟩) 7 (by omega) (λa ha=>by
   have:=List.all_eq_true.1 t4 a ha
   exact of_decide_eq_true this) hs) λ_ w' hs=>?_
  obtain ⟨rfl,hs⟩:=hs
  rw [t3]
  refine ⟨(7,300,2,5,true,()),rfl,trivial,z3w _ _ _ _ _ ?_⟩
  refine zm hs λa49 w' hs=>?_
  refine zl hs λw' hs=>?_
  refine wp_lt ?_
  simp only [z04s]
  refine z04l hs (xs:=[(⟨3,0,hC⟩:PenM)]) (enc:=z2y) 0 (by simp) ?_
  refine ze hs ?_
  refine ze hs ?_
  rw [hyl]
  refine wp_lt ?_
  exact ⟨rfl,by kernel_rfl,hs.sub⟩
theorem zy8 (a b c e:Int) (x:Sl) (hs:Sat w l):Ret P F.a95 #[.pointer none,.int .i64 a,.int .i64 b,.int .i64 c,.int .i64 e,x.v] w λvs w'=>vs=[.bool false,.int .i64 1]/\Sat w' l :=
 zgx _ _ _ _ _ _ <| by
  delta zzk AB AC AD AE AG AH AM AT AU AV AW Ac Ad Ae Af Ag Ah Ai Aj Aq As Ax BE BF BO BV Be
  refine z0b ?_ (by simp)
  exact ⟨rfl,rfl,hs⟩
theorem zvy (a b:Int) (c:Bool) (e:Int) (hs:Sat w l):Ret P F.a93 #[.pointer none,.int .i64 a,.int .i64 b,.bool c,.int .i64 e] w λvs w'=>vs=[.bool false,.int .i64 1]/\Sat w' l :=
 zgv _ _ _ _ _ <| by
  delta zzi AM AW Ac Ag Ah Ai Aq As Ax Ay BV
  refine z0b ?_ (by simp)
  exact ⟨rfl,rfl,hs⟩
theorem zs9 (a:Int) (hs:Sat w l):Ret P F.a91 #[.pointer none,.int .i64 a] w λvs w'=>vs=[.int .i64 0,.int .i64 1]/\Sat w' l :=
 zul _ _ <| by
  delta z082 AW Ac Ag Ah Ai Aq As BK
  refine z0b ?_ (by simp)
  exact ⟨rfl,rfl,hs⟩
theorem z03l (a:Int) (hs:Sat w l):Ret P F.a94 #[.pointer none,.int .i64 a] w λvs w'=>vs=[.agg (z6v com0).toArray,.bool false]/\Sat w' l :=
 zgw _ _ <| by
  delta zzj AB AC AF AG AM AP AT AU Ac Ag Ah Ai Ap Aq As BE BF BX BY BZ Bg Ca
  refine zm hs λa0 w' hs=>?_
  refine z5f (by rfl) ?_
  refine zl hs λw' hs=>?_
  refine ze hs ?_
  exact ⟨rfl,rfl,hs.tail⟩
theorem zy6 (hs:Sat w l):Ret P F.a89 #[.pointer none] w λvs w'=>vs=[.slice none 0 0]/\Sat w' l :=
 zuj _ <| by
  delta z080 AB AC AF AG AW Ac Ad Af Ag Ah Ai Aj Ak Al An Aq As BE BF BW BX BY
  refine z0b ?_ (by simp)
  exact ⟨rfl,rfl,hs⟩
theorem zvz (hs:Sat w l):Ret P F.a96 #[.pointer none] w λvs w'=>vs=[.slice none 0 0]/\Sat w' l :=
 zgy _ <| by
  delta zzl AA AB AC AD AF AG AH AK AT AU AW Ac Ad Ae Af Ag Ah Ai Aj Ak Al An Aq Ar As Az BE BF BY Bp
  refine z0b ?_ (by simp)
  exact ⟨rfl,rfl,hs⟩
theorem zvx (hs:Sat w l):Ret P F.a90 #[.pointer none] w λvs w'=>vs=[.slice none 0 0]/\Sat w' l :=
 zuk _ <| by
  delta z081 AW Ac Ah An Aq As
  refine z0b ?_ (by simp)
  exact ⟨rfl,rfl,hs⟩
theorem zy7 (hs:Sat w l):Ret P F.a92 #[.pointer none] w λvs w'=>vs=[.slice none 0 0]/\Sat w' l :=
 zum _ <| by
  delta z083 AT AU AW Ac Ag Ah Ai Ak Aq As Aw Bg
  refine z0b ?_ (by simp)
  exact ⟨rfl,rfl,hs⟩
theorem z08h (pid epoch time:Int) (hs:Sat w l):Ret P F.a225 #[.int .i64 pid,.int .i64 epoch,.int .i64 time] w λvs w'=>vs=[.bool true]/\Sat w' l :=
 zot pid epoch time <| by
  delta z023 AB AC AK AM AQ Ac Ad Ag Ah Ai An Aq Ar BE BK BU
  refine z8 (zy8 _ _ _ _ ⟨none,0,0⟩ hs) λ_ w' hs=>?_
  obtain ⟨rfl,hs⟩:=hs
  refine ⟨(false,1,()),rfl,trivial,z2l _ _ ?_⟩
  refine wp_lt ?_
  refine wp_lt ?_
  refine z8 (zvy _ _ _ _ hs) λ_ w' hs=>?_
  obtain ⟨rfl,hs⟩:=hs
  refine ⟨(false,1,()),rfl,trivial,z2l _ _ ?_⟩
  refine wp_lt ?_
  refine wp_lt ?_
  refine z8 (zs9 _ hs) λ_ w' hs=>?_
  obtain ⟨rfl,hs⟩:=hs
  refine ⟨(0,1,()),rfl,trivial,z2l _ _ ?_⟩
  refine wp_lt ?_
  refine wp_lt ?_
  refine z8 (z03l _ hs) λ_ w' hs=>?_
  obtain ⟨rfl,hs⟩:=hs
  refine ⟨(0,0,0,0,false,()),rfl,trivial,z3w _ _ _ _ _ ?_⟩
  refine zm hs λa17 w' hs=>?_
  refine zl hs λw' hs=>?_
  refine wp_lt ?_
  have hs:=hs.tail
  refine zk (λq w'=>q=(true,())/\Sat w' l) ?_ ?_
  rotate_left
  ·rintro _ w2 ⟨rfl,hs⟩
   refine zj ?_
   exact ⟨rfl,rfl,hs⟩
  refine z0b ?_ (by simp)
  refine z8 (zy6 hs) λ_ w' hs=>?_
  obtain ⟨rfl,hs⟩:=hs
  refine ⟨(⟨none,0,0⟩,()),rfl,trivial,?_⟩
  refine zj ?_
  refine z0b ?_ (by simp)
  refine z8 (zvz hs) λ_ w' hs=>?_
  obtain ⟨rfl,hs⟩:=hs
  refine ⟨(⟨none,0,0⟩,()),rfl,trivial,?_⟩
  refine zj ?_
  refine z0b ?_ (by simp)
  refine z8 (zvx hs) λ_ w' hs=>?_
  obtain ⟨rfl,hs⟩:=hs
  refine ⟨(⟨none,0,0⟩,()),rfl,trivial,?_⟩
  refine zj ?_
  refine z0b ?_ (by simp)
  refine z8 (zy7 hs) λ_ w' hs=>?_
  obtain ⟨rfl,hs⟩:=hs
  refine ⟨(⟨none,0,0⟩,()),rfl,trivial,?_⟩
  refine zj ?_
  refine z0b ?_ (by simp)
  refine z8 (zut hs) λ_ w' hs=>?_
  obtain ⟨rfl,hs⟩:=hs
  refine zb ?_
  refine wp_lt ?_
  exact zf ⟨rfl,hs⟩
end
end Go.Dec
