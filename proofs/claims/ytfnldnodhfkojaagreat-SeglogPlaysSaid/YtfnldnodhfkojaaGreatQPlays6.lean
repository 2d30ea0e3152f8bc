/- What the claim of this folder leans on: our own texts, joined, without what it does not use. -/
import Derived.Test.YtfnldnodhfkojaaGreatRows
import Derived.WalkKit
import Derived.ProofKit
import Derived.OpenShut
import Derived.RowKit3
import Derived.OrdersHeld
import Derived.Scope
import Derived.KernelRfl
import Derived.Laws.Sem
import Derived.Laws.StructEq
import Derived.Deep.AppendSrc
import Derived.Laws.BytesArg
import Derived.Laws.RangeString
import Derived.Maps.RangeRun
import Derived.Lib.ConvBytes
import Derived.Lib.SlBytesConst
import Derived.ChangeSlices
import Derived.ChangeMaps5
import Derived.ChangeSame
import Derived.Deep.Slices
import Derived.Deep.Fields
import Derived.Test.YtfnldnodhfkojaaGreatProg
import Derived.Laws.MakeOwn
import Derived.Sort.MapsRangeIn
import Derived.Sort.KeysCollected
import Derived.RangeFuncNested
import Derived.RangeFuncBound
import Derived.RangeFuncCalls
import Derived.RangeFuncLeaves
import Derived.RangeFuncBox
import Derived.OwnWalkIn
import Derived.TacticsInMore
import Derived.RegionIn
import Derived.LoopNIn
import Derived.LoopIn
import Derived.Maps.AppendAt
import Derived.Shelf.Abstract
import Derived.Shelf.Sort.Plain
import Derived.Shelf.Slices.In.SortNone
import Derived.Test.YtfnldnodhfkojaaGreatQPlays1
import Derived.Test.YtfnldnodhfkojaaGreatQPlays2
import Derived.Test.YtfnldnodhfkojaaGreatQPlays3
import Derived.Test.YtfnldnodhfkojaaGreatQPlays4
import Derived.Test.YtfnldnodhfkojaaGreatQPlays5
set_option linter.unusedVariables false
set_option linter.unusedSimpArgs false
namespace Go.Dec
def z4z (a:Nat) (outs:List BatM):HP:=HP.ex λz:Sl=>HP.star (pt a (.cells #[.slice z.a z.len z.cap] T.a18)) (HP.star (slc T.a1 7 z (outs.flatMap zi)) (z0j outs))
section
variable {w:World} {l r r1 r2:List HP} {lg ao:Nat} {M:LogM} {A:LogA} {D:DiskA} {gap:Int} {a:Nat} {t:SegM} {outs:List BatM}
theorem zka (hs:Sat w (z4z ao outs::l)):∃ z:Sl,Sat w (pt ao (.cells #[.slice z.a z.len z.cap] T.a18)::slc T.a1 7 z (outs.flatMap zi)::z0j outs::l):=by
 obtain ⟨z,hs⟩:=hs.ex
 have hs:=hs.star
 exact ⟨z,((hs.pick [1]).star).pick [2]⟩
theorem zbu {z:Sl} (hs:Sat w (pt ao (.cells #[.slice z.a z.len z.cap] T.a18)::slc T.a1 7 z (outs.flatMap zi)::z0j outs::l)):Sat w (z4z ao outs::l) :=
 .ex_mk z (.star_mk (((hs.pick [1,1]).star_mk).pick [1]))
theorem zjw {b:BatM} (hs:Sat w (slc T.a3 4 b.x (b.rs.flatMap zw)::z0j outs::l)):Sat w (z0j (outs++[b])::l):=by
 have h1:Sat w (HP.all ((b::outs).map rsP)::l):=by
  have h2:Sat w (rsP b::HP.all (outs.map rsP)::l):=hs
  exact h2.all_put
 exact h1.all_perm ((List.perm_append_comm (l₁:=[b]) (l₂:=outs)).map rsP)
theorem zeo (hs:Sat w l):Sat w (z0j []::l):=hs.all_nil
theorem zdg {b:BatM} (hb:b ∈ outs):FocR (z0j outs::l) b.x 4 (b.rs.flatMap zw):=⟨λw hs=>by
 obtain ⟨L,hs⟩:=hs.all_mem (f:=rsP) hb
 exact Sat.rd hs⟩
theorem z02d (b:BatM) (off most:Int) (a1 a2:Nat) (ho : -9223372036854775808<=off/\off<9223372036854775808) (hcap:b.x.len<=b.x.cap) (hol:outs.length<=2000000) [hf:Fo l z4z ao outs r] [h1:FocB r a1 (.cells [.int .i64 off].toArray T.a11) r1] [h2:FocB r a2 (.cells [.int .i64 most].toArray T.a10) r2] [hb:FocR r b.x 4 (b.rs.flatMap zw)] (hs:Sat w l) :
  Ret P F.a58 #[.agg (zi b).toArray,.pointer (some ⟨a1,0,none⟩),.pointer (some ⟨ao,0,none⟩),.pointer (some ⟨a2,0,none⟩)] w λvs w'=>∃ outs':List BatM,vs=[.bool (decide ((outs'.length:Int)<most))]/\outs'.map BatM.p=outs.map BatM.p++(z0k off b).toList.map BatM.p/\Sat w' (z4z ao outs'::r) :=
 zqa b.base b.pid b.epoch b.seq b.kind b.time b.x _ _ _ <| by
  unfold z02m
  obtain ⟨z,hs⟩:=zka (hs.perm hf.perm)
  have hl:=hs.slen z (xs:=outs) (enc:=zi)
  refine z02 hs λa0 w' hs=>?_
  refine zr hs ?_
  refine za hs ?_
  refine zb (zy7 b off ho hcap hs) λ_ w' hs=>?_
  rcases hs with ⟨hn,rfl,hs⟩|⟨c,zc,hc,rfl,hs⟩
  ·refine ⟨(0,0,0,0,0,0,z6v,false,()),rfl,trivial,z9l _ _ _ _ _ _ _ _ ?_⟩
   refine zv hs λa3 w' hs=>?_
   refine zx hs λw' hs=>?_
   refine wp_lt ?_
   refine z4l ?_
   refine z0g ?_ (by simp)
   refine z3t ?_
   refine za hs ?_
   refine za hs ?_
   refine wp_lt ?_
   refine ⟨rfl,outs,by rw [hl],by rw [hn];simp,zbu (z:=z) hs.sub⟩
  ·refine ⟨(c.base,c.pid,c.epoch,c.seq,c.kind,c.time,zc,true,()),rfl,trivial,z9l _ _ _ _ _ _ _ _ ?_⟩
   refine zv hs λa3 w' hs=>?_
   refine zx hs λw' hs=>?_
   refine wp_lt ?_
   refine z4l ?_
   refine z1b ?_ (by trivial)
   refine za hs ?_
   refine zr hs ?_
   refine z5z (xs:=outs) (enc:=zi) (y:=c.at zc) hs (λz' w' hs=>?_) rfl (by omega)
   refine z0d hs λw' hs=>?_
   refine z3t ?_
   refine za hs ?_
   refine za hs ?_
   refine wp_lt ?_
   have hs:Sat w' (pt ao (.cells #[.slice z'.a z'.len z'.cap] T.a18)::slc T.a1 7 z' ((outs++[c.at zc]).flatMap zi)::pt a3 _::slc T.a3 4 (c.at zc).x ((c.at zc).rs.flatMap zw)::pt a0 _::z0j outs::r):=hs
   have hl':=hs.slen z' (xs:=outs++[c.at zc]) (enc:=zi)
   refine ⟨rfl,outs++[c.at zc],by rw [hl'],by rw [hc];simp;rfl,?_⟩
   have hs:=zjw (hs.pick [3,4])
   exact zbu (z:=z') (hs.pick [1,1,0]).sub
theorem z006 (off:Int) (hok:SegOk t.s) (hfl:t.s.file.length<=4194304) [hf:Fo l (zy gap) a t r] (hs:Sat w l):Ret P F.a82 #[.pointer (some ⟨a,0,none⟩),.int .i64 off] w λvs w'=>vs=[.int .i64 (zsm t.s (z3o (t.s.idx gap).l off))]/\Sat w' (zy gap a t::r) :=
 zoy _ off <| by
  unfold z013
  have hi:IdxOk gap (shL t.s.base t.s.fin).length t.s.bs (t.s.idx gap):=zd0 gap t.s.bs.length (n:=t.s.base) (q:=(shL t.s.base t.s.fin).length) rfl hok.base.1 (by omega) hok.bs (by have:=z1u t.s;omega)
  have hs:=z1s (hs.perm hf.perm)
  refine zm ?_
  refine za hs ?_
  refine zb (z00e (b:=t.ix) off hi.offs hs) λ_ w' hs=>?_
  obtain ⟨rfl,hs⟩:=hs
  refine ⟨((orE (z3o (t.s.idx gap).l off)).offset,(orE (z3o (t.s.idx gap).l off)).place,(orE (z3o (t.s.idx gap).l off)).before,(z3o (t.s.idx gap).l off).isSome,()),rfl,trivial,zg0 _ _ _ _ ?_⟩
  refine zv hs λc w' hs=>?_
  refine zx hs λw' hs=>?_
  refine wp_lt ?_
  cases hfe:z3o (t.s.idx gap).l off with
  | some e =>
   refine z1b ?_ (by rfl)
   rw [hfe] at hs
   refine za hs ?_
   refine wp_lt ?_
   exact ⟨rfl,rfl,z1c t hs.sub⟩
  | none =>
   refine z0g ?_ (by simp)
   refine z0a hs λw' hs=>?_
   refine zm ?_
   refine za hs ?_
   refine zm ?_
   refine za hs ?_
   have hb:=hok.base
   have hfn:0<=t.s.fin/\t.s.fin<9223372036854775808:=by have:=hok.fin;omega
   refine zb (zcm t.s.base t.s.fin (by omega) hfn hs) λ_ w' hs=>?_
   obtain ⟨y,rfl,hs⟩:=hs
   refine zd ?_
   have hl:=hs.slen y (xs:=shL t.s.base t.s.fin) (enc:=zh)
   refine wp_lt ?_
   refine zj ?_
   refine ⟨rfl,?_,z1c t hs.sub⟩
   rw [hl]
   rfl
set_option maxHeartbeats 1000000 in
theorem z01u (off:Int) (most:Nat) (a1 a2:Nat) (ho : -9223372036854775808<=off/\off<9223372036854775808) {i k kp:Nat} (hsi:i<M.SM.length) (hok:SegOk M.SM[i].2.s) (hfile:z03 D.fs (ze M.pre M.SM[i].2.s.base zq)=some (M.SM[i].2.s.file,kp)) (hk:k<=M.SM[i].2.s.bs.length) (hout:outs.length<most) (hol:outs.length+M.SM[i].2.s.bs.length<=2000000)
  (hs:Sat w (z4z ao outs::lgQ lg M::dk M.d D::pt a1 (.cells [.int .i64 off].toArray T.a11)::pt a2 (.cells [.int .i64 (most:Int)].toArray T.a10)::r)) :
  Ret P F.a75 #[.pointer (some ⟨lg,0,none⟩),.pointer (some ⟨M.SM[i].1,0,none⟩),.int .i64 (z3g M.SM[i].2.s k:Nat),.func (.func F.a58) #[] #[.pointer (some ⟨a1,0,none⟩),.pointer (some ⟨ao,0,none⟩),.pointer (some ⟨a2,0,none⟩)]] w λvs w' =>
   ∃ outs':List BatM,vs=[.bool (decide (outs.length+((M.SM[i].2.s.bs.drop k).filterMap (z0k off)).length<most))]/\outs'.map BatM.p=(outs.map BatM.p++(M.SM[i].2.s.bs.drop k).filterMap (z0k off)).take most/\outs'.length<=outs.length+M.SM[i].2.s.bs.length /\
    Sat w' (z4z ao outs'::lgQ lg M::dk M.d D::pt a1 (.cells [.int .i64 off].toArray T.a11)::pt a2 (.cells [.int .i64 (most:Int)].toArray T.a10)::r) :=
 zrh _ _ _ _ <| by
  unfold z039
  obtain ⟨m_,FS_,-,hokD,-⟩:=z2m (hs.pick [2])
  obtain ⟨hokm,hs⟩:=z26 (hs.pick [1])
  have hs:=z1s (z58 (hs.pick [2]) hsi)
  generalize hT:M.SM[i]=T0 at *
  obtain ⟨a,t⟩:=T0
  dsimp only at hok hfile hk hol hs ⊢
  have hrl:t.s.file.length<=4194304:=Nat.le_trans (zce hfile) hokD.used
  have hbl:=zgh hok
  have hb0:=hok.base
  refine zn (λq w'=>∃ x:Sl,q=(x,())/\x.len<=x.cap/\Sat w' (slc T.a39 1 x (t.s.file.flatMap zh)::pt a (.cells #[.pointer (some ⟨t.ix,0,none⟩),.int .i64 t.s.base,.int .i64 t.s.fin,.int .i64 (z05 t.s.bs),.int .i64 (z0y (-1) t.s.bs),.int .i64 (t.s.file.length:Nat)] T.a31)::z1y t.ix (t.s.idx M.gap)::HP.all ((M.SM.eraseIdx i).map λt=>zy M.gap t.1 t.2)::pt lg (.cells #[.pointer (some ⟨M.d,0,none⟩),.string M.pre,.int .i64 M.seg,.int .i64 M.gap,.slice M.z.a M.z.len M.z.cap] T.a30)::slc T.a17 1 M.z ((M.SM.map Prod.fst).flatMap z0f)::z4z ao outs::dk M.d D::pt a1 (.cells [.int .i64 off].toArray T.a11)::pt a2 (.cells [.int .i64 (most:Int)].toArray T.a10)::r)) ?_ ?_
  ·refine z0a hs λw' hs=>?_
   refine zm ?_
   refine z1e hs ?_
   refine zm ?_
   refine za hs ?_
   refine zb (z4m (lg:=lg) t.s.base (by omega) (ByteArray.mk #[46,108,111,103]) (by decide) M.pre hokm.size hs) λ_ w' hs=>?_
   obtain ⟨rfl,hs⟩:=hs
   refine zd ?_ (by first|trivial|(repeat (first|exact trivial|exact λ_=>z0i hs|exact λ_=>z0n hs|refine And.intro ?_ ?_)))
   refine zj ?_
   have en:ze M.pre t.s.base (bl (ByteArray.mk #[46,108,111,103]))=ze M.pre t.s.base zq:=rfl
   rw [en]
   refine zb (zkp (d:=M.d) (A:=D) (ze M.pre t.s.base zq) hs) λ_ w' hs=>?_
   rcases hs with ⟨f,hff,hfn,x,rfl,hs⟩|⟨hno,rfl,hs⟩
   ·refine zd ?_
    refine wp_lt ?_
    refine zj ?_
    have hfd:z03 D.fs f.name=some (f.b,f.kept):=z6c (z23 hokD.sorted) hff
    rw [hfn,hfile] at hfd
    simp only [Option.some.injEq,Prod.mk.injEq] at hfd
    rw [<- hfd.1] at hs
    have hcap:=hs.slc_cap
    exact zg ⟨x,rfl,hcap,hs.sub⟩
   ·rw [z8j.2 hno] at hfile
    cases hfile
  clear hs
  rintro _ w ⟨x,rfl,hcap,hs⟩
  refine zl ?_
  refine wp_lt ?_
  have hl:=hs.slen x (xs:=t.s.file) (enc:=zh)
  have hfin:∀ {w:World} {outs':List BatM},Sat w (slc T.a39 1 x (t.s.file.flatMap zh)::pt a (.cells #[.pointer (some ⟨t.ix,0,none⟩),.int .i64 t.s.base,.int .i64 t.s.fin,.int .i64 (z05 t.s.bs),.int .i64 (z0y (-1) t.s.bs),.int .i64 (t.s.file.length:Nat)] T.a31)::z1y t.ix (t.s.idx M.gap)::HP.all ((M.SM.eraseIdx i).map λt=>zy M.gap t.1 t.2)::pt lg (.cells #[.pointer (some ⟨M.d,0,none⟩),.string M.pre,.int .i64 M.seg,.int .i64 M.gap,.slice M.z.a M.z.len M.z.cap] T.a30)::slc T.a17 1 M.z ((M.SM.map Prod.fst).flatMap z0f)::z4z ao outs'::dk M.d D::pt a1 (.cells [.int .i64 off].toArray T.a11)::pt a2 (.cells [.int .i64 (most:Int)].toArray T.a10)::r) ->
    Sat w (z4z ao outs'::lgQ lg M::dk M.d D::pt a1 (.cells [.int .i64 off].toArray T.a11)::pt a2 (.cells [.int .i64 (most:Int)].toArray T.a10)::r):=by
   intro w outs' hs
   have h1:Sat w (zy M.gap M.SM[i].1 M.SM[i].2::HP.all ((M.SM.eraseIdx i).map λt=>zy M.gap t.1 t.2)::pt lg (.cells #[.pointer (some ⟨M.d,0,none⟩),.string M.pre,.int .i64 M.seg,.int .i64 M.gap,.slice M.z.a M.z.len M.z.cap] T.a30)::slc T.a17 1 M.z ((M.SM.map Prod.fst).flatMap z0f)::z4z ao outs'::dk M.d D::pt a1 (.cells [.int .i64 off].toArray T.a11)::pt a2 (.cells [.int .i64 (most:Int)].toArray T.a10)::r):=by
    rw [hT]
    exact z1c t hs.tail
   have h2:=z3u hsi h1
   exact (z0v M hokm (h2.pick [1,1])).sub
  have hfull:∀ {outs':List BatM} {j:Nat},outs'.map BatM.p=outs.map BatM.p++((t.s.bs.drop k).take j).filterMap (z0k off)->outs'.length=outs.length+(((t.s.bs.drop k).take j).filterMap (z0k off)).length:=λh=>by
   have:=congrArg List.length h
   simpa using this
  refine zn (λ_ w'=>∃ outs':List BatM,outs'.map BatM.p=outs.map BatM.p++(t.s.bs.drop k).filterMap (z0k off)/\outs'.length<most/\outs'.length<=outs.length+t.s.bs.length/\Sat w' (slc T.a39 1 x (t.s.file.flatMap zh)::pt a (.cells #[.pointer (some ⟨t.ix,0,none⟩),.int .i64 t.s.base,.int .i64 t.s.fin,.int .i64 (z05 t.s.bs),.int .i64 (z0y (-1) t.s.bs),.int .i64 (t.s.file.length:Nat)] T.a31)::z1y t.ix (t.s.idx M.gap)::HP.all ((M.SM.eraseIdx i).map λt=>zy M.gap t.1 t.2)::pt lg (.cells #[.pointer (some ⟨M.d,0,none⟩),.string M.pre,.int .i64 M.seg,.int .i64 M.gap,.slice M.z.a M.z.len M.z.cap] T.a30)::slc T.a17 1 M.z ((M.SM.map Prod.fst).flatMap z0f)::z4z ao outs'::dk M.d D::pt a1 (.cells [.int .i64 off].toArray T.a11)::pt a2 (.cells [.int .i64 (most:Int)].toArray T.a10)::r)) ?_ ?_
  rotate_left
  ·rintro _ w2 ⟨outs',h1,h2,h3,hs⟩
   have h4:=congrArg List.length h1
   simp only [List.length_map,List.length_append] at h4
   refine ⟨rfl,outs',by rw [decide_eq_true (by omega)],?_,h3,hfin hs⟩
   rw [<- h1,List.take_of_length_le]
   rw [List.length_map];omega
  refine z06 (λm v w=>∃ (j:Nat) (outs':List BatM),v=(((z3g t.s (k+j):Nat):Int),())/\k+j<=t.s.bs.length/\t.s.bs.length-(k+j)=m/\outs'.map BatM.p=outs.map BatM.p++((t.s.bs.drop k).take j).filterMap (z0k off)/\outs'.length<most/\outs'.length<=outs.length+j/\Sat w (slc T.a39 1 x (t.s.file.flatMap zh)::pt a (.cells #[.pointer (some ⟨t.ix,0,none⟩),.int .i64 t.s.base,.int .i64 t.s.fin,.int .i64 (z05 t.s.bs),.int .i64 (z0y (-1) t.s.bs),.int .i64 (t.s.file.length:Nat)] T.a31)::z1y t.ix (t.s.idx M.gap)::HP.all ((M.SM.eraseIdx i).map λt=>zy M.gap t.1 t.2)::pt lg (.cells #[.pointer (some ⟨M.d,0,none⟩),.string M.pre,.int .i64 M.seg,.int .i64 M.gap,.slice M.z.a M.z.len M.z.cap] T.a30)::slc T.a17 1 M.z ((M.SM.map Prod.fst).flatMap z0f)::z4z ao outs'::dk M.d D::pt a1 (.cells [.int .i64 off].toArray T.a11)::pt a2 (.cells [.int .i64 (most:Int)].toArray T.a10)::r)) (t.s.bs.length-k)
   ⟨0,outs,rfl,by omega,by omega,by simp,hout,by omega,hs⟩ ?_
  clear hs
  rintro m _ w ⟨j,outs',rfl,hj,hm,hmap,hlt,hol',hs⟩
  refine zl ?_
  refine z0h ?_
  refine za hs ?_
  have hple:=zgr t.s (k+j)
  refine zf (λhc=>?_) λhc=>?_
  rotate_left
  ·have hend:k+j=t.s.bs.length:=by
    apply Decidable.byContradiction
    intro hne
    have hlt2:k+j<t.s.bs.length:=by omega
    have h1:=zij t.s hlt2
    have h2:=zgr t.s (k+j+1)
    have h3:=z3l (hok.bs.valid _ (List.getElem_mem hlt2)).1
    exact hc ⟨by omega,by omega⟩
   refine zk (zg ⟨outs',?_,hlt,by omega,hs⟩)
   rw [hmap,List.take_of_length_le (by rw [List.length_drop];omega)]
  have hjl:k+j<t.s.bs.length:=by
   apply Decidable.byContradiction
   intro hne
   have he:k+j=t.s.bs.length:=by omega
   have h1:=zw4 t.s
   rw [he] at hc
   have hc1:((z3g t.s t.s.bs.length:Nat):Int)<(x.len:Nat):=hc.1
   omega
  obtain ⟨hfst,hdec⟩:=zql hok hjl
  obtain ⟨hvb,hpb⟩:=hok.bs.valid _ (List.getElem_mem hjl)
  have hblen:=z4c hvb
  have hxl:z3g t.s (k+j)<=x.len:=by omega
  refine wp_must (by omega) ?_
  rw [Int.toNat_natCast]
  have hxc:FocR (slc T.a39 1 x (t.s.file.flatMap zh)::pt a (.cells #[.pointer (some ⟨t.ix,0,none⟩),.int .i64 t.s.base,.int .i64 t.s.fin,.int .i64 (z05 t.s.bs),.int .i64 (z0y (-1) t.s.bs),.int .i64 (t.s.file.length:Nat)] T.a31)::z1y t.ix (t.s.idx M.gap)::HP.all ((M.SM.eraseIdx i).map λt=>zy M.gap t.1 t.2)::pt lg (.cells #[.pointer (some ⟨M.d,0,none⟩),.string M.pre,.int .i64 M.seg,.int .i64 M.gap,.slice M.z.a M.z.len M.z.cap] T.a30)::slc T.a17 1 M.z ((M.SM.map Prod.fst).flatMap z0f)::z4z ao outs'::dk M.d D::pt a1 (.cells [.int .i64 off].toArray T.a11)::pt a2 (.cells [.int .i64 (most:Int)].toArray T.a10)::r) ⟨z12 x.a 1 (z3g t.s (k+j)) x.cap,x.len-z3g t.s (k+j),x.cap-z3g t.s (k+j)⟩ 1 ((t.s.file.drop (z3g t.s (k+j))).flatMap zh):=FocR.post hcap
  refine zb (ze5 ⟨z12 x.a 1 (z3g t.s (k+j)) x.cap,x.len-z3g t.s (k+j),x.cap-z3g t.s (k+j)⟩ (t.s.file.drop (z3g t.s (k+j))) (by show x.len-_<=x.cap-_;omega) (by rw [List.length_drop];omega) hs) λ_ w' hs=>?_
  obtain ⟨y,rfl,hs⟩:=hs
  rw [hfst] at hs ⊢
  refine zd ?_
  refine wp_lt ?_
  refine wp_lt ?_
  dsimp only [Option.getD,Option.isSome]
  have hs:Sat w' (slc T.a39 1 y ((z2e t.s.bs[k+j]).flatMap zh)::_):=hs
  refine z0g ?_ (by simp)
  refine zb (zke y (z2e t.s.bs[k+j]) (by omega) hs) λ_ w' hs=>?_
  rcases hs with ⟨b,z,hdec2,rfl,hs⟩|⟨hdec2,rfl,hs⟩
  rotate_left
  ·rw [hdec] at hdec2;cases hdec2
  rw [hdec] at hdec2
  simp only [Option.some.injEq] at hdec2
  subst hdec2
  generalize hbb:t.s.bs[k+j]=b at *
  refine ⟨(b.base,b.pid,b.epoch,b.seq,b.kind,b.time,z,0,()),rfl,trivial,z9l _ _ _ _ _ _ _ _ ?_⟩
  refine zv hs λc w' hs=>?_
  refine zx hs λw' hs=>?_
  refine wp_lt ?_
  have hzc:z.len<=z.cap:=(hs.pick [1]).slc_cap
  have htk:(t.s.bs.drop k).take (j+1)=(t.s.bs.drop k).take j++[b]:=by
   rw [List.take_succ_eq_append_getElem (by rw [List.length_drop];omega),List.getElem_drop,hbb]
  have hfp:(z0k off b).toList.map BatM.p=(z0k off b).toList:=by
   cases hfb:z0k off b with
   | none=>rfl
   | some c=>simp [znl hpb hfb]
  have hfm:((t.s.bs.drop k).take (j+1)).filterMap (z0k off)=((t.s.bs.drop k).take j).filterMap (z0k off)++(z0k off b).toList:=by
   rw [htk,List.filterMap_append]
   congr 1
  have hpos:=zij t.s hjl
  rw [hbb] at hpos
  have hple2:=zgr t.s (k+j+1)
  refine z4l ?_
  refine zr hs ?_
  refine z0g ?_ (by simp)
  have hzb:FocR (pt c (.cells #[.int .i64 b.base,.int .i64 b.pid,.int .i64 b.epoch,.int .i64 b.seq,.int .i64 b.kind,.int .i64 b.time,.slice z.a z.len z.cap] T.a1)::slc T.a3 4 z (b.rs.flatMap zw)::slc T.a39 1 y ((z2e b).flatMap zh)::slc T.a39 1 x (t.s.file.flatMap zh)::pt a (.cells #[.pointer (some ⟨t.ix,0,none⟩),.int .i64 t.s.base,.int .i64 t.s.fin,.int .i64 (z05 t.s.bs),.int .i64 (z0y (-1) t.s.bs),.int .i64 (t.s.file.length:Nat)] T.a31)::z1y t.ix (t.s.idx M.gap)::HP.all ((M.SM.eraseIdx i).map λt=>zy M.gap t.1 t.2)::pt lg (.cells #[.pointer (some ⟨M.d,0,none⟩),.string M.pre,.int .i64 M.seg,.int .i64 M.gap,.slice M.z.a M.z.len M.z.cap] T.a30)::slc T.a17 1 M.z ((M.SM.map Prod.fst).flatMap z0f)::dk M.d D::pt a1 (.cells [.int .i64 off].toArray T.a11)::pt a2 (.cells [.int .i64 (most:Int)].toArray T.a10)::r) (b.at z).x 4 ((b.at z).rs.flatMap zw):=(inferInstance:FocR (pt c (.cells #[.int .i64 b.base,.int .i64 b.pid,.int .i64 b.epoch,.int .i64 b.seq,.int .i64 b.kind,.int .i64 b.time,.slice z.a z.len z.cap] T.a1)::slc T.a3 4 z (b.rs.flatMap zw)::_) z 4 (b.rs.flatMap zw))
  have hs:Sat w' (z4z ao outs'::pt c (.cells #[.int .i64 b.base,.int .i64 b.pid,.int .i64 b.epoch,.int .i64 b.seq,.int .i64 b.kind,.int .i64 b.time,.slice z.a z.len z.cap] T.a1)::slc T.a3 4 z (b.rs.flatMap zw)::slc T.a39 1 y ((z2e b).flatMap zh)::slc T.a39 1 x (t.s.file.flatMap zh)::pt a (.cells #[.pointer (some ⟨t.ix,0,none⟩),.int .i64 t.s.base,.int .i64 t.s.fin,.int .i64 (z05 t.s.bs),.int .i64 (z0y (-1) t.s.bs),.int .i64 (t.s.file.length:Nat)] T.a31)::z1y t.ix (t.s.idx M.gap)::HP.all ((M.SM.eraseIdx i).map λt=>zy M.gap t.1 t.2)::pt lg (.cells #[.pointer (some ⟨M.d,0,none⟩),.string M.pre,.int .i64 M.seg,.int .i64 M.gap,.slice M.z.a M.z.len M.z.cap] T.a30)::slc T.a17 1 M.z ((M.SM.map Prod.fst).flatMap z0f)::dk M.d D::pt a1 (.cells [.int .i64 off].toArray T.a11)::pt a2 (.cells [.int .i64 (most:Int)].toArray T.a10)::r):=hs.sub
  have htold:=z02d (ao:=ao) (outs:=outs') (b.at z) off (most:Int) a1 a2 ho hzc (by omega) hs
  refine ⟨F.a58,#[],#[.pointer (some ⟨a1,0,none⟩),.pointer (some ⟨ao,0,none⟩),.pointer (some ⟨a2,0,none⟩)],rfl,by kernel_rfl,?_⟩
  refine Calls.mono htold λe w' ⟨vs,he,outs2,hvs,hmap2,hs⟩=>⟨(decide ((outs2.length:Int)<(most:Int)),()),by rw [he,hvs];rfl,trivial,?_⟩
  refine z3t ?_
  have hfe:(z0k off (b.at z)).toList.map BatM.p=(z0k off b).toList:=by
   have hpz:b={ (b.at z) with x:=z6v }:=by rw [<- hpb];rfl
   have e2:z0k off (b.at z)=(z0k off b).map λc=>c.at z:=by
    unfold z0k
    have ev:z01 (b.at z)=z01 b:=rfl
    have en:z2n (b.at z)=z2n b:=rfl
    have em:z0x (b.at z)=z0x b:=rfl
    rw [ev,en,em]
    split
    ·rfl
    ·show (if z0x b=true\/off<=b.base then _ else _)=_
     split <;> rfl
   rw [e2]
   cases hfb:z0k off b with
   | none=>rfl
   | some c =>
    have:=znl hpb hfb
    show [(c.at z).p]=[c]
    have e3:(c.at z).p=c.p:=rfl
    rw [e3,this]
  rw [hfe,hmap,List.append_assoc,<- hfm] at hmap2
  have hlen2:=hfull hmap2
  have hfl1:(z0k off b).toList.length<=1:=by cases z0k off b <;> simp
  have hlen1:=hfull hmap
  rw [hfm,List.length_append] at hlen2
  have hback:∀ {w:World},Sat w (z4z ao outs2::pt c (.cells #[.int .i64 b.base,.int .i64 b.pid,.int .i64 b.epoch,.int .i64 b.seq,.int .i64 b.kind,.int .i64 b.time,.slice z.a z.len z.cap] T.a1)::slc T.a3 4 z (b.rs.flatMap zw)::slc T.a39 1 y ((z2e b).flatMap zh)::slc T.a39 1 x (t.s.file.flatMap zh)::pt a (.cells #[.pointer (some ⟨t.ix,0,none⟩),.int .i64 t.s.base,.int .i64 t.s.fin,.int .i64 (z05 t.s.bs),.int .i64 (z0y (-1) t.s.bs),.int .i64 (t.s.file.length:Nat)] T.a31)::z1y t.ix (t.s.idx M.gap)::HP.all ((M.SM.eraseIdx i).map λt=>zy M.gap t.1 t.2)::pt lg (.cells #[.pointer (some ⟨M.d,0,none⟩),.string M.pre,.int .i64 M.seg,.int .i64 M.gap,.slice M.z.a M.z.len M.z.cap] T.a30)::slc T.a17 1 M.z ((M.SM.map Prod.fst).flatMap z0f)::dk M.d D::pt a1 (.cells [.int .i64 off].toArray T.a11)::pt a2 (.cells [.int .i64 (most:Int)].toArray T.a10)::r) ->
    Sat w (slc T.a39 1 x (t.s.file.flatMap zh)::pt a (.cells #[.pointer (some ⟨t.ix,0,none⟩),.int .i64 t.s.base,.int .i64 t.s.fin,.int .i64 (z05 t.s.bs),.int .i64 (z0y (-1) t.s.bs),.int .i64 (t.s.file.length:Nat)] T.a31)::z1y t.ix (t.s.idx M.gap)::HP.all ((M.SM.eraseIdx i).map λt=>zy M.gap t.1 t.2)::pt lg (.cells #[.pointer (some ⟨M.d,0,none⟩),.string M.pre,.int .i64 M.seg,.int .i64 M.gap,.slice M.z.a M.z.len M.z.cap] T.a30)::slc T.a17 1 M.z ((M.SM.map Prod.fst).flatMap z0f)::z4z ao outs2::dk M.d D::pt a1 (.cells [.int .i64 off].toArray T.a11)::pt a2 (.cells [.int .i64 (most:Int)].toArray T.a10)::r):=λhs=>hs.sub
  have hs:=hback hs
  refine zf (λh5=>?_) λh5=>?_
  ·have h5:most<=outs2.length:=by
    have:¬ ((outs2.length:Int)<(most:Int)):=by simpa using h5
    omega
   have h6:outs2.length=most:=by omega
   have h7:((t.s.bs.drop k).filterMap (z0k off))=((t.s.bs.drop k).take (j+1)).filterMap (z0k off)++((t.s.bs.drop k).drop (j+1)).filterMap (z0k off):=by
    rw [<- List.filterMap_append,List.take_append_drop]
   have h8:=congrArg List.length hmap2
   simp only [List.length_map,List.length_append] at h8
   refine zk (zk ⟨rfl,outs2,?_,?_,by omega,hfin hs⟩)
   ·rw [decide_eq_false]
    rw [h7,List.length_append]
    omega
   ·rw [h7,<- List.append_assoc,<- hmap2]
    rw [List.take_append_of_le_length (by rw [List.length_map];omega),List.take_of_length_le (by rw [List.length_map];omega)]
  ·have h5:outs2.length<most:=by
    have:((outs2.length:Int)<(most:Int)):=by simpa using h5
    omega
   have ew:IntKind.wrap .i64 (((z3g t.s (k+j):Nat):Int)+((frL b).length:Nat))=((z3g t.s (k+(j+1)):Nat):Int):=by
    rw [show k+(j+1)=k+j+1 by omega,hpos,w64 (by omega) (by omega)];omega
   refine z1k (y:=((z3g t.s (k+(j+1)):Nat):Int)) ?_ ew
   exact z0l (t.s.bs.length-(k+(j+1))) ⟨j+1,outs2,rfl,by omega,rfl,hmap2,h5,by omega,hs⟩
end
def zgy (pre:ByteArray) (l:List SegA) (D:DiskA):Prop:=∀ s ∈ l,∃ k,z03 D.fs (ze pre s.base zq)=some (s.file,k)
def z27 (gap time:Int):List SegA->Int × Bool
 | []=>(0,false)
 | s::l=>if z05 s.bs>0/\z0y (-1) s.bs>=time then ((orE (z1f (s.idx gap).l time)).offset,(z1f (s.idx gap).l time).isSome) else z27 gap time l
theorem zhl {l:List SegA} (hok:z09 0 l):∀ s ∈ l,zo l<=s.base:=by
 cases l with
 | nil=>intro s hs;cases hs
 | cons a l =>
  intro s hs
  show a.base<=s.base
  rcases List.mem_cons.1 hs with rfl|hs
  ·exact Int.le_refl _
  ·have:=(hok.2.2.mem s hs).2
   omega
theorem zfv {l:List SegA} (hok:z09 0 l):zo l<=zp l:=by
 by_cases h:l=[]
 ·subst h;decide
 ·obtain ⟨l0,s,rfl⟩:=z29 h
  have h1:=zhl hok s (by simp)
  have h2:=(z38 (hok.mem s (by simp)).1).1
  unfold zp
  rw [z1g]
  simp only
  omega
theorem zzt {n:Int} {bs:List BatM} (h:z1p n bs):∀ b ∈ bs,n<=b.base:=by
 intro b hb
 obtain ⟨j,hj,rfl⟩:=List.mem_iff_getElem.1 hb
 cases j with
 | zero =>
  cases bs with
  | nil=>simp at hj
  | cons c cs=>exact h.2.2.1
 | succ j =>
  have h1:=h.lt 0 (j+1) hj (by omega)
  obtain ⟨s1,-,-,-,-⟩:=z1d _ (h.valid _ (List.getElem_mem (show 0<bs.length by omega))).1
  omega
theorem zsg {off:Int} {b:BatM} (hv:z01 b=0) (h:off<=b.base):z0k off b=some b:=by
 obtain ⟨s1,-,-,-,-⟩:=z1d b hv
 unfold z0k
 rw [if_neg,if_pos (.inr h)]
 rintro (hh|hh)
 ·exact hh hv
 ·unfold z2n at hh;rw [if_neg (by rw [hv];simp)] at hh;omega
theorem zjp {α:Type} {f:α->Option α} {l:List α} (h:∀ x ∈ l,f x=some x):l.filterMap f=l:=by
 induction l with
 | nil=>rfl
 | cons a l ih=>rw [List.filterMap_cons,h a (List.mem_cons_self ..)];simp only;rw [ih λx hx=>h x (List.mem_cons_of_mem _ hx)]
theorem zve {l:List SegA} (hok:z09 0 l) {n:Int} (hn:(z08 l).length<=n) (h1:1<=n):z5q l (zo l) n=(0,z08 l):=by
 have:=zfv hok
 unfold z5q
 rw [if_neg (by omega),if_neg (by omega),zjp,List.take_of_length_le (by omega)]
 intro b hb
 obtain ⟨s,hs,hbs⟩:=List.mem_flatMap.1 hb
 have h2:=hok.mem s hs
 exact zsg (h2.1.bs.valid b hbs).1 (by have:=zhl hok s hs;have:=zzt h2.1.bs b hbs;omega)
section
variable {w:World} {l r r1 r2:List HP} {lg ao:Nat} {M:LogM} {A:LogA} {D:DiskA} {gap:Int} {a:Nat} {t:SegM} {outs:List BatM}
theorem zw0 (i:Nat) (a0 a1:Nat) (off:Int) (hi:i<M.SM.length)
  (hs:Sat w (pt a0 (.cells [.pointer (some ⟨lg,0,none⟩)].toArray T.a16)::pt a1 (.cells [.int .i64 off].toArray T.a11)::lgQ lg M::r)) :
  Ret P F.a57 #[.int .i64 (i:Int),.pointer (some ⟨a0,0,none⟩),.pointer (some ⟨a1,0,none⟩)] w λvs w'=>vs=[.bool (decide (M.SM[i].2.s.base>off))]/\Sat w' (pt a0 (.cells [.pointer (some ⟨lg,0,none⟩)].toArray T.a16)::pt a1 (.cells [.int .i64 off].toArray T.a11)::lgQ lg M::r) :=
 zpp _ _ _ <| by
  unfold z035
  obtain ⟨hokm,hs⟩:=z26 (hs.pick [2])
  refine z0a hs λw' hs=>?_
  refine za hs ?_
  refine zm ?_
  refine za hs ?_
  refine z1z hs (xs:=M.SM.map Prod.fst) (enc:=z0f) i (by rw [List.length_map];exact hi) ?_
  have e0:(M.SM.map Prod.fst)[i]'(by rw [List.length_map];exact hi)=M.SM[i].1:=by simp
  rw [e0]
  refine zm ?_
  have hs:=z1s (z58 (hs.pick [2]) hi)
  refine za hs ?_
  refine za hs ?_
  refine wp_lt ?_
  refine zj ?_
  have hs:=z3u hi (z1c M.SM[i].2 hs)
  have hs:=z0v M hokm (hs.pick [1,1])
  exact ⟨rfl,rfl,hs.sub⟩
set_option maxHeartbeats 1000000 in
theorem znj (off most:Int) (ho : -9223372036854775808<=off/\off<9223372036854775808) (hmo:most<9223372036854775808) {r1:List HP} [hf:Fo l lgP lg A r1] [hf2:Fo r1 dk A.d D r] (hok:z09 0 A.l) (hhas:zgy A.pre A.l D) (hlen:A.l.length<=1000000) (hall:(z08 A.l).length<=1000000) (hs:Sat w l) :
  Ret P F.a56 #[.pointer (some ⟨lg,0,none⟩),.int .i64 off,.int .i64 most] w λvs w'=>∃ (z:Sl) (outs:List BatM),vs=[z.v,.int .i64 (z5q A.l off most).1]/\outs.map BatM.p=(z5q A.l off most).2/\Sat w' (slc T.a1 7 z (outs.flatMap zi)::z0j outs::lgP lg A::dk A.d D::r) :=
 zqr _ off most <| by
  clear hmo
  unfold z030
  have hs:=hs.perm (hf.perm.trans (.cons _ hf2.perm))
  clear hf hf2
  obtain ⟨M,rfl,hs⟩:=z4b hs
  have hMl:M.A.l=M.l:=rfl
  have hMpre:M.A.pre=M.pre:=rfl
  have hMd:M.A.d=M.d:=rfl
  rw [hMl] at hlen hok hhas hall ⊢
  rw [hMpre] at hhas
  rw [hMd] at hs ⊢
  have hll:M.l.length=M.SM.length:=List.length_map ..
  have z3w:∀ (i:Nat) (h:i<M.SM.length),M.SM[i].2.s=M.l[i]'(by omega):=λi h=>by unfold LogM.l;simp
  obtain ⟨m_,FS_,-,hokD,-⟩:=z2m (hs.pick [1])
  refine z02 hs λa0 w' hs=>?_
  refine z02 hs λa1 w' hs=>?_
  refine z02 hs λa2 w' hs=>?_
  refine za hs ?_
  refine wp_lt ?_
  refine z0g ?_ (by simp)
  refine za hs ?_
  refine wp_lt ?_
  have hfin0:∀ {w:World} {L:List HP},Sat w (lgQ lg M::dk M.d D::r)->Sat w (slc T.a1 7 ⟨none,0,0⟩ (([]:List BatM).flatMap zi)::z0j []::lgP lg M.A::dk M.d D::r):=λhs=>(zeo (z2i M hs)).slc_nil
  unfold z5q
  refine zf (λh=>?_) λh=>?_
  ·rw [if_pos (show most<1 by omega)]
   have hs:Sat w' (lgQ lg M::dk M.d D::r):=hs.sub
   exact ⟨rfl,⟨none,0,0⟩,[],rfl,rfl,hfin0 (L:=[]) hs⟩
  rw [if_neg (show ¬ most<1 by omega)]
  refine zn (λq w'=>q=(decide (off<zo M.l\/off>zp M.l),())/\Sat w' (pt a2 (.cells [.int .i64 most].toArray T.a10)::pt a1 (.cells [.int .i64 off].toArray T.a11)::pt a0 (.cells [.pointer (some ⟨lg,0,none⟩)].toArray T.a16)::lgQ lg M::dk M.d D::r)) ?_ ?_
  ·refine z0a hs λw' hs=>?_
   refine z1e hs ?_
   refine za hs ?_
   refine zb (zd5 (lg:=lg) hs) λ_ w' hs=>?_
   obtain ⟨rfl,hs⟩:=hs
   refine zd ?_ (by first|trivial|(repeat (first|exact trivial|exact λ_=>z0i hs|exact λ_=>z0n hs|refine And.intro ?_ ?_)))
   refine z1e hs ?_
   refine za hs ?_
   refine zf (λh1=>?_) λh1=>?_
   ·refine zj ?_
    exact zg ⟨by rw [decide_eq_true (.inl h1)],hs.sub⟩
   ·refine zb (z8o (lg:=lg) (by omega) hs) λ_ w' hs=>?_
    obtain ⟨rfl,hs⟩:=hs
    refine zd ?_ (by first|trivial|(repeat (first|exact trivial|exact λ_=>z0i hs|exact λ_=>z0n hs|refine And.intro ?_ ?_)))
    refine wp_lt ?_
    refine zj ?_
    refine zg ⟨?_,hs.sub⟩
    rw [decide_eq_decide.2 (show (off<zo M.l\/off>zp M.l)↔off>zp M.l from ⟨λhh=>hh.resolve_left h1,.inr⟩)]
  rintro _ w2 ⟨rfl,hs⟩
  refine zf (λh1=>?_) λh1=>?_
  ·have h1:off<zo M.l\/off>zp M.l:=by simpa using h1
   rw [if_pos h1]
   have hs:Sat w2 (lgQ lg M::dk M.d D::r):=hs.sub
   exact ⟨rfl,⟨none,0,0⟩,[],rfl,rfl,hfin0 (L:=[]) hs⟩
  have h1:¬ (off<zo M.l\/off>zp M.l):=by simpa using h1
  rw [if_neg h1]
  obtain ⟨mN,rfl⟩:∃ mN:Nat,most=(mN:Int):=⟨most.toNat,by omega⟩
  rw [Int.toNat_natCast]
  refine zv hs λao w' hs=>?_
  refine za hs ?_
  refine zm ?_
  obtain ⟨hokm,hs⟩:=z26 (hs.pick [4])
  refine za hs ?_
  have hl:=hs.slen M.z (xs:=M.SM.map Prod.fst) (enc:=z0f)
  rw [List.length_map] at hl
  have hs:=z0v M hokm hs
  have hs:Sat w' (pt a0 (.cells [.pointer (some ⟨lg,0,none⟩)].toArray T.a16)::pt a1 (.cells [.int .i64 off].toArray T.a11)::lgQ lg M::pt ao (.cells #[.slice none 0 0] T.a18)::pt a2 (.cells [.int .i64 (mN:Int)].toArray T.a10)::dk M.d D::r):=hs.sub
  rw [hl]
  refine zb (zeq M.SM.length (by omega) F.a57 #[.pointer (some ⟨a0,0,none⟩),.pointer (some ⟨a1,0,none⟩)] (λi=>decide (((M.l.map SegA.base).getD i 0)>off)) (by kernel_rfl) (λi w hi hs=>?_) hs) λ_ w' hs=>?_
  ·have e:(M.l.map SegA.base).getD i 0=M.SM[i].2.s.base:=by
    rw [List.getD_eq_getElem?_getD,List.getElem?_map,List.getElem?_eq_getElem (by omega),z3w i hi];rfl
   simp only [e]
   exact zw0 (M:=M) i a0 a1 off hi hs
  obtain ⟨i0,hi0,hs1,hs2,rfl,hs⟩:=hs
  refine zd ?_
  refine z1k (y:=(i0:Int)-1) ?_ (by rw [w64 (by omega) (by omega)])
  refine z1k (y:=((i0-1:Nat):Int)) ?_ (by split <;> omega)
  have hskip:i0-1<M.SM.length->(z08 M.l).filterMap (z0k off)=(z08 (M.l.drop (i0-1))).filterMap (z0k off):=λhlt=>by
   refine zw7 hok (i:=i0-1) (by omega) ?_
   by_cases h0:i0=0
   ·right;omega
   ·left
    have h2:=hs1 (by omega)
    rw [List.getD_eq_getElem?_getD,List.getElem?_map,List.getElem?_eq_getElem (by omega)] at h2
    have h2:decide ((M.l[i0-1]'(by omega)).base>off)=false:=h2
    simpa using h2
  have hs:Sat w' (z4z ao []::lgQ lg M::dk M.d D::pt a1 (.cells [.int .i64 off].toArray T.a11)::pt a2 (.cells [.int .i64 (mN:Int)].toArray T.a10)::pt a0 (.cells [.pointer (some ⟨lg,0,none⟩)].toArray T.a16)::r):=by
   have h3:Sat w' (slc T.a1 7 ⟨none,0,0⟩ (([]:List BatM).flatMap zi)::z0j []::_):=(zeo hs).slc_nil
   have h4:Sat w' (pt ao (.cells #[.slice none 0 0] T.a18)::slc T.a1 7 ⟨none,0,0⟩ (([]:List BatM).flatMap zi)::z0j []::lgQ lg M::dk M.d D::pt a1 (.cells [.int .i64 off].toArray T.a11)::pt a2 (.cells [.int .i64 (mN:Int)].toArray T.a10)::pt a0 (.cells [.pointer (some ⟨lg,0,none⟩)].toArray T.a16)::r):=h3.sub
   exact zbu (z:=⟨none,0,0⟩) h4
  refine zn (λ_ w'=>∃ outs:List BatM,outs.map BatM.p=((z08 M.l).filterMap (z0k off)).take mN/\Sat w' (z4z ao outs::lgQ lg M::dk M.d D::pt a1 (.cells [.int .i64 off].toArray T.a11)::pt a2 (.cells [.int .i64 (mN:Int)].toArray T.a10)::pt a0 (.cells [.pointer (some ⟨lg,0,none⟩)].toArray T.a16)::r)) ?_ ?_
  rotate_left
  ·rintro _ w3 ⟨outs,h4,hs⟩
   obtain ⟨z,hs⟩:=zka hs
   refine za hs ?_
   refine ⟨rfl,z,outs,rfl,h4,?_⟩
   have hs:Sat w3 (lgQ lg M::slc T.a1 7 z (outs.flatMap zi)::z0j outs::dk M.d D::r):=hs.sub
   have hs:=z2i M hs
   exact hs.sub
  have hpre:∀ (j:Nat),i0-1<=j->j<=M.l.length->(z08 ((M.l.drop (i0-1)).take (j-(i0-1)))).length<=1000000:=λj h1 h2=>by
   refine Nat.le_trans ?_ hall
   have:∀ (a b:List SegA),a.Sublist b->(z08 a).length<=(z08 b).length:=λa b h=>by
    induction h with
    | slnil=>exact Nat.le_refl _
    | cons x _ ih=>unfold z08 at *;rw [List.flatMap_cons,List.length_append];omega
    | cons_cons x _ ih=>unfold z08 at *;rw [List.flatMap_cons,List.flatMap_cons,List.length_append,List.length_append];omega
   exact this _ _ ((List.take_sublist _ _).trans (List.drop_sublist _ _))
  refine z06 (λm v w=>∃ (j:Nat) (outs:List BatM),v=((j:Int),())/\i0-1<=j/\(j<=M.SM.length\/j=i0-1)/\M.SM.length-j=m/\outs.map BatM.p=(z08 ((M.l.drop (i0-1)).take (j-(i0-1)))).filterMap (z0k off)/\outs.length<mN /\
   Sat w (z4z ao outs::lgQ lg M::dk M.d D::pt a1 (.cells [.int .i64 off].toArray T.a11)::pt a2 (.cells [.int .i64 (mN:Int)].toArray T.a10)::pt a0 (.cells [.pointer (some ⟨lg,0,none⟩)].toArray T.a16)::r)) (M.SM.length-(i0-1))
   ⟨i0-1,[],rfl,Nat.le_refl _,.inr rfl,rfl,by simp [z08],by show 0<mN;omega,hs⟩ ?_
  clear hs
  rintro m _ w ⟨j,outs,rfl,hj1,hj2,hm,hmap,hlt,hs⟩
  refine zl ?_
  refine za hs ?_
  refine zm ?_
  obtain ⟨hokm,hs⟩:=z26 (hs.pick [1])
  refine za hs ?_
  refine zf (λhc=>?_) λhc=>?_
  rotate_left
  ·have hs:=z0v M hokm hs
   refine zk (zg ⟨outs,?_,hs.sub⟩)
   by_cases hlt2:i0-1<M.SM.length
   ·have hje:j=M.SM.length:=by omega
    rw [hskip hlt2,hmap,hje]
    rw [List.take_of_length_le (l:=M.l.drop (i0-1)) (by rw [List.length_drop];omega)] at hmap ⊢
    have:=congrArg List.length hmap
    rw [List.length_map] at this
    rw [List.take_of_length_le (by omega)]
   ·have h0:M.l=[]:=List.length_eq_zero_iff.1 (by omega)
    rw [hmap,h0]
    simp [z08]
  have hjl:j<M.SM.length:=by omega
  refine za hs ?_
  refine zm ?_
  refine za hs ?_
  refine z1z hs (xs:=M.SM.map Prod.fst) (enc:=z0f) j (by rw [List.length_map];exact hjl) ?_
  have e0:(M.SM.map Prod.fst)[j]'(by rw [List.length_map];exact hjl)=M.SM[j].1:=by simp
  rw [e0]
  have hmem:M.SM[j].2.s ∈ M.l:=List.mem_map.2 ⟨_,List.getElem_mem hjl,rfl⟩
  have hsok:=(hok.mem _ hmem).1
  obtain ⟨kp,hfile⟩:=hhas _ hmem
  have hrl:M.SM[j].2.s.file.length<=4194304:=Nat.le_trans (zce hfile) hokD.used
  have hbl:=zgh hsok
  obtain ⟨k,hk,hpl,hskp⟩:=zsz hsok hrl M.gap off
  have hlt2:i0-1<M.SM.length:=by omega
  have hstep:(M.l.drop (i0-1)).take (j+1-(i0-1))=(M.l.drop (i0-1)).take (j-(i0-1))++[M.SM[j].2.s]:=by
   rw [show j+1-(i0-1)=(j-(i0-1))+1 by omega,List.take_succ_eq_append_getElem (by rw [List.length_drop];omega),List.getElem_drop,z3w j hjl]
   congr 3
   omega
  have hnone:(M.SM[j].2.s.bs).filterMap (z0k off)=(M.SM[j].2.s.bs.drop k).filterMap (z0k off):=by
   have e:M.SM[j].2.s.bs=M.SM[j].2.s.bs.take k++M.SM[j].2.s.bs.drop k:=(List.take_append_drop _ _).symm
   calc (M.SM[j].2.s.bs).filterMap (z0k off)=(M.SM[j].2.s.bs.take k++M.SM[j].2.s.bs.drop k).filterMap (z0k off):=by rw [<- e]
    _=(M.SM[j].2.s.bs.drop k).filterMap (z0k off):=by
     rw [List.filterMap_append,zab (l:=M.SM[j].2.s.bs.take k),List.nil_append]
     intro b hb
     exact zfn (hsok.bs.valid b (List.mem_of_mem_take hb)).1 (hskp b hb)
  have hall2:(z08 ((M.l.drop (i0-1)).take (j+1-(i0-1)))).filterMap (z0k off)=(z08 ((M.l.drop (i0-1)).take (j-(i0-1)))).filterMap (z0k off)++(M.SM[j].2.s.bs.drop k).filterMap (z0k off):=by
   rw [hstep]
   unfold z08
   rw [List.flatMap_append,List.filterMap_append,<- hnone]
   simp
  have hol:outs.length<=1000000:=by
   have:=congrArg List.length hmap
   rw [List.length_map] at this
   rw [this]
   exact Nat.le_trans (List.length_filterMap_le _ _) (hpre j hj1 (by omega))
  refine zn (λq w'=>∃ outs':List BatM,q=(decide (outs.length+((M.SM[j].2.s.bs.drop k).filterMap (z0k off)).length<mN),())/\outs'.map BatM.p=(outs.map BatM.p++(M.SM[j].2.s.bs.drop k).filterMap (z0k off)).take mN /\
    Sat w' (z4z ao outs'::lgQ lg M::dk M.d D::pt a1 (.cells [.int .i64 off].toArray T.a11)::pt a2 (.cells [.int .i64 (mN:Int)].toArray T.a10)::pt a0 (.cells [.pointer (some ⟨lg,0,none⟩)].toArray T.a16)::r)) ?_ ?_
  ·refine z0a hs λw' hs=>?_
   refine z1e hs ?_
   refine za hs ?_
   have hs:=z58 (hs.pick [2]) hjl
   refine zb (z006 (gap:=M.gap) (a:=M.SM[j].1) (t:=M.SM[j].2) off hsok hrl hs) λ_ w' hs=>?_
   obtain ⟨rfl,hs⟩:=hs
   refine zd ?_ (by first|trivial|(repeat (first|exact trivial|exact λ_=>z0i hs|exact λ_=>z0n hs|refine And.intro ?_ ?_)))
   refine zj ?_
   have hs:=z3u hjl hs
   have hs:=z0v M hokm (hs.pick [1,1])
   have hs:Sat w' (z4z ao outs::lgQ lg M::dk M.d D::pt a1 (.cells [.int .i64 off].toArray T.a11)::pt a2 (.cells [.int .i64 (mN:Int)].toArray T.a10)::pt a0 (.cells [.pointer (some ⟨lg,0,none⟩)].toArray T.a16)::r):=hs.sub
   rw [hpl]
   refine zb (z01u off mN a1 a2 ho hjl hsok hfile hk hlt (by omega) hs) λ_ w' hs=>?_
   obtain ⟨outs',rfl,hm2,-,hs⟩:=hs
   refine zd ?_
   refine wp_lt ?_
   refine zj ?_
   exact zg ⟨outs',rfl,hm2,hs⟩
  clear hs
  rintro _ w3 ⟨outs',rfl,hm2,hs⟩
  rw [hmap,<- hall2] at hm2
  have hlm:=congrArg List.length hmap
  rw [List.length_map] at hlm
  refine zf (λh5=>?_) λh5=>?_
  ·have h5:¬ (outs.length+((M.SM[j].2.s.bs.drop k).filterMap (z0k off)).length<mN):=by simpa using h5
   refine zk (zg ⟨outs',?_,hs⟩)
   rw [hm2,hskip hlt2]
   have e:z08 (M.l.drop (i0-1))=z08 ((M.l.drop (i0-1)).take (j+1-(i0-1)))++z08 ((M.l.drop (i0-1)).drop (j+1-(i0-1))):=by
    unfold z08;rw [<- List.flatMap_append,List.take_append_drop]
   rw [e,List.filterMap_append,List.take_append_of_le_length]
   rw [hall2,List.length_append]
   omega
  ·have h5:(outs.length+((M.SM[j].2.s.bs.drop k).filterMap (z0k off)).length<mN):=by simpa using h5
   refine z1k (y:=((j+1:Nat):Int)) ?_ (by rw [w64 (by omega) (by omega)];omega)
   have hll2:((z08 ((M.l.drop (i0-1)).take (j+1-(i0-1)))).filterMap (z0k off)).length<mN:=by rw [hall2,List.length_append];omega
   rw [List.take_of_length_le (by omega)] at hm2
   have hl3:=congrArg List.length hm2
   rw [List.length_map] at hl3
   exact z0l (M.SM.length-(j+1)) ⟨j+1,outs',rfl,by omega,.inl (by omega),rfl,hm2,by omega,hs⟩
theorem z01n {r1:List HP} [hf:Fo l lgP lg A r1] [hf2:Fo r1 dk A.d D r] (hok:z09 0 A.l) (hhas:zgy A.pre A.l D) (hlen:A.l.length<=1000000) (hall:(z08 A.l).length<=1000000) (hs:Sat w l) :
  Ret P F.a52 #[.pointer (some ⟨lg,0,none⟩)] w λvs w'=>∃ (z:Sl) (outs:List BatM),vs=[z.v]/\outs.map BatM.p=z08 A.l/\Sat w' (slc T.a1 7 z (outs.flatMap zi)::z0j outs::lgP lg A::dk A.d D::r) :=
 zq9 _ <| by
  unfold z029
  have hs:=hs.perm (hf.perm.trans (.cons _ hf2.perm))
  clear hf hf2
  have hfn:=zfv hok
  have hnx:=hok.next (Int.le_refl 0)
  have hf0:0<=zo A.l:=by
   cases hq:A.l with
   | nil=>decide
   | cons s l0=>rw [hq] at hok;have:=hok.1;exact this
  refine z0g ?_ (by simp)
  obtain ⟨M,hM,hs⟩:=z4b hs
  subst hM
  refine zb (zd5 (lg:=lg) hs) λ_ w' hs=>?_
  obtain ⟨rfl,hs⟩:=hs
  refine zd ?_
  have hs:=z2i M hs
  have hfn:zo M.l<=zp M.l:=hfn
  have hnx:0<=zp M.l/\zp M.l<=1099511627777:=hnx
  have hf0:0<=zo M.l:=hf0
  refine zb (znj (lg:=lg) (A:=M.A) (D:=D) (zo M.l) 1099511627776 (by omega) (by omega) hok hhas hlen hall hs) λ_ w' hs=>?_
  obtain ⟨z,outs,rfl,hmap,hs⟩:=hs
  refine zd ?_
  refine wp_lt ?_
  have hra:z5q M.A.l (zo M.l) 1099511627776=(0,z08 M.A.l):=zve hok (by omega) (by omega)
  rw [hra] at hmap
  exact ⟨rfl,z,outs,rfl,hmap,hs⟩
theorem zv2 (time:Int) [hf:Fo l lgP lg A r] (hok:z09 0 A.l) (hfl:∀ s ∈ A.l,s.file.length<=4194304) (hlen:A.l.length<=1000000) (hs:Sat w l) :
  Ret P F.a51 #[.pointer (some ⟨lg,0,none⟩),.int .i64 time] w λvs w'=>vs=[.int .i64 (z27 A.gap time A.l).1,.bool (z27 A.gap time A.l).2]/\Sat w' (lgP lg A::r) :=
 zpw _ time <| by
  unfold z03e
  obtain ⟨M,rfl,hs⟩:=z4b (hs.perm hf.perm)
  have hMl:M.A.l=M.l:=rfl
  have hMg:M.A.gap=M.gap:=rfl
  rw [hMl] at hlen hok hfl ⊢
  rw [hMg]
  have hll:M.l.length=M.SM.length:=List.length_map ..
  have z3w:∀ (i:Nat) (h:i<M.SM.length),M.l[i]'(by omega)=M.SM[i].2.s:=λi h=>by unfold LogM.l;simp
  obtain ⟨hokm,hs⟩:=z26 hs
  have hl:=hs.slen M.z (xs:=M.SM.map Prod.fst) (enc:=z0f)
  rw [List.length_map] at hl
  refine z0g ?_ (by simp)
  refine zm ?_
  refine za hs ?_
  refine zn (λ_ w'=>z27 M.gap time M.l=(0,false)/\Sat w' (lgP lg M.A::r)) ?_ ?_
  rotate_left
  ·rintro _ w2 ⟨h1,hs⟩
   rw [h1]
   exact ⟨rfl,rfl,hs⟩
  refine z06 (λm v w=>∃ i:Nat,v=((i:Int),())/\i<=M.SM.length/\M.SM.length-i=m/\z27 M.gap time M.l=z27 M.gap time (M.l.drop i)/\Sat w (pt lg (.cells #[.pointer (some ⟨M.d,0,none⟩),.string M.pre,.int .i64 M.seg,.int .i64 M.gap,.slice M.z.a M.z.len M.z.cap] T.a30)::slc T.a17 1 M.z ((M.SM.map Prod.fst).flatMap z0f)::HP.all (M.SM.map λt=>zy M.gap t.1 t.2)::r)) M.SM.length ⟨0,rfl,by omega,rfl,rfl,hs⟩ ?_
  clear hs
  rintro m _ w ⟨i,rfl,hi,hm,hq,hs⟩
  refine zl ?_
  refine zf (λhc=>?_) λhc=>?_
  rotate_left
  ·rw [List.drop_eq_nil_of_le (by omega)] at hq
   exact zk (zg ⟨hq,z2i M (z0v M hokm hs)⟩)
  have hil:i<M.SM.length:=by omega
  rw [List.drop_eq_getElem_cons (by omega:i<M.l.length),z3w i hil] at hq
  have hmem:M.SM[i].2.s ∈ M.l:=List.mem_map.2 ⟨_,List.getElem_mem hil,rfl⟩
  have hsok:=(hok.mem _ hmem).1
  have hrl:=hfl _ hmem
  have hidx:IdxOk M.gap (shL M.SM[i].2.s.base M.SM[i].2.s.fin).length M.SM[i].2.s.bs (M.SM[i].2.s.idx M.gap):=zd0 M.gap M.SM[i].2.s.bs.length rfl hsok.base.1 (by omega) hsok.bs (by have:=z1u M.SM[i].2.s;omega)
  refine z1z hs (xs:=M.SM.map Prod.fst) (enc:=z0f) i (by rw [List.length_map];exact hil) ?_
  have e0:(M.SM.map Prod.fst)[i]'(by rw [List.length_map];exact hil)=M.SM[i].1:=by simp
  rw [e0]
  refine zm ?_
  have hs:=z1s (z58 (hs.pick [2]) hil)
  refine za hs ?_
  refine z0h ?_
  refine za hs ?_
  have hun:z27 M.gap time (M.SM[i].2.s::M.l.drop (i+1))=if z05 M.SM[i].2.s.bs>0/\z0y (-1) M.SM[i].2.s.bs>=time then ((orE (z1f (M.SM[i].2.s.idx M.gap).l time)).offset,(z1f (M.SM[i].2.s.idx M.gap).l time).isSome) else z27 M.gap time (M.l.drop (i+1)):=rfl
  refine zf (λh1=>?_) λh1=>?_
  ·rw [if_pos h1] at hun
   refine zm ?_
   refine za hs ?_
   refine zb (zyj (b:=M.SM[i].2.ix) (X:=M.SM[i].2.s.idx M.gap) time hidx.befs hs) λ_ w' hs=>?_
   obtain ⟨rfl,hs⟩:=hs
   refine ⟨((orE (z1f (M.SM[i].2.s.idx M.gap).l time)).offset,(orE (z1f (M.SM[i].2.s.idx M.gap).l time)).place,(orE (z1f (M.SM[i].2.s.idx M.gap).l time)).before,(z1f (M.SM[i].2.s.idx M.gap).l time).isSome,()),rfl,trivial,zg0 _ _ _ _ ?_⟩
   refine zv hs λc w' hs=>?_
   refine zx hs λw' hs=>?_
   refine wp_lt ?_
   refine za hs ?_
   refine wp_lt ?_
   refine wp_lt ?_
   rw [hq,hun]
   have hs:Sat w' (zy M.gap M.SM[i].1 M.SM[i].2::HP.all ((M.SM.eraseIdx i).map λt=>zy M.gap t.1 t.2)::pt lg (.cells #[.pointer (some ⟨M.d,0,none⟩),.string M.pre,.int .i64 M.seg,.int .i64 M.gap,.slice M.z.a M.z.len M.z.cap] T.a30)::slc T.a17 1 M.z ((M.SM.map Prod.fst).flatMap z0f)::r):=z1c M.SM[i].2 hs.sub
   have hs:=z3u hil hs
   exact zk (zk ⟨rfl,rfl,z2i M (z0v M hokm (hs.pick [1,1]))⟩)
  ·rw [if_neg h1] at hun
   rw [hun] at hq
   rw [wS (i:=i) (by omega)]
   have hs:=z3u hil (z1c M.SM[i].2 hs)
   exact z0l (M.SM.length-(i+1)) ⟨i+1,rfl,by omega,rfl,hq,hs.pick [1,1]⟩
end
def zfa (seg gap:Int):Prop:=(64<=seg/\seg<=4194304)/\(1<=gap/\gap<=4194304)
instance (seg gap:Int):Decidable (zfa seg gap):=by unfold zfa;infer_instance
section
variable {w:World} {l r:List HP} {lg d:Nat} {M:LogM} {A:LogA} {D:DiskA}
set_option maxHeartbeats 1000000 in
theorem zh4 (pre:ByteArray) (seg gap:Int) (hp:z49 pre=true) (hc:zfa seg gap) (hg:D.gone=false) [hf:Fo l dk d D r] (hs:Sat w l):Ret P F.a76 #[.pointer (some ⟨d,0,none⟩),.string pre,.agg #[.int .i64 seg,.int .i64 gap]] w λvs w' =>
  ((z4s pre D).1≠0/\vs=[.pointer none,.int .i64 (z4s pre D).1]/\Sat w' (dk d (z4s pre D).2.2::r)) \/
  ((z4s pre D).1=0/\∃ lg,vs=[.pointer (some ⟨lg,0,none⟩),.int .i64 0]/\Sat w' (lgP lg ⟨d,pre,seg,gap,(z4s pre D).2.1⟩::dk d (z4s pre D).2.2::r)) :=
 zpt _ pre seg gap <| by
  unfold z00h
  have hs:=hs.perm hf.perm
  obtain ⟨m_,FS_,-,hokD,-⟩:=z2m hs
  refine z02 hs λa0 w' hs=>?_
  refine wp_lt ?_
  refine z0g ?_ (by simp)
  refine zn (λq w'=>q=(false,())/\Sat w' (dk d D::pt a0 (.cells #[.int .i64 seg,.int .i64 gap] T.a29)::r)) ?_ ?_
  ·refine zb (zup pre hs) λ_ w' hs=>?_
   obtain ⟨rfl,hs⟩:=hs
   refine zd ?_
   refine zr hs ?_
   refine z0g ?_ (by rw [hp];simp)
   refine zb (z00r seg gap hs) λ_ w' hs=>?_
   obtain ⟨rfl,hs⟩:=hs
   refine zd ?_
   refine wp_lt ?_
   refine zg ⟨?_,hs.sub⟩
   have:((64<=seg/\seg<=4194304)/\(1<=gap/\gap<=4194304)):=hc
   rw [decide_eq_true this]
   rfl
  rintro _ w2 ⟨rfl,hs⟩
  refine z0g ?_ (by simp)
  refine zb (z02n (d:=d) hs) λ_ w' hs=>?_
  obtain ⟨rfl,hs⟩:=hs
  refine zd ?_
  refine wp_lt ?_
  refine z0g ?_ (by rw [hg];simp)
  refine zr hs ?_
  refine z02 hs λlg w' hs=>?_
  have hokm:okM gap seg pre:=⟨hc.2,hc.1,hp⟩
  have hs:Sat w' (lgQ lg ⟨d,pre,seg,gap,⟨none,0,0⟩,[]⟩::dk d D::r):=by
   refine z0v ⟨d,pre,seg,gap,⟨none,0,0⟩,[]⟩ hokm ?_
   have h1:Sat w' (HP.all (([]:List (Nat × SegM)).map λt=>zy gap t.1 t.2)::pt lg (.cells #[.pointer (some ⟨d,0,none⟩),.string pre,.int .i64 seg,.int .i64 gap,.slice none 0 0] T.a30)::dk d D::r):=by
    have hs:Sat w' (pt lg (.cells #[.pointer (some ⟨d,0,none⟩),.string pre,.int .i64 seg,.int .i64 gap,.slice none 0 0] T.a30)::dk d D::r):=hs.sub
    exact Sat.all_nil hs
   have h2:Sat w' (slc T.a17 1 ⟨none,0,0⟩ (((([]:List (Nat × SegM))).map Prod.fst).flatMap z0f)::_):=h1.slc_nil
   exact h2.pick [2]
  unfold z4s
  refine zb (zyq (lg:=lg) (M:=⟨d,pre,seg,gap,⟨none,0,0⟩,[]⟩) (D:=D) hs) λ_ w' hs=>?_
  have hnl:(z11 pre (z15 (z18 pre) D.fs) D).2.1.length<=128:=by
   refine Nat.le_trans zfk ?_
   unfold z15
   exact Nat.le_trans (List.length_filter_le _ _) (by rw [List.length_map];exact hokD.many)
  have hlt:=zid (pre:=pre) (ns:=z15 (z18 pre) D.fs) (D:=D)
  rcases hs with ⟨he,rfl,hs⟩|⟨he,x,rfl,hs⟩
  ·have he:(z11 pre (z15 (z18 pre) D.fs) D).1≠0:=he
   refine zd ?_
   refine wp_lt ?_
   refine z1b ?_ he
   refine wp_lt ?_
   rw [if_pos he]
   exact ⟨rfl,.inl ⟨he,rfl,hs.tail⟩⟩
  have he:(z11 pre (z15 (z18 pre) D.fs) D).1=0:=he
  refine ⟨(x,0,()),rfl,trivial,z35 _ _ ?_⟩
  refine wp_lt ?_
  refine z0g ?_ (by simp)
  rw [if_neg (by rw [he];simp)]
  have hs:Sat w' (slc T.a11 1 x ((z11 pre (z15 (z18 pre) D.fs) D).2.1.flatMap z2u)::lgQ lg ⟨d,pre,seg,gap,⟨none,0,0⟩,[]⟩::dk d (z11 pre (z15 (z18 pre) D.fs) D).2.2::r):=hs
  generalize (z11 pre (z15 (z18 pre) D.fs) D).2.2=D1 at *
  generalize (z11 pre (z15 (z18 pre) D.fs) D).2.1=bs at *
  have hl:=hs.slen x (xs:=bs) (enc:=z2u)
  have hcap:=hs.slc_cap
  refine zn (λq w'=>∃ M:LogM,q=((z2o pre bs [] D1).1,())/\(M.d=d/\M.pre=pre/\M.seg=seg/\M.gap=gap)/\M.l=(z2o pre bs [] D1).2.1/\Sat w' (lgQ lg M::dk d (z2o pre bs [] D1).2.2::r)) ?_ ?_
  rotate_left
  ·rintro _ w3 ⟨M,rfl,⟨rfl,rfl,rfl,rfl⟩,h2,hs⟩
   refine zf (λh=>?_) λh=>?_
   ·refine wp_lt ?_
    exact ⟨rfl,.inl ⟨h,rfl,hs.tail⟩⟩
   ·have h:(z2o M.pre bs [] D1).1=0:=Decidable.not_not.1 h
    refine ⟨rfl,.inr ⟨h,lg,rfl,?_⟩⟩
    have:=z2i M hs
    have e:M.A=⟨M.d,M.pre,M.seg,M.gap,(z2o M.pre bs [] D1).2.1⟩:=by rw [<- h2];rfl
    rw [<- e]
    exact this
  refine z06 (λm v w=>∃ (i:Nat) (M:LogM) (D':DiskA),v=((0:Int),((i:Int),()))/\i<=bs.length/\bs.length-i=m/\M.SM.length<=i/\z2o pre bs [] D1=z2o pre (bs.drop i) M.l D'/\(M.d=d/\M.pre=pre/\M.seg=seg/\M.gap=gap) /\
   Sat w (slc T.a11 1 x (bs.flatMap z2u)::lgQ lg M::dk d D'::r)) bs.length ⟨0,⟨d,pre,seg,gap,⟨none,0,0⟩,[]⟩,D1,rfl,by omega,rfl,by simp,rfl,⟨rfl,rfl,rfl,rfl⟩,hs⟩ ?_
  clear hs
  rintro m _ w ⟨i,M,D',rfl,hi,hm,hsm,hq,⟨rfl,rfl,rfl,rfl⟩,hsn⟩
  have hs:=hsn
  refine zl ?_
  refine zf (λhcc=>?_) λhcc=>?_
  rotate_left
  ·have e:bs.drop i=[]:=List.drop_eq_nil_of_le (by omega)
   rw [e] at hq
   have hq:z2o M.pre bs [] D1=(0,M.l,D'):=hq
   rw [hq]
   exact zk (zg ⟨M,rfl,⟨rfl,rfl,rfl,rfl⟩,rfl,hs.sub⟩)
  have hil:i<bs.length:=by omega
  rw [List.drop_eq_getElem_cons hil] at hq
  have hbb:=hlt bs[i] (List.getElem_mem hil)
  have hun:z2o M.pre (bs[i]::bs.drop (i+1)) M.l D'=if bs[i]<zp M.l then (if (z0p D' (ze M.pre bs[i] zq)).1≠0 then ((z0p D' (ze M.pre bs[i] zq)).1,M.l,(z0p D' (ze M.pre bs[i] zq)).2) else z2o M.pre (bs.drop (i+1)) M.l (z0p D' (ze M.pre bs[i] zq)).2) else
   if (z1w M.pre M.l D' bs[i]).1.2≠0 then ((z1w M.pre M.l D' bs[i]).1.2,(z1w M.pre M.l D' bs[i]).2) else
   if (z1w M.pre M.l D' bs[i]).1.1=true then z2o M.pre (bs.drop (i+1)) (z1w M.pre M.l D' bs[i]).2.1 (z1w M.pre M.l D' bs[i]).2.2 else ((z2f M.pre (bs.drop (i+1)) (z1w M.pre M.l D' bs[i]).2.2).1,(z1w M.pre M.l D' bs[i]).2.1,(z2f M.pre (bs.drop (i+1)) (z1w M.pre M.l D' bs[i]).2.2).2):=rfl
  have ei:IntKind.wrap .i64 ((i:Int)+1)=((i+1:Nat):Int):=by rw [w64 (by omega) (by omega)];omega
  refine zn (λq w'=>∃ (M2:LogM) (D2:DiskA),q=((0:Int),())/\M2.SM.length<=i+1/\z2o M.pre bs [] D1=z2o M.pre (bs.drop (i+1)) M2.l D2/\(M2.d=M.d/\M2.pre=M.pre/\M2.seg=M.seg/\M2.gap=M.gap) /\
   Sat w' (slc T.a11 1 x (bs.flatMap z2u)::lgQ lg M2::dk M.d D2::r)) ?_ ?_
  rotate_left
  ·rintro _ w3 ⟨M2,D2,rfl,h1,h2,h3,hs⟩
   rw [ei]
   exact z0l (bs.length-(i+1)) ⟨i+1,M2,D2,rfl,by omega,rfl,h1,h2,h3,hs⟩
  refine z1z hs (xs:=bs) (enc:=z2u) i hil ?_
  refine wp_lt ?_
  refine wp_lt ?_
  refine zb (z8o (lg:=lg) (by omega) hs) λ_ w' hs=>?_
  obtain ⟨rfl,hs⟩:=hs
  refine zd ?_
  refine zf (λh1=>?_) λh1=>?_
  ·rw [if_pos h1] at hun
   obtain ⟨hokm,hs⟩:=z8w hs
   refine zb (z4m (lg:=lg) bs[i] hbb (ByteArray.mk #[46,108,111,103]) (by decide) M.pre hokm.size hs) λ_ w' hs=>?_
   obtain ⟨rfl,hs⟩:=hs
   refine zd ?_
   refine zb (z7p (d:=M.d) (A:=D') (ze M.pre bs[i] (bl (ByteArray.mk #[46,108,111,103]))) hs) λ_ w' hs=>?_
   obtain ⟨rfl,hs⟩:=hs
   refine zd ?_
   refine wp_lt ?_
   have en:ze M.pre bs[i] (bl (ByteArray.mk #[46,108,111,103]))=ze M.pre bs[i] zq:=rfl
   rw [en] at hs ⊢
   have hs:=z4t M hokm (hs.pick [1,1])
   refine zf (λh2=>?_) λh2=>?_
   ·rw [if_pos h2] at hun
    rw [hun] at hq
    rw [hq]
    exact zk (zk (zg ⟨M,rfl,⟨rfl,rfl,rfl,rfl⟩,rfl,hs.sub⟩))
   ·rw [if_neg h2] at hun
    rw [hun] at hq
    have h2:=Decidable.not_not.1 h2
    rw [h2]
    exact zg ⟨M,_,rfl,by omega,hq,⟨rfl,rfl,rfl,rfl⟩,hs.sub⟩
  ·rw [if_neg h1] at hun
   refine zb (z019 (lg:=lg) (D:=D') bs[i] hbb (by omega) hs) λ_ w' hs=>?_
   obtain ⟨rfl,M2,⟨e1,e2,e3,e4⟩,hMl,hMs,hs⟩:=hs
   refine zd ?_
   refine wp_lt ?_
   refine wp_lt ?_
   have hs:Sat w' (lgQ lg M2::dk M.d (z1w M.pre M.l D' bs[i]).2.2::slc T.a11 1 x (bs.flatMap z2u)::r):=hs
   generalize z1w M.pre M.l D' bs[i]=SC at *
   obtain ⟨⟨b0,e0⟩,l0,D0⟩:=SC
   dsimp only at hun hMl hs ⊢
   refine zf (λh2=>?_) λh2=>?_
   ·obtain ⟨h2a,h2b⟩:=h2
    have h2a:e0=0:=h2a
    have h2b:b0=false:=by simpa using h2b
    rw [if_neg (by rw [h2a];simp),if_neg (by rw [h2b];simp)] at hun
    rw [ei]
    refine wp_must (by omega) ?_
    rw [Int.toNat_natCast]
    rw [<- e1] at hs
    have hx:FocR (slc T.a11 1 x (bs.flatMap z2u)::r) ⟨z12 x.a 1 (i+1) x.cap,x.len-(i+1),x.cap-(i+1)⟩ 1 ((bs.drop (i+1)).flatMap z2u):=FocR.post hcap
    refine zb (z002 (lg:=lg) (M:=M2) (D:=D0) ⟨z12 x.a 1 (i+1) x.cap,x.len-(i+1),x.cap-(i+1)⟩ (bs.drop (i+1)) (λb hb=>hlt b (List.mem_of_mem_drop hb)) hx (by rw [List.length_drop];omega) hs) λ_ w' hs=>?_
    obtain ⟨rfl,hs⟩:=hs
    refine zd ?_
    refine wp_lt ?_
    rw [e2,e1] at hs
    rw [e2]
    rw [hun] at hq
    rw [hq]
    refine zk (zk (zg ⟨M2,rfl,⟨e1,e2,e3,e4⟩,hMl,hs.sub⟩))
   ·refine zf (λh3=>?_) λh3=>?_
    ·rw [if_pos h3] at hun
     rw [hun] at hq
     rw [hq]
     refine zk (zk (zg ⟨M2,rfl,⟨e1,e2,e3,e4⟩,hMl,hs.sub⟩))
    ·have h3:e0=0:=Decidable.not_not.1 h3
     have h4:b0=true:=by
      cases hb0:b0 with
      | true=>rfl
      | false=>exact absurd ⟨h3,by rw [hb0];simp⟩ h2
     rw [if_neg (by rw [h3];simp),if_pos h4,<- hMl] at hun
     rw [hun] at hq
     rw [h3]
     exact zg ⟨M2,D0,rfl,by omega,hq,⟨e1,e2,e3,e4⟩,hs.sub⟩
end
theorem z9i:∀ {bs:List BatM} {n:Int},0<=n->(zt n bs).1=0->z1p n ((zt n bs).2.map BatM.p)/\(∀ b ∈ (zt n bs).2,n<=b.base)
 | [],n,_,_=>⟨trivial,λ_ h=>by cases h⟩
 | b::bs,n,hn,h=>by
  unfold zt at h ⊢
  by_cases h1:z01 (b.to n)≠0
  ·rw [if_pos h1] at h;exact absurd h h1
  rw [if_neg h1] at h ⊢
  by_cases h2:(zt (n+z00 b) bs).1≠0
  ·rw [if_pos h2] at h;exact absurd h h2
  rw [if_neg h2]
  have hv:=Decidable.not_not.1 h1
  obtain ⟨s1,-,-,-,-⟩:=z1d _ hv
  have s1:1<=z00 b:=s1
  obtain ⟨i1,i2⟩:=z9i (n:=n+z00 b) (by omega) (Decidable.not_not.1 h2)
  refine ⟨⟨hv,rfl,Int.le_refl _,i1⟩,λc hc=>?_⟩
  rcases List.mem_cons.1 hc with rfl|hc
  ·exact Int.le_refl _
  ·have:=i2 c hc;omega
theorem z1p.append:∀ {n:Int} {cs bs:List BatM},0<=n->z1p n cs->z1p (max n (z05 cs)) bs->z1p n (cs++bs)
 | n,[],bs,hn,_,h2=>h2.mono (by show n<=max n 0;omega)
 | n,a::cs,bs,hn,⟨h1,h2,h3,h4⟩,hb=>by
  obtain ⟨s1,-,⟨-,hba,-⟩,-,-⟩:=z1d a h1
  refine ⟨h1,h2,h3,h4.append (by omega) (hb.mono ?_)⟩
  have h5:a.base+z00 a<=z05 (a::cs):=z1p.le_next (n:=n) (bs:=a::cs) ⟨h1,h2,h3,h4⟩ (List.mem_cons_self ..)
  have h6:z05 cs<=z05 (a::cs):=by
   cases cs with
   | nil=>show (0:Int)<=_;omega
   | cons c ds=>exact Int.le_refl _
  omega
theorem z09.mono {m n:Int} {l:List SegA} (h:z09 n l) (hm:m<=n):z09 m l:=by
 cases l with
 | nil=>trivial
 | cons s l=>exact ⟨by have:=h.1;omega,h.2.1,h.2.2⟩
theorem z2k (l:List SegA) (s:SegA):zp (l++[s])=s.reach:=by unfold zp;rw [z1g]
theorem zai (l:List SegA) (s:SegA):z5j (l++[s])=s.base:=by unfold z5j;rw [z1g]
theorem z3c (l:List SegA) (s:SegA) (bs:List BatM):z57 (l++[s]) bs=l++[s.add bs]:=by unfold z57;rw [z1g];simp
theorem zdv (l:List SegA) (s:SegA):z5x (l++[s])=z05 s.bs:=by unfold z5x;rw [z1g]
theorem z09.snoc:∀ {n:Int} {l:List SegA} {s:SegA},z09 n l->SegOk s->n<=s.base->(∀ t ∈ l,t.reach<=s.base/\t.base<s.base)->z09 n (l++[s])
 | n,[],s,_,hs,hn,_=>⟨hn,hs,trivial⟩
 | n,a::l,s,⟨h1,h2,h3⟩,hs,hn,ht=>by
  have:=ht a (List.mem_cons_self ..)
  exact ⟨h1,h2,h3.snoc hs (by omega) λt h=>ht t (List.mem_cons_of_mem _ h)⟩
theorem z09.front:∀ {n:Int} {l:List SegA} {s:SegA},z09 n (l++[s])->z09 n l/\SegOk s/\n<=s.base/\∀ t ∈ l,t.reach<=s.base/\t.base<s.base
 | n,[],s,h=>⟨trivial,h.2.1,h.1,λ_ h=>by cases h⟩
 | n,a::l,s,⟨h1,h2,h3⟩=>by
  obtain ⟨i1,i2,i3,i4⟩:=h3.front
  have:=(z38 h2).1
  refine ⟨⟨h1,h2,i1⟩,i2,by omega,λt ht=>?_⟩
  rcases List.mem_cons.1 ht with rfl|ht
  ·omega
  ·exact i4 t ht
theorem zs4 {s:SegA} (hs:SegOk s) {bs:List BatM} {n:Int} (h:(zt n bs).1=0) (hn:n=s.reach):SegOk (s.add (zt n bs).2):=by
 have hr:=z38 hs
 have hb:=hs.base
 refine ⟨hs.base,hs.fin,?_⟩
 subst hn
 have hm:max s.base (z05 s.bs)<=s.reach:=by omega
 exact hs.bs.append hb.1 ((z9i (by omega) h).1.mono hm)
theorem zlw {bs:List BatM} {n:Int} (h:(zt n bs).1=0) (hb:bs≠[]):0<=n/\n<=1099511627776:=by
 cases bs with
 | nil=>exact absurd rfl hb
 | cons b bs =>
  unfold zt at h
  by_cases h1:z01 (b.to n)≠0
  ·rw [if_pos h1] at h;exact absurd h h1
  ·obtain ⟨-,-,⟨-,hba,-⟩,-,-⟩:=z1d _ (Decidable.not_not.1 h1)
   exact hba
def z0w (seg:Int) (l:List SegA) (bs:List BatM):(Int × Int) × List SegA :=
 if bs=[] then ((0,3),l) else if (zt (zp l) bs).1≠0 then ((0,(zt (zp l) bs).1),l) else
 ((zp l,0),if z3r seg l ((zt (zp l) bs).2.flatMap frL).length then z57 l (zt (zp l) bs).2 else l++[(⟨zp l,0,[]⟩:SegA).add (zt (zp l) bs).2])
def z3j (l:List SegA):Int × List SegA:=if z5x l=0 then (3,l) else (0,l++[⟨zp l,0,[]⟩])
theorem z7z {seg:Int} {l:List SegA} {bs:List BatM} (h:z09 0 l):z09 0 (z0w seg l bs).2:=by
 unfold z0w
 split
 ·exact h
 rename_i hb
 split
 ·exact h
 rename_i hp
 have hp:=Decidable.not_not.1 hp
 have hv:=zlw hp hb
 simp only
 split
 ·rename_i hr
  have hne:l≠[]:=by rintro rfl;cases hr
  obtain ⟨l0,s,rfl⟩:=z29 hne
  rw [z3c]
  obtain ⟨h1,h2,h3,h4⟩:=h.front
  exact h1.snoc (zs4 h2 hp (z2k _ _)) h3 h4
 ·rename_i hr
  have hs:SegOk ((⟨zp l,0,[]⟩:SegA).add (zt (zp l) bs).2):=by
   refine ⟨hv,.inl rfl,?_⟩
   show z1p _ ([]++_)
   rw [List.nil_append]
   exact (z9i hv.1 hp).1
  refine h.snoc hs hv.1 λt ht=>?_
  show t.reach<=zp l/\t.base<zp l
  have hne:l≠[]:=List.ne_nil_of_mem ht
  obtain ⟨l0,s,rfl⟩:=z29 hne
  obtain ⟨h1,h2,h3,h4⟩:=h.front
  rw [z2k]
  have hsr:=z38 h2
  have hlast:s.base<s.reach:=by
   have hr2:z3r seg (l0++[s]) ((zt (zp (l0++[s])) bs).2.flatMap frL).length=false:=by simpa using hr
   unfold z3r at hr2
   rw [z1g] at hr2
   simp only [Bool.or_eq_false_iff,decide_eq_false_iff_not] at hr2
   have hbs:s.bs≠[]:=by rintro hbs;rw [hbs] at hr2;exact hr2.1 rfl
   have:=hsr.2.2.2.2 hbs
   omega
  rcases List.mem_append.1 ht with ht|ht
  ·have:=h4 t ht;omega
  ·simp only [List.mem_cons,List.not_mem_nil,or_false] at ht
   subst ht
   exact ⟨Int.le_refl _,hlast⟩
theorem zfl {l:List SegA} (h:z09 0 l) (hn:zp l<=1099511627776):z09 0 (z3j l).2:=by
 unfold z3j
 split
 ·exact h
 rename_i hl
 have hne:l≠[]:=by rintro rfl;exact hl rfl
 have hx:=h.next (Int.le_refl 0)
 obtain ⟨l0,s,rfl⟩:=z29 hne
 obtain ⟨h1,h2,h3,h4⟩:=h.front
 have hsr:=z38 h2
 rw [zdv] at hl
 have hbs:s.bs≠[]:=by rintro hbs;rw [hbs] at hl;exact hl rfl
 have hlt:=hsr.2.2.2.2 hbs
 refine h.snoc (s:=⟨zp (l0++[s]),0,[]⟩) ⟨⟨hx.1,hn⟩,.inl rfl,trivial⟩ hx.1 λt ht=>?_
 show t.reach<=zp (l0++[s])/\t.base<zp (l0++[s])
 rw [z2k]
 rcases List.mem_append.1 ht with ht|ht
 ·have:=h4 t ht;omega
 ·simp only [List.mem_cons,List.not_mem_nil,or_false] at ht
  subst ht
  omega
theorem zph (pre:ByteArray) (seg:Int) (l:List SegA) (D:DiskA) (bs:List BatM):((z0s pre seg l D bs).1=(z0w seg l bs).1/\(z0s pre seg l D bs).2.1=(z0w seg l bs).2)\/((z0s pre seg l D bs).1.1=0/\(z0s pre seg l D bs).1.2≠0/\(z0s pre seg l D bs).2.1=l/\(z0w seg l bs).1.2=0):=by
 unfold z0s z0w
 split
 ·exact .inl ⟨rfl,rfl⟩
 split
 ·exact .inl ⟨rfl,rfl⟩
 split
 ·split
  ·rename_i h;exact .inr ⟨rfl,h,rfl,rfl⟩
  ·exact .inl ⟨rfl,rfl⟩
 ·split
  ·rename_i h;exact .inr ⟨rfl,h,rfl,rfl⟩
  split
  ·rename_i h;exact .inr ⟨rfl,h,rfl,rfl⟩
  ·exact .inl ⟨rfl,rfl⟩
theorem zib {pre:ByteArray} {seg:Int} {l:List SegA} {D:DiskA} {bs:List BatM} (h:z09 0 l):z09 0 (z0s pre seg l D bs).2.1:=by
 rcases zph pre seg l D bs with ⟨-,h2⟩|⟨-,-,h2,-⟩
 ·rw [h2];exact z7z h
 ·rw [h2];exact h
section
variable {w:World} {l r:List HP} {d:Nat} {D:DiskA}
theorem z01k (n:ByteArray) (p:List UInt8 × Nat) (hfd:z03 D.fs n=some p) [hf:Fo l dk d D r] (hs:Sat w l):Ret P F.a8 #[.pointer (some ⟨d,0,none⟩),.string n] w λvs w'=>∃ z:Sl,vs=[z.v,.int .i64 0]/\Sat w' (slc T.a39 1 z (p.1.flatMap zh)::dk d D::r):=by
 obtain ⟨m_,FS_,-,hokD,-⟩:=z2m (hs.perm hf.perm)
 refine (zkp (d:=d) (A:=D) n hs).mono λvs w' h=>?_
 rcases h with ⟨f,hff,hfn,x,rfl,hs⟩|⟨hno,rfl,hs⟩
 ·have hfd2:z03 D.fs f.name=some (f.b,f.kept):=z6c (z23 hokD.sorted) hff
  rw [hfn,hfd] at hfd2
  simp only [Option.some.injEq] at hfd2
  rw [hfd2]
  exact ⟨x,rfl,hs⟩
 ·rw [z8j.2 hno] at hfd;cases hfd
end
section
variable {w:World} {l r:List HP} {b:BatM}
theorem zau (n lo hi:Int) (hs:Sat w l):Ret P F.a127 #[.int .i64 n,.int .i64 lo,.int .i64 hi] w λvs w'=>vs=[.bool (!decide (lo<=n/\n<=hi))]/\Sat w' l :=
 zlv n lo hi <| by
  unfold zxd
  refine wp_lt ?_
  refine ⟨rfl,?_,hs⟩
  congr 2
  rw [Bool.eq_iff_iff]
  simp only [Bool.or_eq_true,decide_eq_true_eq,Bool.not_eq_true',decide_eq_false_iff_not]
  omega
theorem z7m (b:BatM) [hb:FocR l b.x 4 (b.rs.flatMap zw)] (hs:Sat w l):Ret P F.a125 #[.agg (zi b).toArray] w λvs w'=>vs=[.int .i64 (z00 b)]/\Sat w' l :=
 zlf b.base b.pid b.epoch b.seq b.kind b.time b.x <| by
  unfold zx1 z00
  have hl:=hs.slen b.x (xs:=b.rs) (enc:=zw)
  refine z02 hs λa0 w' hs=>?_
  refine zr hs ?_
  refine zb (z7i b hs) λ_ _ hs=>?_
  obtain ⟨rfl,hs⟩:=hs
  refine zd ?_
  refine zf (λh=>?_) λh=>?_
  ·rw [if_pos h];exact ⟨rfl,rfl,hs.tail⟩
  ·rw [if_neg h]
   refine za hs ?_
   refine wp_lt ?_
   rw [hl]
   exact ⟨rfl,rfl,hs.tail⟩
theorem zbh (b:BatM) [hb:FocR l b.x 4 (b.rs.flatMap zw)] (hs:Sat w l):Ret P F.a126 #[.agg (zi b).toArray] w λvs w'=>vs=[.int .i64 (z01 b)]/\Sat w' l :=
 zml b.base b.pid b.epoch b.seq b.kind b.time b.x <| by
  unfold zx8 z01
  have hl:=hs.slen b.x (xs:=b.rs) (enc:=zw)
  refine z02 hs λa0 w' hs=>?_
  refine zn (λv w'=>v=(decide (¬ z4e b),())/\Sat w' (pt a0 (.cells #[.int .i64 b.base,.int .i64 b.pid,.int .i64 b.epoch,.int .i64 b.seq,.int .i64 b.kind,.int .i64 b.time,.slice b.x.a b.x.len b.x.cap] T.a1)::l)) ?_ ?_
  ·have hno:∀ {w'},¬ z4e b->Sat w' (pt a0 (.cells #[.int .i64 b.base,.int .i64 b.pid,.int .i64 b.epoch,.int .i64 b.seq,.int .i64 b.kind,.int .i64 b.time,.slice b.x.a b.x.len b.x.cap] T.a1)::l)->((true,()):Bool × Unit)=(decide (¬ z4e b),())/\Sat w' (pt a0 (.cells #[.int .i64 b.base,.int .i64 b.pid,.int .i64 b.epoch,.int .i64 b.seq,.int .i64 b.kind,.int .i64 b.time,.slice b.x.a b.x.len b.x.cap] T.a1)::l):=λh hs=>⟨by rw [decide_eq_true h],hs⟩
   refine za hs ?_
   refine zb (zau b.kind 0 3 hs) λ_ _ hs=>?_
   obtain ⟨rfl,hs⟩:=hs
   refine zd ?_
   refine za hs ?_
   refine zf (λh1=>?_) λh1=>?_
   ·exact zg (hno (λh=>h1 h.1) hs)
   refine zb (zau b.base 0 1099511627776 hs) λ_ _ hs=>?_
   obtain ⟨rfl,hs⟩:=hs
   refine zd ?_
   refine za hs ?_
   refine zf (λh2=>?_) λh2=>?_
   ·exact zg (hno (λh=>h2 h.2.1) hs)
   refine zb (zau b.pid 0 1048576 hs) λ_ _ hs=>?_
   obtain ⟨rfl,hs⟩:=hs
   refine zd ?_
   refine za hs ?_
   refine zf (λh3=>?_) λh3=>?_
   ·exact zg (hno (λh=>h3 h.2.2.1) hs)
   refine zb (zau b.epoch 0 32767 hs) λ_ _ hs=>?_
   obtain ⟨rfl,hs⟩:=hs
   refine zd ?_
   refine za hs ?_
   refine zf (λh4=>?_) λh4=>?_
   ·exact zg (hno (λh=>h4 h.2.2.2.1) hs)
   refine zb (zau b.seq 0 2147483647 hs) λ_ _ hs=>?_
   obtain ⟨rfl,hs⟩:=hs
   refine zd ?_
   refine za hs ?_
   refine zf (λh5=>?_) λh5=>?_
   ·exact zg (hno (λh=>h5 h.2.2.2.2.1) hs)
   refine zb (zau b.time 0 1099511627776 hs) λ_ _ hs=>?_
   obtain ⟨rfl,hs⟩:=hs
   refine zd ?_
   refine zg ⟨?_,hs⟩
   have:z4e b↔(0<=b.time/\b.time<=1099511627776):=⟨λh=>h.2.2.2.2.2,λh=>⟨Decidable.not_not.1 h1,Decidable.not_not.1 h2,Decidable.not_not.1 h3,Decidable.not_not.1 h4,Decidable.not_not.1 h5,h⟩⟩
   rw [decide_not,decide_eq_decide.2 this]
  clear hs
  rintro _ w ⟨rfl,hs⟩
  refine zl ?_
  refine zf (λh1=>?_) λh1=>?_
  ·rw [if_pos (.inl h1)];exact ⟨rfl,rfl,hs.tail⟩
  have hnum:z4e b:=Decidable.not_not.1 h1
  refine za hs ?_
  refine za hs ?_
  refine za hs ?_
  refine za hs ?_
  refine zf (λh2=>?_) λh2=>?_
  ·rw [if_pos (.inr λh=>h.1 ⟨h2.1,or_assoc.1 h2.2⟩)];exact ⟨rfl,rfl,hs.tail⟩
  have h2:¬ (b.pid=0/\(b.kind≠0\/b.epoch≠0\/b.seq≠0)):=λh=>h2 ⟨h.1,or_assoc.2 h.2⟩
  refine zn (λv w'=>v=(decide (¬ z43 b),())/\Sat w' (pt a0 (.cells #[.int .i64 b.base,.int .i64 b.pid,.int .i64 b.epoch,.int .i64 b.seq,.int .i64 b.kind,.int .i64 b.time,.slice b.x.a b.x.len b.x.cap] T.a1)::l)) ?_ ?_
  ·refine z0a hs λw' hs=>?_
   refine zr hs ?_
   refine z1e hs ?_
   refine zb (z7i b hs) λ_ w' hs=>?_
   obtain ⟨rfl,hs⟩:=hs
   refine zd ?_ ⟨trivial,λ_=>z0i hs⟩
   refine zr hs ?_
   refine zj ?_
   refine zf (λh3=>?_) λh3=>?_
   ·refine zj ?_
    refine zg ⟨?_,hs⟩
    rw [decide_eq_true]
    rintro ⟨-,h4⟩
    apply h3
    rw [Bool.eq_iff_iff,beq_iff_eq,hl]
    by_cases hm:z0x b=true
    ·rw [if_pos hm] at h4;simp [hm,h4.2]
    ·rw [if_neg hm] at h4;simp [hm];intro h5;rw [h5] at h4;simp at h4
   have h3:z0x b=true↔b.rs.length=0:=by
    have:=Decidable.not_not.1 h3
    rw [Bool.eq_iff_iff,beq_iff_eq,hl] at this
    rw [this];omega
   refine zb (z7i b hs) λ_ _ hs=>?_
   obtain ⟨rfl,hs⟩:=hs
   refine zd ?_
   refine za hs ?_
   refine zj ?_
   refine zg ⟨?_,hs⟩
   have:¬ z43 b↔(z0x b=true/\b.seq≠0):=by
    unfold z43
    by_cases hm:z0x b=true
    ·rw [if_pos hm]
     have:=h3.1 hm
     constructor
     ·exact λh=>⟨hm,λh5=>h ⟨h2,h5,this⟩⟩
     ·exact λh h5=>h.2 h5.2.1
    ·rw [if_neg hm]
     have:0<b.rs.length:=Nat.pos_of_ne_zero λh=>hm (h3.2 h)
     constructor
     ·exact λh=>absurd ⟨h2,this⟩ h
     ·exact λh=>absurd h.1 hm
   rw [decide_eq_decide.2 this,Bool.decide_and]
   cases z0x b <;> simp [bne]
   rfl
  clear hs
  rintro _ w ⟨rfl,hs⟩
  refine zl ?_
  refine zf (λh3=>?_) λh3=>?_
  ·rw [if_pos (.inr h3)];exact ⟨rfl,rfl,hs.tail⟩
  have hfit:z43 b:=Decidable.not_not.1 h3
  rw [if_neg (λh=>h.elim h1 h3)]
  refine za hs ?_
  refine zf (λh4=>?_) λh4=>?_
  ·rw [if_pos (by omega)];exact ⟨rfl,rfl,hs.tail⟩
  rw [if_neg (by omega)]
  refine za hs ?_
  refine zn (λv w'=>z5i b.rs=0/\Sat w' (pt a0 (.cells #[.int .i64 b.base,.int .i64 b.pid,.int .i64 b.epoch,.int .i64 b.seq,.int .i64 b.kind,.int .i64 b.time,.slice b.x.a b.x.len b.x.cap] T.a1)::l)) ?_ ?_
  ·refine z06 (λk v w=>∃ i:Nat,v=((i:Int),())/\i<=b.rs.length/\b.rs.length-i=k/\z5i (b.rs.take i)=0/\Sat w (pt a0 (.cells #[.int .i64 b.base,.int .i64 b.pid,.int .i64 b.epoch,.int .i64 b.seq,.int .i64 b.kind,.int .i64 b.time,.slice b.x.a b.x.len b.x.cap] T.a1)::l)) b.rs.length ⟨0,rfl,by omega,rfl,rfl,hs⟩ ?_
   clear hs
   rintro k _ w ⟨i,rfl,hi,hk,hbad,hs⟩
   refine zl ?_
   refine zf (λhc=>?_) λhc=>?_
   rotate_left
   ·refine zk (zg ⟨?_,hs⟩)
    rwa [List.take_of_length_le (by omega)] at hbad
   have hil:i<b.rs.length:=by omega
   have hbt:=zct b.rs i hil hbad
   have hbs':=zc4 b.rs i hil hbad
   refine z1n hs i hil ?_
   refine zv hs λc w' hs=>?_
   refine zx hs λw' hs=>?_
   refine za hs ?_
   refine za hs ?_
   refine zf (λh5=>?_) λh5=>?_
   ·have e:z2c b.rs[i]=7:=by unfold z2c;rw [if_pos (by omega)]
    rw [e] at hbt
    have:=hbt (by decide)
    rw [if_pos (by rw [this];decide),this]
    refine zk (zk ?_)
    exact ⟨rfl,rfl,hs.tail.tail⟩
   refine za hs ?_
   refine zb (zau b.rs[i].time 0 1099511627776 hs) λ_ _ hs=>?_
   obtain ⟨rfl,hs⟩:=hs
   refine zd ?_
   refine za hs ?_
   refine za hs ?_
   refine zf (λh6=>?_) λh6=>?_
   ·have e:z2c b.rs[i]=2:=by
     unfold z2c
     rw [if_neg (by omega),if_pos]
     rcases h6 with h6|⟨h6,h7⟩
     ·exact .inl h6
     ·exact .inr ⟨h6,by omega⟩
    rw [e] at hbt
    have:=hbt (by decide)
    rw [if_pos (by rw [this];decide),this]
    refine zk (zk ?_)
    exact ⟨rfl,rfl,hs.tail.tail⟩
   ·have e:z2c b.rs[i]=0:=by
     unfold z2c
     rw [if_neg (by omega),if_neg]
     rintro (h7|⟨h7,h8⟩)
     ·exact h6 (.inl h7)
     ·exact h6 (.inr ⟨h7,by omega⟩)
    refine z4x (us':=[.int .i64 ((i+1:Nat):Int)]) (by (try simp (disch:=omega) only [w64]);first|rfl|(congr;omega)) ?_
    refine z0l (b.rs.length-(i+1)) ?_
    exact ⟨i+1,rfl,by omega,rfl,hbs' e,hs.sub⟩
  clear hs
  rintro _ w ⟨hbad,hs⟩
  refine zl ?_
  rw [if_neg (by rw [hbad];simp)]
  have hsp:1<=z00 b/\z00 b<=64:=by
   unfold z00
   have h3:=hfit.2
   split
   ·omega
   ·rename_i hm
    rw [if_neg hm] at h3
    omega
  obtain ⟨-,hba,-,-,hse,-⟩:=hnum
  refine z0a hs λw' hs=>?_
  refine z1e hs ?_
  refine zr hs ?_
  refine zb (z7m b hs) λ_ w' hs=>?_
  obtain ⟨rfl,hs⟩:=hs
  refine zd ?_ ⟨trivial,λ_=>z0i hs⟩
  refine zj ?_
  rw [w64 (x:=b.base+z00 b) (by omega) (by omega),w64 (x:=b.base+z00 b-1) (by omega) (by omega)]
  refine zf (λh5=>?_) λh5=>?_
  ·rw [if_pos (.inl (by omega))];exact ⟨rfl,rfl,hs.tail⟩
  refine zn (λv w'=>v=(decide (b.pid>0/\z0x b=false/\b.seq>2147483647-(z00 b-1)),())/\Sat w' l) ?_ ?_
  ·refine za hs ?_
   refine zr hs ?_
   refine zf (λh6=>?_) λh6=>?_
   rotate_left
   ·exact zg ⟨by rw [decide_eq_false (λh=>h6 h.1)],hs.tail⟩
   refine zb (z7i b hs) λ_ _ hs=>?_
   obtain ⟨rfl,hs⟩:=hs
   refine zd ?_
   refine za hs ?_
   refine za hs ?_
   rw [w64 (x:=b.seq+((b.x.len:Nat):Int)) (by omega) (by omega),w64 (x:=b.seq+((b.x.len:Nat):Int)-1) (by omega) (by omega)]
   refine zg ⟨?_,hs.tail⟩
   have:(b.pid>0/\z0x b=false/\b.seq>2147483647-(z00 b-1))↔(z0x b=false/\b.seq+((b.x.len:Nat):Int)-1>2147483647):=by
    constructor
    ·rintro ⟨-,h7,h8⟩
     refine ⟨h7,?_⟩
     unfold z00 at h8
     rw [if_neg (by rw [h7];simp)] at h8
     omega
    ·rintro ⟨h7,h8⟩
     refine ⟨h6,h7,?_⟩
     unfold z00
     rw [if_neg (by rw [h7];simp)]
     omega
   rw [decide_eq_decide.2 this,Bool.decide_and]
   cases z0x b <;> rfl
  clear hs
  rintro _ w ⟨rfl,hs⟩
  refine zl ?_
  refine zf (λh6=>?_) λh6=>?_
  ·rw [if_pos (.inr h6)];exact ⟨rfl,rfl,hs⟩
  ·rw [if_neg (λh=>h.elim (λh=>h5 (by omega)) h6)];exact ⟨rfl,rfl,hs⟩
end
structure SegR where
 base:Int
 fin:Int
 x:Sl
 bs:List BatM
structure RefM where
 seg:Int
 gap:Int
 SR:List SegR
def SegR.p (s:SegR):SegA:=⟨s.base,s.fin,s.bs.map BatM.p⟩
def RefM.l (R:RefM):List SegA:=R.SR.map SegR.p
def RefM.bs (R:RefM):List BatM:=R.SR.flatMap SegR.bs
def z07 (s:SegR):List Value:=[.int .i64 s.base,.int .i64 s.fin,.slice s.x.a s.x.len s.x.cap]
instance:EncA z07 [.int .i64,.int .i64,.slc] (λs=>(s.base,s.fin,s.x,())):=⟨λ_=>rfl⟩
instance:EncN z07 3:=⟨λ_=>rfl,by decide,by simp [z07,Value.oneCell']⟩
instance:EncF z07 0 (.int .i64) (λs=>s.base):=⟨λ_=>rfl⟩
def z0u (s:SegR):HP:=slc T.a1 7 s.x (s.bs.flatMap zi)
def rfQ (a:Nat) (z:Sl) (R:RefM):HP:=HP.star (pt a (.cells #[.int .i64 R.seg,.int .i64 R.gap,.slice z.a z.len z.cap] T.a37)) (HP.star (slc T.a38 3 z (R.SR.flatMap z07)) (HP.all (R.SR.map z0u)))
def rfP (a:Nat) (R:RefM):HP:=HP.ex λz:Sl=>rfQ a z R
section
variable {w:World} {l r:List HP} {a:Nat} {R:RefM}
theorem z5b (hs:Sat w (rfP a R::l)):∃ z:Sl,Sat w (pt a (.cells #[.int .i64 R.seg,.int .i64 R.gap,.slice z.a z.len z.cap] T.a37)::slc T.a38 3 z (R.SR.flatMap z07)::HP.all (R.SR.map z0u)::l):=by
 obtain ⟨z,hs⟩:=hs.ex
 have hs:=hs.star
 exact ⟨z,((hs.pick [1]).star).pick [2]⟩
theorem z2d (R:RefM) {z:Sl} (hs:Sat w (pt a (.cells #[.int .i64 R.seg,.int .i64 R.gap,.slice z.a z.len z.cap] T.a37)::slc T.a38 3 z (R.SR.flatMap z07)::HP.all (R.SR.map z0u)::l)):Sat w (rfP a R::l) :=
 .ex_mk z (.star_mk (((hs.pick [1,1]).star_mk).pick [1]))
theorem z6n {SR:List SegR} {s:SegR} (hm:s ∈ SR) [hf:Foc l (HP.all (SR.map z0u)) r]:FocR l s.x 7 (s.bs.flatMap zi):=⟨λw hs=>by
 obtain ⟨L,hs⟩:=(hs.perm hf.perm).all_mem hm
 exact Sat.rd hs⟩
theorem z8m:R.l.length=R.SR.length:=List.length_map ..
theorem z81:z08 R.l=R.bs.map BatM.p:=by
 unfold z08 RefM.l RefM.bs
 rw [List.flatMap_map,List.map_flatMap]
 rfl
theorem zba [hf:Fo l rfP a R r] (hs:Sat w l):Ret P F.a137 #[.pointer (some ⟨a,0,none⟩)] w λvs w'=>vs=[.int .i64 (zo R.l)]/\Sat w' (rfP a R::r) :=
 zlb _ <| by
  unfold zwm
  obtain ⟨z,hs⟩:=z5b (hs.perm hf.perm)
  have hl:=hs.slen z (xs:=R.SR) (enc:=z07)
  refine zm ?_
  refine za hs ?_
  refine zf (λh=>?_) λh=>?_
  ·have h0:R.SR=[]:=List.length_eq_zero_iff.1 (by omega)
   refine ⟨rfl,?_,z2d R hs⟩
   unfold RefM.l;rw [h0];rfl
  have h0:0<R.SR.length:=by omega
  refine zm ?_
  refine za hs ?_
  refine za5 hs (xs:=R.SR) (enc:=z07) 0 h0 ?_
  refine wp_lt ?_
  refine ⟨rfl,?_,z2d R hs⟩
  obtain ⟨x,xs,hx⟩:=List.exists_cons_of_length_pos h0
  simp only [RefM.l,hx,List.map_cons,zo,List.getElem_cons_zero]
  rfl
theorem z004 (bs:List BatM):z05 (bs.map BatM.p)=z05 bs:=by
 unfold z05
 rw [z5o]
 cases bs.getLast? <;> rfl
theorem zzy (s:SegR):s.p.reach=max (max s.base s.fin) (z05 s.bs):=by
 unfold SegA.reach SegR.p
 simp only [z004]
theorem zjd (s:SegR) [hx:FocR l s.x 7 (s.bs.flatMap zi)] (hv:∀ b ∈ s.bs,z01 b=0) (hbs:∀ b ∈ s.bs,FocR l b.x 4 (b.rs.flatMap zw)) (hb:s.bs.length<=1000000000) (hbf : -9223372036854775808<=s.base/\s.base<9223372036854775808) (hn0:s.bs=[]->0<=s.base) (hs:Sat w l) :
  Ret P F.a144 #[.agg (z07 s).toArray] w λvs w'=>vs=[.int .i64 s.p.reach]/\Sat w' l :=
 zl2 s.base s.fin s.x <| by
  unfold zxk
  have hl:=hs.slen s.x (xs:=s.bs) (enc:=zi)
  rw [zzy]
  refine z02 hs λa0 w' hs=>?_
  refine za hs ?_
  refine wp_lt ?_
  refine za hs ?_
  refine zn (λq w'=>q=(max s.base s.fin,())/\Sat w' (pt a0 (.cells [.int .i64 s.base,.int .i64 s.fin,.slice s.x.a s.x.len s.x.cap].toArray T.a38)::l)) ?_ ?_
  ·refine zf (λh=>?_) λh=>?_
   ·refine za hs ?_
    refine wp_lt ?_
    exact zg ⟨by rw [Int.max_def,if_pos (by omega)],hs⟩
   ·have e:max s.base s.fin=s.base:=by omega
    exact zg ⟨by rw [e],hs⟩
  clear hs
  rintro _ w2 ⟨rfl,hs⟩
  refine za hs ?_
  refine zn (λq w'=>q=(max (max s.base s.fin) (z05 s.bs),())/\Sat w' l) ?_ ?_
  rotate_left
  ·rintro _ w3 ⟨rfl,hs⟩
   refine wp_lt ?_
   exact ⟨rfl,rfl,hs⟩
  refine zf (λh=>?_) λh=>?_
  rotate_left
  ·have h0:s.bs=[]:=List.length_eq_zero_iff.1 (by omega)
   refine zg ⟨?_,hs.tail⟩
   have:=hn0 h0
   rw [h0]
   show (max s.base s.fin,())=(max (max s.base s.fin) 0,())
   congr 1;omega
  have hp:0<s.bs.length:=by omega
  have hil:s.bs.length-1<s.bs.length:=by omega
  have hnx:z05 s.bs=s.bs[s.bs.length-1].base+z00 s.bs[s.bs.length-1]:=by
   unfold z05
   rw [List.getLast?_eq_getElem?,List.getElem?_eq_getElem hil]
  obtain ⟨s1,s2,⟨-,hba,-⟩,-,s3⟩:=z1d _ (hv _ (List.getElem_mem hil))
  have hR:=hbs _ (List.getElem_mem hil)
  refine za hs ?_
  refine za hs ?_
  rw [w64 (by omega) (by omega)]
  refine z1n hs (xs:=s.bs) (enc:=zi) (s.bs.length-1) hil ?_
  generalize s.bs[s.bs.length-1]=b at *
  refine zv hs λc w' hs=>?_
  refine zx hs λw' hs=>?_
  refine z0a hs λw' hs=>?_
  refine z1e hs ?_
  refine zr hs ?_
  refine zb (z7m b hs) λ_ w' hs=>?_
  obtain ⟨rfl,hs⟩:=hs
  refine zd ?_ (by first|trivial|(repeat (first|exact trivial|exact λ_=>z0i hs|exact λ_=>z0n hs|refine And.intro ?_ ?_)))
  refine zj ?_
  rw [w64 (by omega) (by omega)]
  refine z4l ?_
  refine zf (λh2=>?_) λh2=>?_
  ·refine z0a hs λw' hs=>?_
   refine z1e hs ?_
   refine zr hs ?_
   refine zb (z7m b hs) λ_ w' hs=>?_
   obtain ⟨rfl,hs⟩:=hs
   refine zd ?_ (by first|trivial|(repeat (first|exact trivial|exact λ_=>z0i hs|exact λ_=>z0n hs|refine And.intro ?_ ?_)))
   rw [w64 (by omega) (by omega)]
   refine wp_lt ?_
   refine zj ?_
   refine z3t ?_
   refine zg ⟨?_,hs.tail.tail⟩
   rw [hnx,Int.max_def (max s.base s.fin),if_pos (by omega)]
  ·refine z3t ?_
   have e:max (max s.base s.fin) (z05 s.bs)=max s.base s.fin:=by omega
   exact zg ⟨by rw [e],hs.tail.tail⟩
class okR (R:RefM) (l:List HP):Prop where
 segs:z09 0 R.l
 rd:∀ b ∈ R.bs,FocR l b.x 4 (b.rs.flatMap zw)
 len:R.SR.length<=1000000
 all:R.bs.length<=1000000
theorem okR.valid {L:List HP} (h:okR R L):∀ s ∈ R.SR,SegOk s.p/\(∀ b ∈ s.bs,z01 b=0/\FocR L b.x 4 (b.rs.flatMap zw))/\s.bs.length<=1000000:=λs hs=>by
 have h1:=(h.segs.mem s.p (List.mem_map.2 ⟨s,hs,rfl⟩)).1
 refine ⟨h1,λb hb=>⟨(h1.bs.valid b.p (List.mem_map.2 ⟨b,hb,rfl⟩)).1,h.rd b (List.mem_flatMap.2 ⟨s,hs,hb⟩)⟩,?_⟩
 refine Nat.le_trans ?_ h.all
 obtain ⟨u,v,huv⟩:=List.append_of_mem hs
 unfold RefM.bs
 rw [huv]
 simp only [List.flatMap_append,List.flatMap_cons,List.length_append]
 omega
instance okR.cons {H:HP} {L:List HP} [h:okR R L]:okR R (H::L):=⟨h.segs,λb hb=>by have:=h.rd b hb;infer_instance,h.len,h.all⟩
theorem zn6 [hf:Fo l rfP a R r] [hok:okR R r] (hs:Sat w l):Ret P F.a138 #[.pointer (some ⟨a,0,none⟩)] w λvs w'=>vs=[.int .i64 (zp R.l)]/\Sat w' (rfP a R::r) :=
 zdu _ <| by
  unfold zp8
  obtain ⟨z,hs⟩:=z5b (hs.perm hf.perm)
  have hl:=hs.slen z (xs:=R.SR) (enc:=z07)
  have hln:=hok.len
  refine zm ?_
  refine za hs ?_
  refine zf (λh=>?_) λh=>?_
  ·have h0:R.SR=[]:=List.length_eq_zero_iff.1 (by omega)
   refine ⟨rfl,?_,z2d R hs⟩
   unfold RefM.l;rw [h0];rfl
  have hil:R.SR.length-1<R.SR.length:=by omega
  refine z0a hs λw' hs=>?_
  refine zm ?_
  refine za hs ?_
  refine zm ?_
  refine za hs ?_
  rw [w64 (by omega) (by omega)]
  refine z1n hs (xs:=R.SR) (enc:=z07) (R.SR.length-1) hil ?_
  obtain ⟨v1,v2,v3⟩:=hok.valid _ (List.getElem_mem hil)
  have hn:zp R.l=R.SR[R.SR.length-1].p.reach:=by
   unfold zp RefM.l
   rw [z5o,List.getLast?_eq_getElem?,List.getElem?_eq_getElem hil]
   rfl
  rw [hn]
  have hR:FocR (HP.all (R.SR.map z0u)::r) R.SR[R.SR.length-1].x 7 (R.SR[R.SR.length-1].bs.flatMap zi):=z6n (List.getElem_mem hil)
  have hb:=v1.base
  have hb:0<=R.SR[R.SR.length-1].base/\R.SR[R.SR.length-1].base<=1099511627776:=hb
  refine zb (zjd R.SR[R.SR.length-1] (λb hb=>(v2 b hb).1) (λb hb=>by have:=(v2 b hb).2;infer_instance) (by omega) (by omega) (λ_=>hb.1) hs) λ_ w' hs=>?_
  obtain ⟨rfl,hs⟩:=hs
  refine zd ?_
  refine wp_lt ?_
  refine zj ?_
  exact ⟨rfl,rfl,z2d R hs⟩
theorem zsl [hf:Fo l rfP a R r] [hok:okR R r] (hs:Sat w l):Ret P F.a135 #[.pointer (some ⟨a,0,none⟩)] w λvs w'=>∃ y:Sl,vs=[y.v]/\Sat w' (slc T.a1 7 y (R.bs.flatMap zi)::rfP a R::r) :=
 zlk _ <| by
  unfold zxy
  obtain ⟨z,hs⟩:=z5b (hs.perm hf.perm)
  have hl:=hs.slen z (xs:=R.SR) (enc:=z07)
  have hln:=hok.len
  refine zm ?_
  refine za hs ?_
  refine zn (λq w'=>∃ y:Sl,q=(y,())/\Sat w' (slc T.a1 7 y (R.bs.flatMap zi)::rfP a R::r)) ?_ ?_
  rotate_left
  ·rintro _ w2 ⟨y,rfl,hs⟩
   exact ⟨rfl,y,rfl,hs⟩
  refine z06 (λm v w=>∃ (i:Nat) (y:Sl),v=(y,((i:Int),()))/\i<=R.SR.length/\R.SR.length-i=m/\Sat w (slc T.a1 7 y (((R.SR.take i).flatMap SegR.bs).flatMap zi)::pt a (.cells #[.int .i64 R.seg,.int .i64 R.gap,.slice z.a z.len z.cap] T.a37)::slc T.a38 3 z (R.SR.flatMap z07)::HP.all (R.SR.map z0u)::r)) R.SR.length ⟨0,⟨none,0,0⟩,rfl,by omega,rfl,hs.slc_nil⟩ ?_
  clear hs
  rintro m _ w ⟨i,y,rfl,hi,hm,hs⟩
  refine zl ?_
  refine zf (λhc=>?_) λhc=>?_
  rotate_left
  ·refine zk (zg ⟨y,rfl,?_⟩)
   rw [List.take_of_length_le (by omega)] at hs
   exact (z2d R (hs.pick [1,1,1])).pick [1]
  have hil:i<R.SR.length:=by omega
  refine z1n hs (xs:=R.SR) (enc:=z07) i hil ?_
  refine zv hs λc w' hs=>?_
  refine zx hs λw' hs=>?_
  refine za hs ?_
  have hR:FocR (HP.all (R.SR.map z0u)::r) R.SR[i].x 7 (R.SR[i].bs.flatMap zi):=z6n (List.getElem_mem hil)
  have hbl:((R.SR.take i).flatMap SegR.bs).length+R.SR[i].bs.length<=1000000:=by
   refine Nat.le_trans ?_ hok.all
   unfold RefM.bs
   have e:R.SR=R.SR.take i++R.SR[i]::R.SR.drop (i+1):=by rw [<- List.drop_eq_getElem_cons hil,List.take_append_drop]
   have:=congrArg (λx:List SegR=>(x.flatMap SegR.bs).length) e
   simp only [List.flatMap_append,List.flatMap_cons,List.length_append] at this
   omega
  refine wp_app' (xs:=(R.SR.take i).flatMap SegR.bs) (ys:=R.SR[i].bs) (enc:=zi) hs λy' w' hs=>?_
  rw [wS (i:=i) (by omega)]
  refine z0l (R.SR.length-(i+1)) ⟨i+1,y',rfl,by omega,rfl,?_⟩
  have e:(R.SR.take (i+1)).flatMap SegR.bs=(R.SR.take i).flatMap SegR.bs++R.SR[i].bs:=by
   rw [List.take_succ_eq_append_getElem hil,List.flatMap_append];simp
  rw [e]
  exact hs.sub
theorem ze4 {b c:BatM} (h:b.p=c.p):b.base=c.base/\b.pid=c.pid/\b.epoch=c.epoch/\b.seq=c.seq/\b.kind=c.kind/\b.time=c.time/\b.rs=c.rs:=by
 unfold BatM.p at h
 simp only [BatM.mk.injEq] at h
 exact ⟨h.1,h.2.1,h.2.2.1,h.2.2.2.1,h.2.2.2.2.1,h.2.2.2.2.2.1,h.2.2.2.2.2.2.2⟩
theorem zyf (b c:BatM) (h:b.p=c.p) [hb:FocR l b.x 4 (b.rs.flatMap zw)] [hc:FocR l c.x 4 (c.rs.flatMap zw)] (hlen:b.rs.length<=1000000000) (hs:Sat w l):Ret P F.a123 #[.agg (zi b).toArray,.agg (zi c).toArray] w λvs w'=>vs=[.bool true]/\Sat w' l :=
 zls b.base b.pid b.epoch b.seq b.kind b.time b.x c.base c.pid c.epoch c.seq c.kind c.time c.x <| by
  unfold zwa
  obtain ⟨e1,e2,e3,e4,e5,e6,e7⟩:=ze4 h
  have hl1:=hs.slen b.x (xs:=b.rs) (enc:=zw)
  have hl2:=hs.slen c.x (xs:=c.rs) (enc:=zw)
  rw [<- e7] at hl2
  rw [<- e1,<- e2,<- e3,<- e4,<- e5,<- e6]
  have hc:FocR l c.x 4 (b.rs.flatMap zw):=by rw [e7];exact hc
  refine z02 hs λa0 w' hs=>?_
  refine z02 hs λa1 w' hs=>?_
  refine za hs ?_
  refine za hs ?_
  refine z0g ?_ (by omega)
  refine za hs ?_
  refine zn (λ_ w'=>Sat w' (pt a1 (.cells [.int .i64 b.base,.int .i64 b.pid,.int .i64 b.epoch,.int .i64 b.seq,.int .i64 b.kind,.int .i64 b.time,.slice c.x.a c.x.len c.x.cap].toArray T.a1)::pt a0 (.cells [.int .i64 b.base,.int .i64 b.pid,.int .i64 b.epoch,.int .i64 b.seq,.int .i64 b.kind,.int .i64 b.time,.slice b.x.a b.x.len b.x.cap].toArray T.a1)::l)) ?_ ?_
  ·refine z06 (λm v w=>∃ i:Nat,v=((i:Int),())/\i<=b.rs.length/\b.rs.length-i=m/\Sat w (pt a1 (.cells [.int .i64 b.base,.int .i64 b.pid,.int .i64 b.epoch,.int .i64 b.seq,.int .i64 b.kind,.int .i64 b.time,.slice c.x.a c.x.len c.x.cap].toArray T.a1)::pt a0 (.cells [.int .i64 b.base,.int .i64 b.pid,.int .i64 b.epoch,.int .i64 b.seq,.int .i64 b.kind,.int .i64 b.time,.slice b.x.a b.x.len b.x.cap].toArray T.a1)::l)) b.rs.length ⟨0,rfl,by omega,rfl,hs⟩ ?_
   clear hs
   rintro m _ w ⟨i,rfl,hi,hm,hs⟩
   refine zl ?_
   refine zf (λhcc=>?_) λhcc=>?_
   rotate_left
   ·exact zk (zg hs)
   have hil:i<b.rs.length:=by omega
   refine wp_lt ?_
   refine z0a hs λw' hs=>?_
   refine za hs ?_
   refine z1n hs (xs:=b.rs) (enc:=zw) i hil ?_
   refine za hs ?_
   refine z1n hs (xs:=b.rs) (enc:=zw) i hil ?_
   refine zj ?_
   refine z0g ?_ (by simp [zci])
   rw [wS (i:=i) (by omega)]
   exact z0l (b.rs.length-(i+1)) ⟨i+1,rfl,by omega,rfl,hs⟩
  clear hs
  rintro _ w hs
  refine zl ?_
  refine za hs ?_
  refine za hs ?_
  refine za hs ?_
  refine za hs ?_
  refine za hs ?_
  refine za hs ?_
  refine za hs ?_
  refine za hs ?_
  refine za hs ?_
  refine za hs ?_
  refine za hs ?_
  refine za hs ?_
  refine wp_lt ?_
  refine ⟨rfl,?_,hs.tail.tail⟩
  simp
theorem zez (x y:Sl) (bs cs:List BatM) (h:bs.map BatM.p=cs.map BatM.p) (hx:FocR l x 7 (bs.flatMap zi)) (hy:FocR l y 7 (cs.flatMap zi)) (hb:∀ b ∈ bs,FocR l b.x 4 (b.rs.flatMap zw)) (hc:∀ b ∈ cs,FocR l b.x 4 (b.rs.flatMap zw)) (hlen:bs.length<=1000000000) (hrl:∀ b ∈ bs,b.rs.length<=1000000000) (hs:Sat w l) :
  Ret P F.a124 #[x.v,y.v] w λvs w'=>vs=[.bool true]/\Sat w' l :=
 zlt x y <| by
  unfold zww
  have hl1:=hs.slen x (xs:=bs) (enc:=zi)
  have hl2:=hs.slen y (xs:=cs) (enc:=zi)
  have hll:bs.length=cs.length:=by have:=congrArg List.length h;simpa using this
  refine z0g ?_ (by omega)
  refine zn (λ_ w'=>Sat w' l) ?_ ?_
  rotate_left
  ·rintro _ w2 hs
   exact ⟨rfl,rfl,hs⟩
  refine z06 (λm v w=>∃ i:Nat,v=((i:Int),())/\i<=bs.length/\bs.length-i=m/\Sat w l) bs.length ⟨0,rfl,by omega,rfl,hs⟩ ?_
  clear hs
  rintro m _ w ⟨i,rfl,hi,hm,hs⟩
  refine zl ?_
  refine zf (λhcc=>?_) λhcc=>?_
  rotate_left
  ·exact zk (zg hs)
  have hil:i<bs.length:=by omega
  have hil2:i<cs.length:=by omega
  have hp:bs[i].p=cs[i].p:=by
   have:=List.getElem_of_eq h (i:=i) (by rw [List.length_map];exact hil)
   simpa using this
  have hr1:=hb _ (List.getElem_mem hil)
  have hr2:=hc _ (List.getElem_mem hil2)
  refine wp_lt ?_
  refine z0a hs λw' hs=>?_
  refine z1n hs (xs:=bs) (enc:=zi) i hil ?_
  refine z1n hs (xs:=cs) (enc:=zi) i hil2 ?_
  refine zb (zyf bs[i] cs[i] hp (hrl _ (List.getElem_mem hil)) hs) λ_ w' hs=>?_
  obtain ⟨rfl,hs⟩:=hs
  refine zd ?_
  refine zj ?_
  refine z0g ?_ (by simp)
  rw [wS (i:=i) (by omega)]
  exact z0l (bs.length-(i+1)) ⟨i+1,rfl,by omega,rfl,hs⟩
end
instance:EncF zw 0 .str (λr=>r.key):=⟨λ_=>rfl⟩
def zpu (rs:List RecM):ByteArray:=match rs.getLast? with
 | none=>⟨#[]⟩
 | some x=>x.key
theorem zm6 (time:Int) (rs:List RecM) (r:RecM):z2g time ⟨#[]⟩ (rs++[r])=z2g time ⟨#[]⟩ rs++z4j time (zpu rs) r:=zb0 time rs ⟨#[]⟩ r
section
variable {w:World} {l r:List HP}
theorem zo4 (t:ByteArray) (ht:t.size<=1000000000) (hs:Sat w l):Ret P F.a114 #[.string t] w λvs w'=>∃ z:Sl,vs=[z.v]/\Sat w' (slc T.a39 1 z ((uI (t.size:Nat)++bl t).flatMap zh)::l) :=
 zl9 t <| by
  unfold zwo
  refine zb (z6l ((t.size:Nat):Int) (by omega) hs) λ_ w' hs=>?_
  obtain ⟨x,rfl,hs⟩:=hs
  refine zd ?_
  have hl:=hs.slen x
  have hul:=z1a ((t.size:Nat):Int)
  refine ztp (t0:=t) (xs:=uI (t.size:Nat)) hs (λz w' hs=>?_) (by omega)
  exact ⟨rfl,z,rfl,hs⟩
theorem zyz (b:Bool) (hs:Sat w l):Ret P F.a112 #[.bool b] w λvs w'=>∃ z:Sl,vs=[z.v]/\Sat w' (slc T.a39 1 z ([z54 b].flatMap zh)::l) :=
 zmt b <| by
  unfold zxv
  refine zf (λh=>?_) λh=>?_
  ·subst h
   refine z1t hs (enc:=zh) (1:UInt8) λz w' hs=>?_
   exact ⟨rfl,z,rfl,hs⟩
  ·have h:b=false:=by simpa using h
   subst h
   refine z1t hs (enc:=zh) (0:UInt8) λz w' hs=>?_
   exact ⟨rfl,z,rfl,hs⟩
set_option maxHeartbeats 1000000 in
theorem zsi (b:BatM) [hb:FocR l b.x 4 (b.rs.flatMap zw)] (hs:Sat w l) :
  Ret P F.a119 #[.agg (zi b).toArray] w λvs w'=>(z01 b≠0/\vs=[.slice none 0 0,.int .i64 (z01 b)]/\Sat w' l)\/(z01 b=0/\∃ z:Sl,vs=[z.v,.int .i64 0]/\Sat w' (slc T.a39 1 z ((z2e b).flatMap zh)::l)) :=
 zn0 b.base b.pid b.epoch b.seq b.kind b.time b.x <| by
  unfold zxb
  have hlx:=hs.slen b.x (xs:=b.rs) (enc:=zw)
  refine z02 hs λa0 w' hs=>?_
  refine zr hs ?_
  refine zb (zbh b hs) λ_ w' hs=>?_
  obtain ⟨rfl,hs⟩:=hs
  refine zd ?_
  refine wp_lt ?_
  refine zf (λh=>?_) λh=>?_
  ·refine wp_lt ?_
   exact ⟨rfl,.inl ⟨h,rfl,hs.tail⟩⟩
  have hv:z01 b=0:=Decidable.not_not.1 h
  obtain ⟨-,-,⟨hk,hba,hpi,hep,hsq,htm⟩,hfit,-⟩:=z1d b hv
  obtain ⟨h64,hrs⟩:=z24 hv
  have ek:IntKind.wrap .u8 b.kind=(((UInt8.ofNat b.kind.toNat).toNat:Nat):Int):=by
   rw [wu8 (by omega) (by omega),UInt8.toNat_ofNat'];omega
  have hul1:=z1a b.base
  have hul2:=z1a b.pid
  have hul3:=z1a b.epoch
  have hul4:=z1a b.seq
  have hul5:=z1a b.time
  refine za hs ?_
  rw [ek]
  refine z6h hs (enc:=zh) [1,UInt8.ofNat b.kind.toNat] λz1 w' hs=>?_
  refine za hs ?_
  refine zb (z6l b.base (by omega) hs) λ_ w' hs=>?_
  obtain ⟨z2,rfl,hs⟩:=hs
  refine zd ?_
  refine wp_app' (xs:=[1,UInt8.ofNat b.kind.toNat]) (ys:=uI b.base) (enc:=zh) hs (λz3 w' hs=>?_) (by simp only [List.length_cons,List.length_nil];omega)
  refine za hs ?_
  refine zb (z6l b.pid (by omega) hs) λ_ w' hs=>?_
  obtain ⟨z4,rfl,hs⟩:=hs
  refine zd ?_
  refine wp_app' (xs:=[1,UInt8.ofNat b.kind.toNat]++uI b.base) (ys:=uI b.pid) (enc:=zh) hs (λz5 w' hs=>?_) (by simp only [List.length_append,List.length_cons,List.length_nil];omega)
  have hhd:[1,UInt8.ofNat b.kind.toNat]++uI b.base++uI b.pid=hdL b:=by unfold hdL;simp
  rw [hhd] at hs
  replace hs:Sat w' (slc T.a39 1 z5 ((hdL b).flatMap zh)::pt a0 (.cells (cB b) T.a1)::l):=hs.sub
  have hdl:(hdL b).length<=22:=by rw [<- hhd];simp only [List.length_append,List.length_cons,List.length_nil];omega
  refine za hs ?_
  refine zn (λq w'=>∃ z:Sl,q=(z,())/\Sat w' (slc T.a39 1 z ((hdL b++if b.pid>0 then uI b.epoch else []).flatMap zh)::pt a0 (.cells (cB b) T.a1)::l)) ?_ ?_
  ·refine zf (λh2=>?_) λh2=>?_
   ·refine za hs ?_
    refine zb (z6l b.epoch (by omega) hs) λ_ w' hs=>?_
    obtain ⟨z6,rfl,hs⟩:=hs
    refine zd ?_
    refine wp_app' (xs:=hdL b) (ys:=uI b.epoch) (enc:=zh) hs λz7 w' hs=>?_
    refine zg ⟨z7,rfl,?_⟩
    rw [if_pos h2]
    exact hs.sub
   ·refine zg ⟨z5,rfl,?_⟩
    rw [if_neg h2,List.append_nil]
    exact hs
  clear hs
  rintro _ w ⟨z8,rfl,hs⟩
  refine zl ?_
  refine zn (λq w'=>q=(decide (b.pid>0/\z0x b=false),())/\Sat w' (slc T.a39 1 z8 ((hdL b++if b.pid>0 then uI b.epoch else []).flatMap zh)::pt a0 (.cells (cB b) T.a1)::l)) ?_ ?_
  ·refine za hs ?_
   refine zr hs ?_
   refine zf (λh2=>?_) λh2=>?_
   ·refine zb (z7i b hs) λ_ w' hs=>?_
    obtain ⟨rfl,hs⟩:=hs
    refine zd ?_
    refine zg ⟨?_,hs⟩
    have e:decide (b.pid>0/\z0x b=false)=!z0x b:=by
     rw [Bool.eq_iff_iff,decide_eq_true_iff]
     simp [h2]
    rw [e]
   ·exact zg ⟨by rw [decide_eq_false λh=>h2 h.1],hs⟩
  clear hs
  rintro _ w ⟨rfl,hs⟩
  refine zl ?_
  have hml:(hdL b++z4i b).length<=42:=by
   unfold z4i
   rw [List.length_append]
   split
   ·split
    ·simp only [List.length_append,List.length_nil];omega
    ·simp only [List.length_append];omega
   ·simp only [List.length_nil];omega
  refine zn (λq w'=>∃ z:Sl,q=(z,())/\Sat w' (slc T.a39 1 z ((hdL b++z4i b).flatMap zh)::pt a0 (.cells (cB b) T.a1)::l)) ?_ ?_
  ·refine zf (λh2=>?_) λh2=>?_
   ·have h2:b.pid>0/\z0x b=false:=by simpa using h2
    refine za hs ?_
    refine zb (z6l b.seq (by omega) hs) λ_ w' hs=>?_
    obtain ⟨z6,rfl,hs⟩:=hs
    refine zd ?_
    rw [if_pos h2.1] at hs
    refine wp_app' (xs:=hdL b++uI b.epoch) (ys:=uI b.seq) (enc:=zh) hs (λz7 w' hs=>?_) (by rw [List.length_append];omega)
    refine zg ⟨z7,rfl,?_⟩
    have e:hdL b++z4i b=hdL b++uI b.epoch++uI b.seq:=by unfold z4i;rw [if_pos h2.1,h2.2,if_neg (by simp),List.append_assoc]
    rw [e]
    exact hs.sub
   ·have h2:¬ (b.pid>0/\z0x b=false):=by simpa using h2
    refine zg ⟨z8,rfl,?_⟩
    have e:z4i b=if b.pid>0 then uI b.epoch else []:=by
     unfold z4i
     split
     ·rename_i h3
      have hm:z0x b=true:=by
       cases hm:z0x b with
       | true=>rfl
       | false=>exact absurd ⟨h3,hm⟩ h2
      rw [hm,if_pos rfl,List.append_nil]
     ·rfl
    rw [e]
    exact hs
  clear hs
  rintro _ w ⟨z9,rfl,hs⟩
  refine zl ?_
  refine za hs ?_
  refine zb (z6l b.time (by omega) hs) λ_ w' hs=>?_
  obtain ⟨z3,rfl,hs⟩:=hs
  refine zd ?_
  refine wp_app' (xs:=hdL b++z4i b) (ys:=uI b.time) (enc:=zh) hs (λz4 w' hs=>?_) (by omega)
  refine zr hs ?_
  refine zb (z7i b hs) λ_ w' hs=>?_
  obtain ⟨rfl,hs⟩:=hs
  refine zd ?_
  refine zf (λh3=>?_) λh3=>?_
  ·refine ⟨rfl,.inr ⟨hv,z4,rfl,?_⟩⟩
   rw [zdb,h3,if_pos rfl,List.append_nil]
   exact hs.sub
  have h3:z0x b=false:=by simpa using h3
  have hcl:=z1a ((b.rs.length:Nat):Int)
  refine za hs ?_
  rw [hlx]
  refine zb (z6l ((b.rs.length:Nat):Int) (by omega) hs) λ_ w' hs=>?_
  obtain ⟨z5,rfl,hs⟩:=hs
  refine zd ?_
  generalize hX:hdL b++z4i b++uI b.time=X at hs
  have hXl:X.length<=60:=by rw [<- hX,List.length_append];omega
  refine wp_app' (xs:=X) (ys:=uI (b.rs.length:Nat)) (enc:=zh) hs (λz6 w' hs=>?_) (by omega)
  refine za hs ?_
  generalize hY:X++uI ((b.rs.length:Nat):Int)=Y at hs
  have hYl:Y.length<=80:=by rw [<- hY];simp only [List.length_append];omega
  have hfin:z2e b=Y++z2g b.time ⟨#[]⟩ b.rs:=by
   rw [zdb,hX,h3,if_neg (by simp),<- hY,List.append_assoc]
  refine zn (λq w'=>∃ z:Sl,q=(z,())/\Sat w' (slc T.a39 1 z ((z2e b).flatMap zh)::l)) ?_ ?_
  rotate_left
  ·rintro _ w' ⟨z,rfl,hs⟩
   exact ⟨rfl,.inr ⟨hv,z,rfl,hs⟩⟩
  have hrec:=znm hv
  refine z06 (λm v w=>∃ (i:Nat) (z:Sl),v=(z,((i:Int),()))/\i<=b.rs.length/\b.rs.length-i=m/\Sat w (slc T.a39 1 z ((Y++z2g b.time ⟨#[]⟩ (b.rs.take i)).flatMap zh)::pt a0 (.cells (cB b) T.a1)::l)) b.rs.length ⟨0,z6,rfl,by omega,rfl,by
   rw [List.take_zero]
   show Sat _ (slc T.a39 1 z6 ((Y++[]).flatMap zh)::_)
   rw [List.append_nil]
   exact hs.sub⟩ ?_
  clear hs
  rintro m _ w ⟨i,z,rfl,hi,hm,hs⟩
  refine zl ?_
  refine zf (λhc=>?_) λhc=>?_
  rotate_left
  ·refine zk (zg ⟨z,rfl,?_⟩)
   have hi2:i=b.rs.length:=by omega
   rw [hi2,List.take_length,<- hfin] at hs
   exact hs.sub
  have hil:i<b.rs.length:=by omega
  obtain ⟨hr1,hr2,hr3,hr4⟩:=z3p (hrs b.rs[i] (List.getElem_mem hil))
  have hsn:=zm6 b.time (b.rs.take i) b.rs[i]
  rw [<- List.take_succ_eq_append_getElem hil] at hsn
  have hln:=hrec (i+1)
  rw [hsn,List.length_append] at hln
  have hah:∃ ahead:ByteArray,zpu (b.rs.take i)=ahead/\ahead.size<=1024/\(i=0->ahead=⟨#[]⟩)/\∀ h:0<i,ahead=(b.rs[i-1]'(by omega)).key:=by
   by_cases h0:i=0
   ·subst h0
    exact ⟨⟨#[]⟩,rfl,by show 0<=1024;omega,λ_=>rfl,λh=>by omega⟩
   ·have e:(b.rs.take i).getLast? = some (b.rs[i-1]'(by omega)):=by
     rw [zi4 (by omega),if_neg h0,List.getElem?_eq_getElem (by omega)]
    exact ⟨(b.rs[i-1]'(by omega)).key,by unfold zpu;rw [e],(z3p (hrs _ (List.getElem_mem (by omega)))).1,λh=>absurd h h0,λ_=>rfl⟩
  obtain ⟨ahead,hahe,hahs,hah0,hah1⟩:=hah
  rw [hahe] at hsn hln
  have hal:=z7y (bl ahead) (bl b.rs[i].key)
  rw [z0z,z0z] at hal
  have hrl:z4j b.time ahead b.rs[i]=(z3h (b.rs[i].time-b.time)++([z54 b.rs[i].gone]++(uI (z04 (bl ahead) (bl b.rs[i].key):Nat)++z4h ahead b.rs[i].key)))++if b.rs[i].gone then [] else uI b.rs[i].value.size++bl b.rs[i].value:=by
   unfold z4j
   simp only [List.append_assoc,List.cons_append,List.nil_append,List.singleton_append]
  generalize hZ:Y++z2g b.time ⟨#[]⟩ (b.rs.take i)=Z at *
  have hZl:Z.length<=200000:=by rw [<- hZ,List.length_append];omega
  have htl1:=zcx (b.rs[i].time-b.time)
  have htl2:=z1a ((z04 (bl ahead) (bl b.rs[i].key):Nat):Int)
  have htl3:(z4h ahead b.rs[i].key).length<=1034:=by
   unfold z4h
   have:=z1a (((b.rs[i].key.size-z04 (bl ahead) (bl b.rs[i].key):Nat)):Int)
   rw [List.length_append,List.length_drop,z0z]
   omega
  refine zn (λq w'=>∃ z:Sl,q=(z,())/\Sat w' (slc T.a39 1 z ((Z++z4j b.time ahead b.rs[i]).flatMap zh)::pt a0 (.cells (cB b) T.a1)::l)) ?_ ?_
  rotate_left
  ·rintro _ w2 ⟨z',rfl,hs⟩
   rw [wS (i:=i) (by omega)]
   refine z0l (b.rs.length-(i+1)) ⟨i+1,z',rfl,by omega,rfl,?_⟩
   rw [hsn,<- List.append_assoc,hZ]
   exact hs
  refine z1n hs (xs:=b.rs) (enc:=zw) i hil ?_
  refine zv hs λa1 w' hs=>?_
  refine wp_lt ?_
  refine zx hs λw' hs=>?_
  refine zn (λq w'=>q=(((z04 (bl ahead) (bl b.rs[i].key):Nat):Int),())/\Sat w' (pt a1 (.cells (cR b.rs[i]) T.a3)::slc T.a39 1 z (Z.flatMap zh)::pt a0 (.cells (cB b) T.a1)::l)) ?_ ?_
  ·refine z06 (λk v w=>∃ j:Nat,v=((j:Int),())/\j<=z04 (bl ahead) (bl b.rs[i].key)/\z04 (bl ahead) (bl b.rs[i].key)-j=k/\Sat w (pt a1 (.cells (cR b.rs[i]) T.a3)::slc T.a39 1 z (Z.flatMap zh)::pt a0 (.cells (cB b) T.a1)::l)) (z04 (bl ahead) (bl b.rs[i].key)) ⟨0,rfl,by omega,rfl,hs⟩ ?_
   clear hs
   rintro k _ w ⟨j,rfl,hj,hk2,hs⟩
   refine zl ?_
   refine z0a hs λw' hs=>?_
   refine za hs ?_
   refine za hs ?_
   by_cases h0:i=0
   ·have hg:∀ {c:Bool},¬ ((decide ((i:Int)>0) && c)=true):=λ{c} h=>by rw [h0] at h;simp at h
    have hg2:∀ {c d:Bool},¬ ((decide ((i:Int)>0) && c && d)=true):=λ{c d} h=>by rw [h0] at h;simp at h
    refine z80 (λh=>absurd h hg) ?_
    refine z5m (⟨#[]⟩:ByteArray) hg ?_
    refine z5m (⟨#[]⟩:ByteArray) hg2 ?_
    refine wp_must (λh=>absurd h hg2) ?_
    refine z5m (⟨none,0,0⟩:Sl) hg2 ?_
    refine z80 (λh=>absurd h hg2) ?_
    refine z5m (⟨#[]⟩:ByteArray) hg2 ?_
    refine wp_must (λh=>absurd h hg2) ?_
    refine zj ?_
    refine zfj (λhcc=>?_) λhcc=>?_
    ·have hc3:=hcc
     simp only [Bool.and_eq_true,decide_eq_true_eq] at hc3
     omega
    ·have ha0:=hah0 h0
     have e0:z04 (bl ahead) (bl b.rs[i].key)=0:=by rw [ha0];rfl
     refine zk (zg ⟨?_,hs⟩)
     congr 2
     omega
   ·have hgt:0<i:=by omega
    have hpre:=hah1 hgt
    have ew:IntKind.wrap .i64 ((i:Int)-1)=((i-1:Nat):Int):=by rw [w64 (by omega) (by omega)];omega
    rw [ew]
    refine zbd hs (xs:=b.rs) (enc:=zw) ahead (λ_=>⟨i-1,by omega,rfl,hpre.symm⟩) ?_
    refine za hs ?_
    refine wp_must (λh=>?_) ?_
    ·simp only [Bool.and_eq_true,decide_eq_true_eq] at h;omega
    refine za hs ?_
    refine zbd hs (xs:=b.rs) (enc:=zw) ahead (λ_=>⟨i-1,by omega,rfl,hpre.symm⟩) ?_
    refine wp_must (λh=>?_) ?_
    ·simp only [Bool.and_eq_true,decide_eq_true_eq] at h;omega
    refine zj ?_
    have hbt:∀ (c:ByteArray) (h:j<(bl c).length),bt c (j:Int)=(((bl c)[j]).toNat:Int):=λc h=>by
     unfold bt
     rw [Int.toNat_natCast,List.getD_eq_getElem?_getD,List.getElem?_eq_getElem h];rfl
    have htk:=z9u (bl ahead) (bl b.rs[i].key)
    refine zfj (λhcc=>?_) λhcc=>?_
    ·simp only [Bool.and_eq_true,decide_eq_true_eq,beq_iff_eq] at hcc
     obtain ⟨⟨⟨h1,h2⟩,h3⟩,h4⟩:=hcc
     have l1:j<(bl ahead).length:=by rw [z0z];omega
     have l2:j<(bl b.rs[i].key).length:=by rw [z0z];omega
     rw [hbt _ l1,hbt _ l2] at h4
     have hne:j≠z04 (bl ahead) (bl b.rs[i].key):=by
      intro he
      have hmax:∀ (x y:List UInt8) (h1:z04 x y<x.length) (h2:z04 x y<y.length),x[z04 x y]≠y[z04 x y]:=by
       intro x
       induction x with
       | nil=>intro y h1;simp at h1
       | cons p x ih =>
        intro y h1 h2
        cases y with
        | nil=>simp at h2
        | cons q y =>
         by_cases hpq:p=q
         ·have e:z04 (p::x) (q::y)=z04 x y+1:=by simp [z04,hpq]
          have l1:z04 x y<x.length:=by rw [e] at h1;simpa using h1
          have l2:z04 x y<y.length:=by rw [e] at h2;simpa using h2
          have:=ih y l1 l2
          intro hh
          apply this
          have e1:(p::x)[z04 (p::x) (q::y)]? = (p::x)[z04 x y+1]? := by rw [e]
          have e2:(q::y)[z04 (p::x) (q::y)]? = (q::y)[z04 x y+1]? := by rw [e]
          rw [List.getElem?_eq_getElem h1,List.getElem?_cons_succ,List.getElem?_eq_getElem l1] at e1
          rw [List.getElem?_eq_getElem h2,List.getElem?_cons_succ,List.getElem?_eq_getElem l2] at e2
          exact (Option.some.inj e1).symm.trans (hh.trans (Option.some.inj e2))
         ·have e:z04 (p::x) (q::y)=0:=by simp [z04,hpq]
          intro hh
          apply hpq
          have e1:(p::x)[z04 (p::x) (q::y)]? = (p::x)[0]? := by rw [e]
          have e2:(q::y)[z04 (p::x) (q::y)]? = (q::y)[0]? := by rw [e]
          rw [List.getElem?_eq_getElem h1] at e1
          rw [List.getElem?_eq_getElem h2] at e2
          have e1:=Option.some.inj e1
          have e2:=Option.some.inj e2
          exact e1.symm.trans (hh.trans e2)
      have hx:=hmax (bl ahead) (bl b.rs[i].key) (by rw [<- he];exact l1) (by rw [<- he];exact l2)
      apply hx
      apply UInt8.toNat_inj.1
      have h5:((bl b.rs[i].key)[j]).toNat=((bl ahead)[j]).toNat:=by omega
      simp only [<- he]
      omega
     refine z1k (y:=((j+1:Nat):Int)) ?_ (by rw [w64 (by omega) (by omega)];omega)
     exact z0l (z04 (bl ahead) (bl b.rs[i].key)-(j+1)) ⟨j+1,rfl,by omega,rfl,hs⟩
    ·have he:j=z04 (bl ahead) (bl b.rs[i].key):=by
      apply Decidable.byContradiction
      intro hne
      have hjl:j<z04 (bl ahead) (bl b.rs[i].key):=by omega
      have l1:j<(bl ahead).length:=by rw [z0z];omega
      have l2:j<(bl b.rs[i].key).length:=by rw [z0z];omega
      have e1:(bl ahead)[j]? = (bl b.rs[i].key)[j]? := by
       have:=congrArg (λx:List UInt8=>x[j]?) htk
       simp only [List.getElem?_take,if_pos hjl] at this
       exact this
      rw [List.getElem?_eq_getElem l1,List.getElem?_eq_getElem l2] at e1
      have e1:=Option.some.inj e1
      rw [Bool.eq_false_iff] at hcc
      apply hcc
      simp only [Bool.and_eq_true,decide_eq_true_eq,beq_iff_eq]
      refine ⟨⟨⟨by omega,by rw [z0z] at l2;omega⟩,by rw [z0z] at l1;omega⟩,?_⟩
      rw [hbt _ l1,hbt _ l2,e1]
     refine zk (zg ⟨by rw [<- he],hs⟩)
  clear hs
  rintro _ w ⟨rfl,hs⟩
  refine zl ?_
  refine za hs ?_
  refine za hs ?_
  rw [w64 (by omega) (by omega)]
  refine zb (zzg (b.rs[i].time-b.time) (by omega) hs) λ_ w' hs=>?_
  obtain ⟨u1_,rfl,hs⟩:=hs
  refine zd ?_
  refine wp_app' (xs:=Z) (ys:=z3h (b.rs[i].time-b.time)) (enc:=zh) hs (λy1 w' hs=>?_) (by omega)
  refine za hs ?_
  refine zb (zyz b.rs[i].gone hs) λ_ w' hs=>?_
  obtain ⟨u2_,rfl,hs⟩:=hs
  refine zd ?_
  refine wp_app' (xs:=Z++z3h (b.rs[i].time-b.time)) (ys:=[z54 b.rs[i].gone]) (enc:=zh) hs (λy2 w' hs=>?_) (by simp only [List.length_append,List.length_cons,List.length_nil];omega)
  refine zb (z6l ((z04 (bl ahead) (bl b.rs[i].key):Nat):Int) (by omega) hs) λ_ w' hs=>?_
  obtain ⟨u3_,rfl,hs⟩:=hs
  refine zd ?_
  refine wp_app' (xs:=Z++z3h (b.rs[i].time-b.time)++[z54 b.rs[i].gone]) (ys:=uI ((z04 (bl ahead) (bl b.rs[i].key):Nat):Int)) (enc:=zh) hs (λy3 w' hs=>?_) (by simp only [List.length_append,List.length_cons,List.length_nil];omega)
  refine za hs ?_
  refine wp_must (by omega) ?_
  have ext:(ByteArray.extract b.rs[i].key (z04 (bl ahead) (bl b.rs[i].key)) b.rs[i].key.size).size=b.rs[i].key.size-z04 (bl ahead) (bl b.rs[i].key):=by rw [ByteArray.size_extract];omega
  have exb:bl (ByteArray.extract b.rs[i].key (z04 (bl ahead) (bl b.rs[i].key)) b.rs[i].key.size)=(bl b.rs[i].key).drop (z04 (bl ahead) (bl b.rs[i].key)):=by
   unfold bl
   rw [ByteArray.data_extract,Array.toList_extract,List.extract_eq_take_drop]
   exact List.take_of_length_le (by rw [List.length_drop];exact Nat.le_refl _)
  rw [Int.toNat_natCast]
  refine zb (zo4 (ByteArray.extract b.rs[i].key (z04 (bl ahead) (bl b.rs[i].key)) b.rs[i].key.size) (by omega) hs) λ_ w' hs=>?_
  obtain ⟨u4_,rfl,hs⟩:=hs
  refine zd ?_
  rw [ext,exb] at hs
  have hs:Sat w' (slc T.a39 1 u4_ ((z4h ahead b.rs[i].key).flatMap zh)::_):=hs
  refine wp_app' (xs:=Z++z3h (b.rs[i].time-b.time)++[z54 b.rs[i].gone]++uI ((z04 (bl ahead) (bl b.rs[i].key):Nat):Int)) (ys:=z4h ahead b.rs[i].key) (enc:=zh) hs (λy4 w' hs=>?_) (by simp only [List.length_append,List.length_cons,List.length_nil];omega)
  refine za hs ?_
  have hvl:=z1a ((b.rs[i].value.size:Nat):Int)
  have hvs:=z0z b.rs[i].value
  generalize hV:Z++z3h (b.rs[i].time-b.time)++[z54 b.rs[i].gone]++uI ((z04 (bl ahead) (bl b.rs[i].key):Nat):Int)++z4h ahead b.rs[i].key=V at hs
  have hVl:V.length<=300000:=by rw [<- hV];simp only [List.length_append,List.length_cons,List.length_nil];omega
  have hVr:Z++z4j b.time ahead b.rs[i]=V++if b.rs[i].gone then [] else uI b.rs[i].value.size++bl b.rs[i].value:=by
   rw [hrl,<- hV]
   simp only [List.append_assoc]
  rw [hVr]
  refine zn (λq w'=>∃ z:Sl,q=(z,())/\Sat w' (slc T.a39 1 z ((V++if b.rs[i].gone then [] else uI b.rs[i].value.size++bl b.rs[i].value).flatMap zh)::pt a0 (.cells (cB b) T.a1)::l)) ?_ ?_
  rotate_left
  ·rintro _ w2 ⟨z',rfl,hs⟩
   exact zg ⟨z',rfl,hs⟩
  refine zf (λh5=>?_) λh5=>?_
  ·have h5:b.rs[i].gone=false:=by simpa using h5
   refine za hs ?_
   refine zb (zo4 b.rs[i].value (by omega) hs) λ_ w' hs=>?_
   obtain ⟨u,rfl,hs⟩:=hs
   refine zd ?_
   refine wp_app' (xs:=V) (ys:=uI (b.rs[i].value.size:Nat)++bl b.rs[i].value) (enc:=zh) hs (λz7 w' hs=>?_) (by simp only [List.length_append];omega)
   refine zg ⟨z7,rfl,?_⟩
   rw [if_neg (by rw [h5];simp)]
   exact hs.sub
  ·have h5:b.rs[i].gone=true:=by simpa using h5
   refine zg ⟨y4,rfl,?_⟩
   rw [if_pos h5,List.append_nil]
   exact hs.sub
end
def z17 (f:Nat->Bool):List Value:=(List.range 32).map λj=>.bool (f j)
theorem z9h (f:Nat->Bool):(z17 f).length=32:=by simp [z17]
theorem zcq (f:Nat->Bool) {i:Nat} (h:i<32):(z17 f)[i]? = some (.bool (f i)):=by
 unfold z17
 rw [List.getElem?_map,List.getElem?_range h];rfl
theorem ztm (f:Nat->Bool) (i:Nat) (x:Bool):(z17 f).set i (.bool x)=z17 λj=>if j=i then x else f j:=by
 apply List.ext_getElem?
 intro j
 by_cases hj:j<32
 ·rw [zcq _ hj,List.getElem?_set,z9h]
  by_cases hij:i=j
  ·subst hij;simp [hj]
  ·rw [if_neg hij,zcq _ hj,if_neg (Ne.symm hij)]
 ·rw [List.getElem?_eq_none (by rw [List.length_set,z9h];omega),List.getElem?_eq_none (by rw [z9h];omega)]
theorem z4v {f g:Nat->Bool} (h:∀ j,j<32->f j=g j):z17 f=z17 g:=by
 unfold z17
 exact List.map_congr_left λj hj=>by rw [h j (List.mem_range.1 hj)]
section
variable {w:World} {l r:List HP} {Q:Post} {S:World->Prop} {b:Nat} {g:Prop} {f:Nat->Bool}
theorem zft {k:Bool->Prog} {m:Nat} (hs:Sat w l) [hb:FocB l b (.cells (z17 f).toArray T.a0) r] (i:Nat) (hi:i<32) (h:(k (f i)).wp P S w Q) (hm:m=i:=by first|rfl|omega) :
  (Prog.read g (ld T.a4 (Addr.add ⟨b,0,none⟩ m)) sB (u1 k)).wp P S w Q:=by
 subst hm
 refine ⟨(f m,()),λ_=>?_,h⟩
 have hT:One P T.a4:=inferInstance
 rw [z2t,Nat.zero_add]
 exact zh2 (P:=P) (off:=m) (v:=.bool (f m)) hT.ok.1 (hs.focB b).get (by simpa using zcq f hi)
theorem zfu {k:Prog} {m:Nat} {x:Bool} (hs:Sat w l) [hb:FocB l b (.cells (z17 f).toArray T.a0) r] (i:Nat) (hi:i<32)
  (h:∀ w',Sat w' (pt b (.cells (z17 λj=>if j=i then x else f j).toArray T.a0)::r)->k.wp P S w' Q) (hm:m=i:=by first|rfl|omega) (hS:∀ w',S w':=by exact λ_=>trivial) :
  (Prog.actU (st T.a4 (Addr.add ⟨b,0,none⟩ m) (.bool x)) k).wp P S w Q:=by
 subst hm
 have hT:One P T.a4:=inferInstance
 have hc:(Value.bool x).cells=#[.bool x]:=rfl
 have hrun:=zc5 (P:=P) (v:=.bool x) (off:=m) hT.ok.2 (hs.focB b).get (by simp [z9h];omega) (by rw [hc];rfl) (by rw [hc];simp [Value.oneCell']) (z32 _ _)
 rw [hc] at hrun
 have e:putCells (z17 f).toArray m [.bool x]=(z17 λj=>if j=m then x else f j).toArray:=by
  rw [<- ztm];simp [putCells]
 rw [show (#[Value.bool x]:Array Value).toList=[.bool x] from rfl,e] at hrun
 have hs':=(hs.focB b).set (o':=.cells (z17 λj=>if j=m then x else f j).toArray T.a0)
 rw [z2t,Nat.zero_add]
 exact ⟨_,hrun,hS _,h _ hs'⟩
theorem z01j {c i:Nat} (hc:c<4294967296) (hi:i<32):(Int.tmod (Int.fdiv (c:Int) (2 ^ i)) (2:Int) == 1)=(BitVec.ofNat 32 c).getLsbD i:=by
 have e:((2:Int) ^ i)=((2 ^ i:Nat):Int):=by simp
 rw [e,z6w c (Int.natCast_nonneg _),Int.toNat_natCast,zer _ (by decide),BitVec.getLsbD_ofNat,Nat.testBit_eq_decide_div_mod_eq,Bool.eq_iff_iff]
 simp [hi]
 show ((c / 2 ^ i % 2:Nat):Int)=1↔_
 omega
theorem zvn {i n:Nat} (h:i<=n) (h64:n<=64):min (Int.toNat (IntKind.wrap .u64 (i:Int))) n=i:=by
 rw [z79,Nat.mod_eq_of_lt (by omega)];omega
theorem z04c (s:BitVec 32) (x:Bool) {j:Nat} (hj:j<32):(z61 s x).getLsbD j=((s >>> 1).getLsbD j != ((s.getLsbD 0 != x) && polyB.getLsbD j)):=by
 unfold z61
 rw [BitVec.getLsbD_xor]
 by_cases h:(s.getLsbD 0 != x)=true
 ·rw [if_pos h,h];simp
 ·rw [if_neg h]
  have h':(s.getLsbD 0 != x)=false:=by cases hc:(s.getLsbD 0 != x) with
   | false=>rfl
   | true=>exact absurd hc h
  rw [h'];simp
theorem z014 (x:Sl) (bs:List UInt8) [hx:FocR l x 1 (bs.flatMap zh)] (hn:bs.length<=1000000000) (hs:Sat w l) :
  Ret P F.a117 #[x.v] w λvs w'=>vs=[.int .u32 ((z5w bs:Nat):Int)]/\Sat w' l :=
 zmg x <| by
  unfold zwn
  have hl:=hs.slen x (xs:=bs) (enc:=zh)
  refine zv hs λb w' hs=>?_
  have hs:Sat w' (pt b (.cells (z17 λ_=>false).toArray T.a0)::l):=hs
  refine zn (λ_ w'=>Sat w' (pt b (.cells (z17 (BitVec.allOnes 32).getLsbD).toArray T.a0)::l)) ?_ ?_
  ·refine z06 (λk u w=>∃ i:Nat,u=((i:Int),())/\i<=32/\32-i=k/\Sat w (pt b (.cells (z17 λj=>decide (j<i)).toArray T.a0)::l)) 32 ⟨0,rfl,by omega,rfl,?_⟩ ?_
   ·have:(z17 λj=>decide (j<0))=z17 λ_=>false:=z4v λj _=>by simp
    rw [this];exact hs
   clear hs
   rintro k _ w ⟨i,rfl,hi,hk,hs⟩
   refine zl ?_
   refine zf (λhc=>?_) λhc=>?_
   rotate_left
   ·refine zk (zg ?_)
    have:(z17 λj=>decide (j<i))=z17 (BitVec.allOnes 32).getLsbD:=z4v λj hj=>by
     rw [BitVec.getLsbD_allOnes]
     rw [decide_eq_true (by omega:j<i),decide_eq_true hj]
    rw [<- this];exact hs
   refine wp_must ⟨by omega,hc⟩ ?_
   refine zfu hs i (by omega) (λw' hs=>?_)
   refine z1k (y:=((i+1:Nat):Int)) ?_ (by rw [w64 (by omega) (by omega)];omega)
   refine z0l (32-(i+1)) ?_
   refine ⟨i+1,rfl,by omega,rfl,?_⟩
   have:(z17 λj=>decide (j<i+1))=z17 λj=>if j=i then true else decide (j<i):=z4v λj _=>by
    by_cases hji:j=i
    ·subst hji;simp
    ·rw [if_neg hji];congr 1;apply propext;omega
   rw [this];exact hs
  clear hs
  rintro _ w hs
  refine zl ?_
  refine zn (λ_ w'=>Sat w' (pt b (.cells (z17 (z42 (BitVec.allOnes 32) bs).getLsbD).toArray T.a0)::l)) ?_ ?_
  ·refine z06 (λk u w=>∃ i:Nat,u=((i:Int),())/\i<=bs.length/\bs.length-i=k/\Sat w (pt b (.cells (z17 (z42 (BitVec.allOnes 32) (bs.take i)).getLsbD).toArray T.a0)::l)) bs.length ⟨0,rfl,by omega,rfl,hs⟩ ?_
   clear hs
   rintro k _ w ⟨i,rfl,hi,hk,hs⟩
   refine zl ?_
   refine zf (λhc=>?_) λhc=>?_
   rotate_left
   ·refine zk (zg ?_)
    rw [List.take_of_length_le (by omega)] at hs
    exact hs
   have hil:i<bs.length:=by omega
   refine zn (λ_ w'=>Sat w' (pt b (.cells (z17 (z42 (BitVec.allOnes 32) (bs.take (i+1))).getLsbD).toArray T.a0)::l)) ?_ ?_
   rotate_left
   ·rintro _ w' hs
    refine zl ?_
    refine z4x (us':=[.int .i64 ((i+1:Nat):Int)]) (by (try simp (disch:=omega) only [w64]);first|rfl|(congr;omega)) ?_
    refine z0l (bs.length-(i+1)) ?_
    exact ⟨i+1,rfl,by omega,rfl,hs⟩
   rw [zii _ bs i hil]
   refine z1z hs (xs:=bs) (enc:=zh) i hil ?_
   refine wp_lt ?_
   rw [zs5]
   generalize z42 (BitVec.allOnes 32) (bs.take i)=s at hs ⊢
   have hcl:=bs[i].toNat_lt
   generalize bs[i]=c at *
   show Prog.wp P _ _ _ _
   refine zn (λ_ w'=>Sat w' (pt b (.cells (z17 (z8x (BitVec.ofNat 32 c.toNat) 8 s).getLsbD).toArray T.a0)::l)) ?_ (by rintro _ w' hs;refine zl ?_;exact zg hs)
   refine z06 (λk u w=>∃ i:Nat,u=((i:Int),())/\i<=8/\8-i=k/\Sat w (pt b (.cells (z17 (z8x (BitVec.ofNat 32 c.toNat) i s).getLsbD).toArray T.a0)::l)) 8 ⟨0,rfl,by omega,rfl,hs⟩ ?_
   clear hs
   rintro k _ w ⟨i,rfl,hi,hk,hs⟩
   refine zl ?_
   refine zf (λhc=>?_) λhc=>?_
   rotate_left
   ·obtain rfl:i=8:=by omega
    exact zk (zg hs)
   refine zn (λ_ w'=>Sat w' (pt b (.cells (z17 (z8x (BitVec.ofNat 32 c.toNat) (i+1) s).getLsbD).toArray T.a0)::l)) ?_ ?_
   rotate_left
   ·rintro _ w' hs
    refine zl ?_
    refine z1k (y:=((i+1:Nat):Int)) ?_ (by rw [w64 (by omega) (by omega)];omega)
    refine z0l (8-(i+1)) ?_
    exact ⟨i+1,rfl,by omega,rfl,hs⟩
   show Prog.wp P _ _ _ _
   have hstep:z8x (BitVec.ofNat 32 c.toNat) (i+1) s=z61 (z8x (BitVec.ofNat 32 c.toNat) i s) ((BitVec.ofNat 32 c.toNat).getLsbD i):=rfl
   rw [hstep]
   generalize z8x (BitVec.ofNat 32 c.toNat) i s=t at hs ⊢
   refine wp_must ⟨by omega,by omega⟩ ?_
   refine zft hs 0 (by omega) ?_
   refine wp_must (by rw [z79];omega) ?_
   rw [zvn (by omega) (by omega),z01j (by omega) (by omega)]
   have hbool:(!(t.getLsbD 0 == (BitVec.ofNat 32 c.toNat).getLsbD i))=(t.getLsbD 0 != (BitVec.ofNat 32 c.toNat).getLsbD i):=rfl
   rw [hbool]
   refine wp_lt ?_
   generalize (BitVec.ofNat 32 c.toNat).getLsbD i=d
   refine zn (λ_ w'=>Sat w' (pt b (.cells (z17 λj=>if j<31 then t.getLsbD (j+1) else t.getLsbD j).toArray T.a0)::l)) ?_ ?_
   ·refine z06 (λk u w=>∃ i:Nat,u=((i:Int),())/\i<=31/\31-i=k/\Sat w (pt b (.cells (z17 λj=>if j<i then t.getLsbD (j+1) else t.getLsbD j).toArray T.a0)::l)) 31 ⟨0,rfl,by omega,rfl,by simpa using hs⟩ ?_
    clear hs
    rintro k _ w ⟨i,rfl,hi,hk,hs⟩
    refine zl ?_
    refine zf (λhc=>?_) λhc=>?_
    rotate_left
    ·obtain rfl:i=31:=by omega
     exact zk (zg hs)
    have e1:IntKind.wrap .i64 ((i:Int)+1)=((i+1:Nat):Int):=by rw [w64 (by omega) (by omega)];omega
    rw [e1]
    refine wp_must ⟨by omega,by omega⟩ ?_
    refine zft hs (i+1) (by omega) ?_
    refine wp_must ⟨by omega,by omega⟩ ?_
    refine zfu hs i (by omega) (λw' hs=>?_)
    refine wp_lt ?_
    refine z0l (31-(i+1)) ?_
    refine ⟨i+1,rfl,by omega,rfl,?_⟩
    have:(z17 λj=>if j<i+1 then t.getLsbD (j+1) else t.getLsbD j)=z17 λj=>if j=i then (if i+1<i then t.getLsbD (i+1+1) else t.getLsbD (i+1)) else if j<i then t.getLsbD (j+1) else t.getLsbD j:=z4v λj _=>by
     by_cases hji:j=i
     ·subst hji;rw [if_pos (by omega),if_pos rfl,if_neg (by omega)]
     ·rw [if_neg hji]
      by_cases hlt:j<i
      ·rw [if_pos hlt,if_pos (by omega)]
      ·rw [if_neg hlt,if_neg (by omega)]
    rw [this];exact hs
   clear hs
   rintro _ w hs
   refine zl ?_
   refine wp_must ⟨by omega,by omega⟩ ?_
   refine zfu hs 31 (by omega) (λw' hs=>?_)
   have hsh:(z17 λj=>if j=31 then false else if j<31 then t.getLsbD (j+1) else t.getLsbD j)=z17 (t >>> 1).getLsbD:=z4v λj hj=>by
    rw [BitVec.getLsbD_ushiftRight]
    by_cases h31:j=31
    ·subst h31;rw [if_pos rfl]
     exact (BitVec.getLsbD_of_ge t 32 (by omega)).symm
    ·rw [if_neg h31,if_pos (by omega),Nat.add_comm]
   rw [hsh] at hs
   refine zn (λ_ w'=>Sat w' (pt b (.cells (z17 (z61 t d).getLsbD).toArray T.a0)::l)) ?_ (by rintro _ w' hs;refine zl ?_;exact zg hs)
   refine z06 (λk u w=>∃ i:Nat,u=((i:Int),())/\i<=32/\32-i=k/\Sat w (pt b (.cells (z17 λj=>if j<i then (z61 t d).getLsbD j else (t >>> 1).getLsbD j).toArray T.a0)::l)) 32 ⟨0,rfl,by omega,rfl,by rw [z4v (g:=(t >>> 1).getLsbD) λj _=>if_neg (Nat.not_lt_zero j)];exact hs⟩ ?_
   clear hs
   rintro k _ w ⟨i,rfl,hi,hk,hs⟩
   refine zl ?_
   refine zf (λhc=>?_) λhc=>?_
   rotate_left
   ·obtain rfl:i=32:=by omega
    refine zk (zg ?_)
    have:(z17 λj=>if j<32 then (z61 t d).getLsbD j else (t >>> 1).getLsbD j)=z17 (z61 t d).getLsbD:=z4v λj hj=>if_pos hj
    rw [<- this];exact hs
   refine wp_must (λ_=>by rw [z79];omega) ?_
   refine zn (λ_ w'=>Sat w' (pt b (.cells (z17 λj=>if j<i+1 then (z61 t d).getLsbD j else (t >>> 1).getLsbD j).toArray T.a0)::l)) ?_ ?_
   rotate_left
   ·rintro _ w' hs
    refine zl ?_
    refine z1k (y:=((i+1:Nat):Int)) ?_ (by rw [w64 (by omega) (by omega)];omega)
    refine z0l (32-(i+1)) ?_
    exact ⟨i+1,rfl,by omega,rfl,hs⟩
   have hb2:(Int.tmod (Int.fdiv 3988292384 (2 ^ min (Int.toNat (IntKind.wrap .u64 (i:Int))) 32)) (2:Int) == 1)=polyB.getLsbD i:=by
    rw [zvn (by omega) (by omega)]
    exact z01j (c:=3988292384) (by omega) (by omega)
   rw [hb2]
   have hg:=z04c t d (j:=i) (by omega)
   refine zf (λh=>?_) λh=>?_
   ·refine wp_must ⟨by omega,by omega⟩ ?_
    refine zft hs i (by omega) ?_
    refine wp_must ⟨by omega,by omega⟩ ?_
    refine zfu hs i (by omega) (λw' hs=>?_)
    refine zg ?_
    have:(z17 λj=>if j<i+1 then (z61 t d).getLsbD j else (t >>> 1).getLsbD j)=z17 λj=>if j=i then !(if i<i then (z61 t d).getLsbD i else (t >>> 1).getLsbD i) else if j<i then (z61 t d).getLsbD j else (t >>> 1).getLsbD j:=z4v λj _=>by
     by_cases hji:j=i
     ·subst hji
      have hb:((t.getLsbD 0 != d) && polyB.getLsbD j)=true:=by rw [Bool.and_eq_true];exact ⟨bne_iff_ne.2 h.1,h.2⟩
      rw [if_pos (by omega),if_pos rfl,if_neg (by omega),hg,hb]
      cases (t >>> 1).getLsbD j <;> rfl
     ·rw [if_neg hji]
      by_cases hlt:j<i
      ·rw [if_pos hlt,if_pos (by omega)]
      ·rw [if_neg hlt,if_neg (by omega)]
    rw [this];exact hs
   ·refine zg ?_
    have:(z17 λj=>if j<i+1 then (z61 t d).getLsbD j else (t >>> 1).getLsbD j)=z17 λj=>if j<i then (z61 t d).getLsbD j else (t >>> 1).getLsbD j:=z4v λj _=>by
     by_cases hji:j=i
     ·subst hji
      have:((t.getLsbD 0 != d) && polyB.getLsbD j)=false:=by
       cases hc:((t.getLsbD 0 != d) && polyB.getLsbD j) with
       | false=>rfl
       | true=>exact absurd (by simpa using hc) h
      rw [if_pos (by omega),if_neg (by omega),hg,this]
      cases (t >>> 1).getLsbD j <;> rfl
     ·by_cases hlt:j<i
      ·rw [if_pos hlt,if_pos (by omega)]
      ·rw [if_neg hlt,if_neg (by omega)]
    rw [this];exact hs
  clear hs
  rintro _ w hs
  refine zl ?_
  have hsum:z5w bs=(~~~ (z42 (BitVec.allOnes 32) bs)).toNat:=by
   unfold z5w ziw
   rw [BitVec.not_zero]
  rw [hsum]
  generalize z42 (BitVec.allOnes 32) bs=s at hs ⊢
  have hlt:=(~~~ s).isLt
  refine zn (λu w'=>u=((((~~~ s).toNat:Nat):Int),())/\Sat w' l) ?_ (by rintro _ w' ⟨rfl,hs⟩;refine zl ?_;refine wp_lt ?_;exact ⟨rfl,rfl,hs⟩)
  refine z06 (λk u w=>∃ i:Nat,u=((((~~~ s).toNat % 2 ^ i:Nat):Int),(i:Int),())/\i<=32/\32-i=k/\Sat w (pt b (.cells (z17 s.getLsbD).toArray T.a0)::l)) 32 ⟨0,by simp [Nat.mod_one],by omega,rfl,hs⟩ ?_
  clear hs
  rintro k _ w ⟨i,rfl,hi,hk,hs⟩
  refine zl ?_
  refine zf (λhc=>?_) λhc=>?_
  rotate_left
  ·obtain rfl:i=32:=by omega
   refine zk (zg ⟨?_,hs.tail⟩)
   rw [Nat.mod_eq_of_lt hlt]
  refine wp_must ⟨by omega,by omega⟩ ?_
  refine zft hs i (by omega) ?_
  have hmod:(~~~ s).toNat % 2 ^ (i+1)=(~~~ s).toNat % 2 ^ i+2 ^ i*((~~~ s).toNat.testBit i).toNat:=by
   rw [Nat.mod_pow_succ,Nat.testBit_eq_decide_div_mod_eq]
   rcases Nat.mod_two_eq_zero_or_one ((~~~ s).toNat / 2 ^ i) with h|h <;> rw [h] <;> rfl
  have hbit:(~~~ s).toNat.testBit i=!s.getLsbD i:=by
   rw [BitVec.testBit_toNat,BitVec.getLsbD_not,decide_eq_true (show i<32 by omega),Bool.true_and]
  rw [hbit] at hmod
  refine zn (λu w'=>u=((((~~~ s).toNat % 2 ^ (i+1):Nat):Int),())/\Sat w' (pt b (.cells (z17 s.getLsbD).toArray T.a0)::l)) ?_ ?_
  rotate_left
  ·rintro _ w' ⟨rfl,hs⟩
   refine zl ?_
   refine z1k (y:=((i+1:Nat):Int)) ?_ (by rw [w64 (by omega) (by omega)];omega)
   refine z0l (32-(i+1)) ?_
   exact ⟨i+1,rfl,by omega,rfl,hs⟩
  refine zf (λh=>?_) λh=>?_
  ·refine wp_must (by rw [z79];omega) ?_
   have h:s.getLsbD i=false:=by simpa using h
   rw [h] at hmod
   have hle:(~~~ s).toNat % 2 ^ (i+1)<=(~~~ s).toNat:=Nat.mod_le ..
   have e:IntKind.wrap .u32 ((((~~~ s).toNat % 2 ^ i:Nat):Int)+IntKind.wrap .u32 (1*2 ^ min (Int.toNat (IntKind.wrap .u64 (i:Int))) 32))=(((~~~ s).toNat % 2 ^ (i+1):Nat):Int):=by
    have e2:(1:Int)*2 ^ i=((2 ^ i:Nat):Int):=by simp
    have hm:(~~~ s).toNat % 2 ^ (i+1)=(~~~ s).toNat % 2 ^ i+2 ^ i:=by rw [hmod];simp
    rw [zvn (by omega) (by omega),e2,z9n,<- Int.natCast_add,z9n,hm,Nat.mod_eq_of_lt (show 2 ^ i<4294967296 by omega),Nat.mod_eq_of_lt (by omega)]
   refine zix e ?_
   exact zg ⟨rfl,hs⟩
  ·have h:s.getLsbD i=true:=by simpa using h
   rw [h] at hmod
   refine zg ⟨?_,hs⟩
   rw [hmod];simp
theorem zyi (x:Sl) (bs:List UInt8) [hx:FocR l x 1 (bs.flatMap zh)] (hn:bs.length<=1000000000) (hs:Sat w l) :
  Ret P F.a116 #[x.v] w λvs w'=>∃ z:Sl,vs=[z.v]/\Sat w' (slc T.a39 1 z ((z2h bs).flatMap zh)::l) :=
 zlx x <| by
  unfold zxu
  have hl:=hs.slen x (xs:=bs) (enc:=zh)
  refine zf (λh=>?_) λh=>?_
  ·have:z2h bs=[]:=by unfold z2h;rw [if_pos (by omega)]
   rw [this]
   exact ⟨rfl,⟨none,0,0⟩,rfl,hs.slc_nil⟩
  have e:z2h bs=z2a bs++z2b (z5w (z2a bs)):=by unfold z2h;rw [if_neg (by omega)]
  have hhl:(z2a bs).length=bs.length+4:=by unfold z2a;rw [List.length_append,z3v];omega
  have hsl:=zgt (z2a bs)
  rw [hl,z9n,Nat.mod_eq_of_lt (by omega)]
  refine zb (zof bs.length (by omega) hs) λ_ _ hs=>?_
  obtain ⟨y,rfl,hs⟩:=hs
  refine zd ?_
  refine wp_app' (xs:=z2b bs.length) (ys:=bs) (enc:=zh) hs (λz w' hs=>?_) (by rw [z3v];omega)
  have hs:Sat w' (slc T.a39 1 z ((z2a bs).flatMap zh)::l):=hs
  refine zb (z014 z (z2a bs) (by omega) hs) λ_ _ hs=>?_
  obtain ⟨rfl,hs⟩:=hs
  refine zd ?_
  refine zb (zof (z5w (z2a bs)) hsl hs) λ_ _ hs=>?_
  obtain ⟨u,rfl,hs⟩:=hs
  refine zd ?_
  have hs:=hs.pick [1,0]
  refine wp_app' (xs:=z2a bs) (ys:=z2b (z5w (z2a bs))) (enc:=zh) hs (λz w' hs=>?_) (by rw [z3v];omega)
  rw [<- e] at hs
  exact ⟨rfl,z,rfl,hs.sub⟩
end
section
variable {w:World} {l r:List HP} {a:Nat} {R:RefM} {z:Sl} {g1 g2:Int}
theorem okR.base {L:List HP} (h:okR R L):∀ s ∈ R.SR,0<=s.base/\s.base<=1099511627776:=λs hs=>(h.valid s hs).1.base
theorem ze7 [hb:FocB l a (.cells #[.int .i64 g1,.int .i64 g2,.slice z.a z.len z.cap] T.a37) r] (hz:FocR l z 3 (R.SR.flatMap z07)) (hx:∀ s ∈ R.SR,FocR l s.x 7 (s.bs.flatMap zi)) [hok:okR R l] (hs:Sat w l) :
  Ret P F.a138 #[.pointer (some ⟨a,0,none⟩)] w λvs w'=>vs=[.int .i64 (zp R.l)]/\Sat w' l :=
 zdu _ <| by
  unfold zp8
  have hl:=hs.slen z (xs:=R.SR) (enc:=z07)
  have hln:=hok.len
  refine zm ?_
  refine za hs ?_
  refine zf (λh=>?_) λh=>?_
  ·have h0:R.SR=[]:=List.length_eq_zero_iff.1 (by omega)
   refine ⟨rfl,?_,hs⟩
   unfold RefM.l;rw [h0];rfl
  have hil:R.SR.length-1<R.SR.length:=by omega
  refine z0a hs λw' hs=>?_
  refine zm ?_
  refine za hs ?_
  refine zm ?_
  refine za hs ?_
  rw [w64 (by omega) (by omega)]
  refine z1n hs (xs:=R.SR) (enc:=z07) (R.SR.length-1) hil ?_
  obtain ⟨v1,v2,v3⟩:=hok.valid _ (List.getElem_mem hil)
  have hn:zp R.l=R.SR[R.SR.length-1].p.reach:=by
   unfold zp RefM.l
   rw [z5o,List.getLast?_eq_getElem?,List.getElem?_eq_getElem hil]
   rfl
  rw [hn]
  have hR:=hx _ (List.getElem_mem hil)
  have hb0:=hok.base _ (List.getElem_mem hil)
  refine zb (zjd R.SR[R.SR.length-1] (λb hb=>(v2 b hb).1) (λb hb=>(v2 b hb).2) (by omega) (by omega) (λ_=>hb0.1) hs) λ_ w' hs=>?_
  obtain ⟨rfl,hs⟩:=hs
  refine zd ?_
  refine wp_lt ?_
  refine zj ?_
  exact ⟨rfl,rfl,hs⟩
theorem zou (x:Sl) (bs:List BatM) [hb:FocB l a (.cells #[.int .i64 g1,.int .i64 g2,.slice z.a z.len z.cap] T.a37) r] (hz:FocR l z 3 (R.SR.flatMap z07)) (hxs:∀ s ∈ R.SR,FocR l s.x 7 (s.bs.flatMap zi)) [hok:okR R l]
  (hbl:bs.length<=100000) (hx:FocR l x 7 (bs.flatMap zi)) (hbs:∀ b ∈ bs,FocR l b.x 4 (b.rs.flatMap zw)) (hs:Sat w l) :
  Ret P F.a139 #[.pointer (some ⟨a,0,none⟩),x.v] w λvs w' =>
   ((zt (zp R.l) bs).1≠0/\vs=[.slice none 0 0,.int .i64 (zt (zp R.l) bs).1]/\Sat w' l) \/
   ((zt (zp R.l) bs).1=0/\∃ z1:Sl,vs=[z1.v,.int .i64 0]/\Sat w' (slc T.a1 7 z1 ((zt (zp R.l) bs).2.flatMap zi)::l)) :=
 zn1 _ x <| by
  unfold zxo
  have hl:=hs.slen x (xs:=bs) (enc:=zi)
  refine zb (ze7 (a:=a) hz hxs hs) λ_ w' hs=>?_
  obtain ⟨rfl,hs⟩:=hs
  refine zd ?_
  refine wp_lt ?_
  generalize zp R.l=n0
  refine zn (λq w'=>∃ z1:Sl,(zt n0 bs).1=0/\q=(z1,())/\Sat w' (slc T.a1 7 z1 ((zt n0 bs).2.flatMap zi)::l)) ?_ ?_
  rotate_left
  ·rintro _ w2 ⟨z1,h1,rfl,hs⟩
   exact ⟨rfl,.inr ⟨h1,z1,rfl,hs⟩⟩
  have h0:Sat w' (slc T.a1 7 ⟨none,0,0⟩ (([]:List BatM).flatMap zi)::l):=hs.slc_nil
  refine z06 (λm v w=>∃ (i:Nat) (n:Int) (done:List BatM) (z1:Sl),v=(n,z1,(i:Int),())/\i<=bs.length/\bs.length-i=m/\done.length=i /\
   zt n0 bs=(if (zt n (bs.drop i)).1≠0 then ((zt n (bs.drop i)).1,[]) else (0,done++(zt n (bs.drop i)).2)) /\
   Sat w (slc T.a1 7 z1 (done.flatMap zi)::l)) bs.length
   ⟨0,n0,[],⟨none,0,0⟩,rfl,by omega,rfl,rfl,?_,h0⟩ ?_
  ·rw [List.drop_zero,List.nil_append]
   by_cases h:(zt n0 bs).1≠0
   ·rw [if_pos h]
    have:∀ {bs:List BatM} {n:Int},(zt n bs).1≠0->(zt n bs).2=[]:=by
     intro bs
     induction bs with
     | nil=>intro n h;exact absurd rfl h
     | cons b bs ih =>
      intro n h
      unfold zt at h ⊢
      split
      ·rfl
      ·split
       ·rfl
       ·rename_i h1 h2
        rw [if_neg h1,if_neg h2] at h
        exact absurd rfl h
    rw [<- this h]
   ·rw [if_neg h]
    have h:=Decidable.not_not.1 h
    rw [<- h]
  clear hs h0
  rintro m _ w ⟨i,n,done,z1,rfl,hi,hm,hdl,hpl,hs⟩
  refine zl ?_
  refine zf (λhc=>?_) λhc=>?_
  rotate_left
  ·have e:bs.drop i=[]:=List.drop_eq_nil_of_le (by omega)
   rw [e] at hpl
   simp only [zt,List.append_nil] at hpl
   have hpl:zt n0 bs=(0,done):=by rw [hpl];rfl
   refine zk (zg ⟨z1,by rw [hpl],rfl,?_⟩)
   rw [hpl]
   exact hs
  have hil:i<bs.length:=by omega
  have hdrop:bs.drop i=bs[i]::bs.drop (i+1):=List.drop_eq_getElem_cons hil
  rw [hdrop] at hpl
  have hR:=hbs bs[i] (List.getElem_mem hil)
  refine z1n hs (xs:=bs) (enc:=zi) i hil ?_
  refine zv hs λa w' hs=>?_
  refine zx hs λw' hs=>?_
  refine z0d hs λw' hs=>?_
  refine zr hs ?_
  have hRt:FocR l (bs[i].to n).x 4 ((bs[i].to n).rs.flatMap zw):=hR
  refine zb (zbh (bs[i].to n) hs) λ_ w' hs=>?_
  have hunf:zt n (bs[i]::bs.drop (i+1))=if z01 (bs[i].to n)≠0 then (z01 (bs[i].to n),[]) else if (zt (n+z00 bs[i]) (bs.drop (i+1))).1≠0 then ((zt (n+z00 bs[i]) (bs.drop (i+1))).1,[]) else (0,bs[i].to n::(zt (n+z00 bs[i]) (bs.drop (i+1))).2):=rfl
  obtain ⟨rfl,hs⟩:=hs
  refine zd ?_
  refine wp_lt ?_
  refine zf (λhv=>?_) λhv=>?_
  ·refine wp_lt ?_
   rw [if_pos hv] at hunf
   have hpl:zt n0 bs=(z01 (bs[i].to n),[]):=by rw [hpl,hunf,if_pos hv]
   refine zk (zk ⟨rfl,.inl ⟨by rw [hpl];exact hv,by rw [hpl],hs.sub⟩⟩)
  ·have hv:=Decidable.not_not.1 hv
   rw [if_neg (by rw [hv];simp)] at hunf
   obtain ⟨s1,s2,⟨-,hba,-⟩,-,s3⟩:=z1d _ hv
   have s1:1<=z00 bs[i]:=s1
   have s3:n+z00 bs[i]<=_:=s3
   have hba:0<=n/\n<=_:=hba
   refine zr hs ?_
   refine z1t hs (enc:=zi) (bs[i].to n) λy2 w' hs=>?_
   refine wp_app' (xs:=done) (ys:=[bs[i].to n]) (enc:=zi) hs (λz1' w' hs=>?_) (by simp only [List.length_cons,List.length_nil];omega)
   refine zr hs ?_
   refine zb (z7m (bs[i].to n) hs) λ_ w' hs=>?_
   obtain ⟨rfl,hs⟩:=hs
   refine zd ?_
   have e1:z00 (bs[i].to n)=z00 bs[i]:=rfl
   rw [e1,w64 (by omega) (by omega)]
   refine wp_lt ?_
   rw [wS (i:=i) (by omega)]
   refine z0l (bs.length-(i+1)) ⟨i+1,n+z00 bs[i],done++[bs[i].to n],z1',rfl,by omega,rfl,by simp [hdl],?_,hs.sub⟩
   rw [hpl,hunf]
   by_cases h2:(zt (n+z00 bs[i]) (bs.drop (i+1))).1≠0
   ·rw [if_pos h2,if_pos h2,if_pos h2]
   ·rw [if_neg h2,if_neg h2,if_neg (by simp),List.append_assoc]
    rfl
theorem zoe (base fin:Int) (hb:0<=base/\base<9223372036854775808) (hf:0<=fin/\fin<9223372036854775808) (hs:Sat w l):Ret P F.a132 #[.int .i64 base,.int .i64 fin] w λvs w'=>∃ z:Sl,vs=[z.v]/\Sat w' (slc T.a39 1 z ((shL base fin).flatMap zh)::l) :=
 zm8 base fin <| by
  unfold zy6
  have u1_:=z1a base
  have u2_:=z1a fin
  refine z1t hs (enc:=zh) (83:UInt8) λz1 w' hs=>?_
  refine zb (z6l base hb hs) λ_ w' hs=>?_
  obtain ⟨z2,rfl,hs⟩:=hs
  refine zd ?_
  refine wp_app' (xs:=[(83:UInt8)]) (ys:=uI base) (enc:=zh) hs (λz3 w' hs=>?_) (by simp only [List.length_cons,List.length_nil];omega)
  refine zb (z6l fin hf hs) λ_ w' hs=>?_
  obtain ⟨z4,rfl,hs⟩:=hs
  refine zd ?_
  refine wp_app' (xs:=[(83:UInt8)]++uI base) (ys:=uI fin) (enc:=zh) hs (λz5 w' hs=>?_) (by simp only [List.length_append,List.length_cons,List.length_nil];omega)
  have e:[(83:UInt8)]++uI base++uI fin=shB base fin:=by simp [shB]
  rw [e] at hs
  have:=za3 base fin
  refine zb (zyi z5 (shB base fin) (by omega) hs) λ_ w' hs=>?_
  obtain ⟨z6,rfl,hs⟩:=hs
  refine zd ?_
  have hs:Sat w' (slc T.a39 1 z6 ((shL base fin).flatMap zh)::_):=hs
  exact ⟨rfl,z6,rfl,hs.sub⟩
theorem zgg (b:BatM) (hv:z01 b=0) [hb:FocR l b.x 4 (b.rs.flatMap zw)] (hs:Sat w l):Ret P F.a146 #[.agg (zi b).toArray] w λvs w'=>vs=[.int .i64 ((frL b).length:Nat)]/\Sat w' l :=
 zmz b.base b.pid b.epoch b.seq b.kind b.time b.x <| by
  unfold zwp
  have hbl:=z4c hv
  have hfl:=z3l hv
  refine z02 hs λa0 w' hs=>?_
  refine zr hs ?_
  refine zb (zsi b hs) λ_ w' hs=>?_
  rcases hs with ⟨h,-,-⟩|⟨-,z,rfl,hs⟩
  ·exact absurd hv h
  refine ⟨(z,0,()),rfl,trivial,z35 _ _ ?_⟩
  have hl:=hs.slen z (xs:=z2e b) (enc:=zh)
  refine wp_lt ?_
  rw [hl,w64 (by omega) (by omega)]
  refine wp_lt ?_
  refine ⟨rfl,?_,hs.sub⟩
  rw [hfl.2];rfl
theorem zop (s:SegR) [hx:FocR l s.x 7 (s.bs.flatMap zi)] (hok:SegOk s.p) (hv:∀ b ∈ s.bs,z01 b=0) (hbs:∀ b ∈ s.bs,FocR l b.x 4 (b.rs.flatMap zw)) (hb:s.bs.length<=1000000) (hs:Sat w l) :
  Ret P F.a145 #[.agg (z07 s).toArray] w λvs w'=>vs=[.int .i64 (s.p.file.length:Nat)]/\Sat w' l :=
 zl7 s.base s.fin s.x <| by
  unfold zxf
  have hl:=hs.slen s.x (xs:=s.bs) (enc:=zi)
  have h1:=hok.base
  have h2:=hok.fin
  have h1:0<=s.base/\s.base<=1099511627776:=h1
  have h2:s.fin=0\/(s.base<s.fin/\s.fin<=1099511627776):=h2
  have hsum:=z8n hv
  have hshl:=z4n s.base s.fin
  have hfe:s.p.file.length=(shL s.base s.fin).length+(s.bs.flatMap frL).length:=by
   rw [z1u]
   show (shL s.base s.fin).length+((s.bs.map BatM.p).flatMap frL).length=_
   rw [List.flatMap_map]
   rfl
  rw [hfe]
  refine z02 hs λa0 w' hs=>?_
  refine za hs ?_
  refine za hs ?_
  refine zb (zoe s.base s.fin (by omega) (by omega) hs) λ_ w' hs=>?_
  obtain ⟨y,rfl,hs⟩:=hs
  refine zd ?_
  have hly:=hs.slen y (xs:=shL s.base s.fin) (enc:=zh)
  refine wp_lt ?_
  refine za hs ?_
  refine zn (λq w'=>q=((((shL s.base s.fin).length+(s.bs.flatMap frL).length:Nat):Int),())/\Sat w' l) ?_ ?_
  rotate_left
  ·rintro _ w2 ⟨rfl,hs⟩
   refine wp_lt ?_
   exact ⟨rfl,rfl,hs⟩
  have hs:Sat w' l:=hs.sub
  refine z06 (λm v w=>∃ i:Nat,v=((((shL s.base s.fin).length+((s.bs.take i).flatMap frL).length:Nat):Int),((i:Int),()))/\i<=s.bs.length/\s.bs.length-i=m/\Sat w l) s.bs.length ⟨0,by rw [hly];rfl,by omega,rfl,hs⟩ ?_
  clear hs
  rintro m _ w ⟨i,rfl,hi,hm,hs⟩
  refine zl ?_
  refine zf (λhc=>?_) λhc=>?_
  rotate_left
  ·refine zk (zg ⟨?_,hs⟩)
   rw [List.take_of_length_le (by omega)]
  have hil:i<s.bs.length:=by omega
  have hR:=hbs _ (List.getElem_mem hil)
  have hvi:=hv _ (List.getElem_mem hil)
  have e1:((s.bs.take (i+1)).flatMap frL).length=((s.bs.take i).flatMap frL).length+(frL s.bs[i]).length:=by
   rw [List.take_succ_eq_append_getElem hil,List.flatMap_append,List.length_append];simp
  have e2:((s.bs.take (i+1)).flatMap frL).length<=(s.bs.flatMap frL).length:=by
   have:s.bs.flatMap frL=(s.bs.take (i+1)).flatMap frL++(s.bs.drop (i+1)).flatMap frL:=by rw [<- List.flatMap_append,List.take_append_drop]
   rw [this,List.length_append];omega
  refine z1n hs (xs:=s.bs) (enc:=zi) i hil ?_
  refine zv hs λc w' hs=>?_
  refine zx hs λw' hs=>?_
  refine zr hs ?_
  refine zb (zgg s.bs[i] hvi hs) λ_ w' hs=>?_
  obtain ⟨rfl,hs⟩:=hs
  refine zd ?_
  rw [w64 (by omega) (by omega)]
  refine wp_lt ?_
  rw [wS (i:=i) (by omega)]
  refine z0l (s.bs.length-(i+1)) ⟨i+1,?_,by omega,rfl,hs.tail⟩
  rw [e1]
  refine Prod.ext ?_ rfl
  show _=(((shL s.base s.fin).length+(((s.bs.take i).flatMap frL).length+(frL s.bs[i]).length):Nat):Int)
  omega
end
instance:EncF z07 2 .slc (λs=>s.x):=⟨λ_=>rfl⟩
section
variable {P:Program} {w:World} {l r:List HP} {Q:Post} {S:World->Prop} {T t:TypeId} {sz:Nat}
theorem zu5 {α:Type} {enc:α->List Value} {xs:List α} {x:Sl} {i i':Int} {j:Nat} {k:Prog} {v:Value} (hs:Sat w l) [hf:FocS l x T sz (xs.flatMap enc) r] [hE:EncN enc sz] [hT:One P t] (n:Nat) (hn:n<xs.length) (y:α)
  (h:∀ w',Sat w' (slc T sz x ((xs.set n y).flatMap enc)::r)->k.wp P tt w' Q) (hi:i=n:=by first|rfl|omega) (hi':i'=i:=by rfl) (hy:enc y=(enc xs[n]).set j v:=by rfl) [hv:Cells v [v]] [ho:Ones [v]] (hj:j<sz:=by decide) :
  (Prog.ex [.adr] (c1 λa=>0<=i/\i<((x.len:Nat):Int)/\x.a=some a) (u1 λa=>.untick (.actU (st t (Addr.add (Addr.add a (Int.toNat i'*sz)) j) v) k))).wp P S w Q:=by
 subst hi hi'
 have hr:=(hs.focS x).rd
 have hl:x.len=xs.length:=hr.len hE.len hE.pos
 obtain ⟨a,ha,he⟩:=hr.el hE.len (by omega)
 refine ⟨(a,()),⟨by omega,by omega,ha⟩,zj ?_⟩
 exact zjl (xs:=xs) (i:=n) (j:=j) (y:=y) hE.len hs ha hn hj (λb o e=>by subst e;rw [z2t,z2t,Int.toNat_natCast,Nat.add_assoc]) hv.ok (by have:=ho.ok v (List.mem_singleton.2 rfl);exact this) hy λw' hs'=>⟨trivial,h w' hs'⟩
end
def SegR.add (s:SegR) (z:Sl) (q:List BatM):SegR:=⟨s.base,s.fin,z,s.bs++q⟩
theorem z03h (s:SegR) (z:Sl) (q:List BatM):(s.add z q).p=s.p.add q:=by simp [SegR.p,SegA.add,SegR.add]
section
variable {w:World} {l r:List HP} {a:Nat} {R:RefM}
theorem zed {SR:List SegR} {s:SegR} (hs:Sat w (z0u s::HP.all (SR.map z0u)::l)):Sat w (HP.all ((SR++[s]).map z0u)::l):=by
 have h1:Sat w (HP.all ((s::SR).map z0u)::l):=hs.all_put
 exact h1.all_perm ((List.perm_append_comm (l₁:=[s]) (l₂:=SR)).map z0u)
theorem zqt {SR:List SegR} {s:SegR} (hs:Sat w (HP.all ((SR++[s]).map z0u)::l)):Sat w (z0u s::HP.all (SR.map z0u)::l):=by
 have h1:Sat w (HP.all ((s::SR).map z0u)::l):=hs.all_perm ((List.perm_append_comm (l₁:=SR) (l₂:=[s])).map z0u)
 exact h1.all_cons
theorem z040 {seg:Int} {SR0:List SegR} {s:SegR} (h:SegOk s.p) (n:Nat):z3r seg ((SR0++[s]).map SegR.p) n=(decide (s.bs=[]) || decide (((s.p.file.length+n:Nat):Int)<=seg)):=by
 unfold z3r
 rw [List.map_append]
 show (match (SR0.map SegR.p++[s.p]).getLast? with|none=>false|some s=>_)=_
 rw [z1g]
 simp only
 congr 1
 rw [Bool.eq_iff_iff]
 simp only [decide_eq_true_eq]
 have h1:=z38 h
 have h2:=h.base
 have h3:=(h.bs.next h2.1).2.1
 show z05 (s.bs.map BatM.p)=0↔_
 have h1':s.bs.map BatM.p≠[]->s.p.base<z05 (s.bs.map BatM.p):=h1.2.2.2.2
 have h3':s.bs.map BatM.p=[]->z05 (s.bs.map BatM.p)=0:=h3
 constructor
 ·intro h
  by_cases h4:s.bs.map BatM.p=[]
  ·exact List.map_eq_nil_iff.1 h4
  ·have:=h1' h4
   omega
 ·intro h
  exact h3' (by rw [h];rfl)
set_option maxHeartbeats 1000000 in
theorem ztu (x:Sl) (bs:List BatM) [hf:Fo l rfP a R r] [hok:okR R r] (hsl:R.SR.length<=900000) (hal:R.bs.length<=900000) (hseg : -9223372036854775808<=R.seg/\R.seg<9223372036854775808) (hbl:bs.length<=900)
  (hx:FocR r x 7 (bs.flatMap zi)) (hbs:∀ b ∈ bs,FocR r b.x 4 (b.rs.flatMap zw)) (hs:Sat w l) :
  Ret P F.a136 #[.pointer (some ⟨a,0,none⟩),x.v] w λvs w'=>vs=[.int .i64 (z0w R.seg R.l bs).1.1,.int .i64 (z0w R.seg R.l bs).1.2] /\
   ∃ R':RefM,R'.seg=R.seg/\R'.gap=R.gap/\R'.l=(z0w R.seg R.l bs).2/\R'.SR.length<=R.SR.length+1/\R'.bs.length<=R.bs.length+bs.length/\(∀ b ∈ R'.bs,b ∈ R.bs\/∃ c ∈ bs,b.x=c.x/\b.rs=c.rs)/\okR R' r/\Sat w' (rfP a R'::r) :=
 zmc _ x <| by
  unfold zxm
  have hs:=hs.perm hf.perm
  clear hf
  have hlxs:=hs.slen x (xs:=bs) (enc:=zi)
  have hsame:∀ {w:World},Sat w (rfP a R::r)->∃ R':RefM,R'.seg=R.seg/\R'.gap=R.gap/\R'.l=R.l/\R'.SR.length<=R.SR.length+1/\R'.bs.length<=R.bs.length+bs.length/\(∀ b ∈ R'.bs,b ∈ R.bs\/∃ c ∈ bs,b.x=c.x/\b.rs=c.rs)/\okR R' r/\Sat w (rfP a R'::r):=λhs=>⟨R,rfl,rfl,rfl,by omega,by omega,λb hb=>.inl hb,hok,hs⟩
  have hnx:=hok.segs.next (Int.le_refl 0)
  have hrseg:=z7z (seg:=R.seg) (bs:=bs) hok.segs
  unfold z0w at hrseg ⊢
  refine zf (λh=>?_) λh=>?_
  ·have:bs=[]:=List.length_eq_zero_iff.1 (by omega)
   rw [if_pos this]
   exact ⟨rfl,rfl,hsame hs⟩
  have hne:bs≠[]:=by rintro rfl;simp at hlxs;omega
  rw [if_neg hne] at hrseg ⊢
  obtain ⟨z,hs⟩:=z5b hs
  refine zb (zou (R:=R) (z:=z) (a:=a) x bs inferInstance (λs hs=>z6n hs) (by omega) inferInstance (λb hb=>by have:=hbs b hb;infer_instance) hs) λ_ w' hs=>?_
  rcases hs with ⟨he,rfl,hs⟩|⟨he,z1,rfl,hs⟩
  ·refine zd ?_
   refine wp_lt ?_
   refine z1b ?_ he
   refine wp_lt ?_
   rw [if_pos he]
   exact ⟨rfl,rfl,hsame (z2d R hs)⟩
  refine ⟨(z1,0,()),rfl,trivial,z35 _ _ ?_⟩
  refine wp_lt ?_
  refine z0g ?_ (by simp)
  rw [if_neg (by rw [he];simp)] at hrseg ⊢
  have hplo:=z82 (bs:=bs) (n:=zp R.l) he
  obtain ⟨hp1,hp2,hp3⟩:=hplo
  have hbl0:0<bs.length:=List.length_pos_iff.2 hne
  generalize hn0:zp R.l=n0 at *
  generalize hq:(zt n0 bs).2=q at *
  have hsum:=z8n λb hb=>(hp2 b hb).1
  have hqF:∀ b ∈ q,FocR r b.x 4 (b.rs.flatMap zw):=λb hb=>by
   obtain ⟨-,c,hc,e1,e2⟩:=hp2 b hb
   rw [e1,e2];exact hbs c hc
  have hfsum:∀ i,((q.take i).flatMap frL).length<=(q.flatMap frL).length:=λi=>by
   have:(q.flatMap frL)=(q.take i).flatMap frL++(q.drop i).flatMap frL:=by rw [<- List.flatMap_append,List.take_append_drop]
   rw [this,List.length_append];omega
  have hlq:=hs.slen z1 (xs:=q) (enc:=zi)
  refine zn (λv w'=>v=(((q.flatMap frL).length:Int),())/\Sat w' (slc T.a1 7 z1 (q.flatMap zi)::pt a (.cells #[.int .i64 R.seg,.int .i64 R.gap,.slice z.a z.len z.cap] T.a37)::slc T.a38 3 z (R.SR.flatMap z07)::HP.all (R.SR.map z0u)::r)) ?_ ?_
  ·refine z06 (λm v w=>∃ i:Nat,v=((((q.take i).flatMap frL).length:Int),((i:Int),()))/\i<=q.length/\q.length-i=m/\Sat w (slc T.a1 7 z1 (q.flatMap zi)::pt a (.cells #[.int .i64 R.seg,.int .i64 R.gap,.slice z.a z.len z.cap] T.a37)::slc T.a38 3 z (R.SR.flatMap z07)::HP.all (R.SR.map z0u)::r)) q.length ⟨0,rfl,by omega,rfl,hs⟩ ?_
   clear hs
   rintro m _ w ⟨i,rfl,hi,hm,hs⟩
   refine zl ?_
   refine zf (λhc=>?_) λhc=>?_
   rotate_left
   ·refine zk (zg ⟨?_,hs⟩)
    rw [List.take_of_length_le (by omega)]
   have hil:i<q.length:=by omega
   have hR:=hqF _ (List.getElem_mem hil)
   have hvi:=(hp2 _ (List.getElem_mem hil)).1
   have e1:((q.take (i+1)).flatMap frL).length=((q.take i).flatMap frL).length+(frL q[i]).length:=by
    rw [List.take_succ_eq_append_getElem hil,List.flatMap_append,List.length_append];simp
   have e2:=hfsum (i+1)
   refine z1n hs (xs:=q) (enc:=zi) i hil ?_
   refine zv hs λc w' hs=>?_
   refine zx hs λw' hs=>?_
   refine zr hs ?_
   refine zb (zgg q[i] hvi hs) λ_ w' hs=>?_
   obtain ⟨rfl,hs⟩:=hs
   refine zd ?_
   rw [w64 (by omega) (by omega)]
   refine wp_lt ?_
   rw [wS (i:=i) (by omega)]
   refine z0l (q.length-(i+1)) ⟨i+1,?_,by omega,rfl,hs.tail⟩
   rw [e1]
   refine Prod.ext ?_ rfl
   show _=((((q.take i).flatMap frL).length+(frL q[i]).length:Nat):Int)
   omega
  clear hs
  rintro _ w2 ⟨rfl,hs⟩
  have hlz:=hs.slen z (xs:=R.SR) (enc:=z07)
  refine zl ?_
  refine zm ?_
  refine za hs ?_
  rw [w64 (by omega) (by omega)]
  refine wp_lt ?_
  generalize hNN:(q.flatMap frL).length=NN at *
  refine zn (λv w'=>v=(!z3r R.seg R.l NN,())/\Sat w' (slc T.a1 7 z1 (q.flatMap zi)::pt a (.cells #[.int .i64 R.seg,.int .i64 R.gap,.slice z.a z.len z.cap] T.a37)::slc T.a38 3 z (R.SR.flatMap z07)::HP.all (R.SR.map z0u)::r)) ?_ ?_
  ·refine z0a hs λw' hs=>?_
   refine z0h ?_
   refine za hs ?_
   by_cases h0:R.SR=[]
   ·have hz0:z.len=0:=by rw [hlz,h0];rfl
    have hr0:z3r R.seg R.l NN=false:=by unfold RefM.l;rw [h0];rfl
    have hd:decide ((z.len:Int)-1<0)=true:=decide_eq_true (by omega)
    refine z80 (λh=>by rw [hd] at h;cases h) ?_
    refine z5m (⟨none,0,0⟩:Sl) (λh=>by rw [hd] at h;cases h) ?_
    refine z0h ?_
    refine za hs ?_
    refine z80 (λh=>by rw [hd] at h;cases h.1) ?_
    refine zzf (((0:Int),(0:Int),(⟨none,0,0⟩:Sl),()):HL [.int .i64,.int .i64,.slc]) (λh=>absurd h.1 (by rw [hd];exact Bool.noConfusion)) ?_
    refine zl ?_
    refine z0h ?_
    refine z1e hs ?_
    refine z1b ?_ (by omega)
    refine zj ?_
    exact zg ⟨by rw [hr0];rfl,hs⟩
   obtain ⟨SR0,s,hSR⟩:=z29 h0
   have hlen:R.SR.length=SR0.length+1:=by rw [hSR];simp
   have hil:SR0.length<R.SR.length:=by omega
   have hgs:R.SR[SR0.length]=s:=by simp [hSR]
   have hsm:s ∈ R.SR:=by rw [hSR];simp
   obtain ⟨v1,v2,v3⟩:=hok.valid s hsm
   have hrm:z3r R.seg R.l NN=(decide (s.bs=[]) || decide (((s.p.file.length+NN:Nat):Int)<=R.seg)):=by
    unfold RefM.l;rw [hSR];exact z040 v1 NN
   have hsx:FocR (HP.all (R.SR.map z0u)::r) s.x 7 (s.bs.flatMap zi):=z6n hsm
   have hlx:=hs.slen s.x (xs:=s.bs) (enc:=zi)
   refine zh5 hs (xs:=R.SR) (enc:=z07) SR0.length hil ?_
   rw [hgs]
   refine z0h ?_
   refine za hs ?_
   refine zyn hs (xs:=R.SR) (enc:=z07) (s.base,s.fin,s.x,()) (λ_=>⟨SR0.length,hil,by omega,by rw [hgs];rfl⟩) ?_
   refine zl ?_
   refine z0h ?_
   refine z1e hs ?_
   refine z0g ?_ (by omega)
   refine zf (λh2=>?_) λh2=>?_
   ·have hsb:s.bs≠[]:=by rintro h3;rw [h3] at hlx;simp at hlx;omega
    refine zb (zop s v1 (λb hb=>(v2 b hb).1) (λb hb=>by have:=(v2 b hb).2;infer_instance) v3 hs) λ_ w' hs=>?_
    obtain ⟨rfl,hs⟩:=hs
    refine zd ?_ (by first|trivial|(repeat (first|exact trivial|exact λ_=>z0i hs|exact λ_=>z0n hs|refine And.intro ?_ ?_)))
    refine zj ?_
    refine zg ⟨?_,hs⟩
    have hfe:s.p.file.length<=1000000000000:=by
     rw [z1u]
     have h3:=z4n s.p.base s.p.fin
     have h4:(s.p.bs.flatMap frL).length<=s.p.bs.length*262152:=z8n λb hb=>(v1.bs.valid b hb).1
     have h5:s.p.bs.length=s.bs.length:=List.length_map ..
     omega
    rw [hrm,w64 (by omega) (by omega)]
    refine Prod.ext ?_ rfl
    show decide _=!(decide (s.bs=[]) || _)
    rw [decide_eq_false hsb,Bool.false_or,<- decide_not]
    apply decide_eq_decide.2
    omega
   ·have hsb:s.bs=[]:=List.length_eq_zero_iff.1 (by omega)
    refine zj ?_
    refine zg ⟨?_,hs⟩
    rw [hrm,decide_eq_true hsb];rfl
  clear hs
  rintro _ w3 ⟨rfl,hs⟩
  refine zl ?_
  refine zn (λv w'=>∃ (R1:RefM) (z2:Sl) (SR0:List SegR) (s:SegR),v=((SR0.length:Int),())/\R1.SR=SR0++[s]/\R1.seg=R.seg/\R1.gap=R.gap/\R1.SR.length<=R.SR.length+1/\R1.bs=R.bs /\
   (if z3r R.seg R.l NN then z57 R.l q else R.l++[(⟨n0,0,[]⟩:SegA).add q])=SR0.map SegR.p++[s.p.add q] /\
   Sat w' (slc T.a1 7 z1 (q.flatMap zi)::pt a (.cells #[.int .i64 R1.seg,.int .i64 R1.gap,.slice z2.a z2.len z2.cap] T.a37)::slc T.a38 3 z2 (R1.SR.flatMap z07)::HP.all (R1.SR.map z0u)::r)) ?_ ?_
  ·refine zf (λhr=>?_) λhr=>?_
   ·have hr:z3r R.seg R.l NN=false:=by simpa using hr
    refine zm ?_
    refine za hs ?_
    have hs:Sat w3 (slc T.a38 3 ⟨none,0,0⟩ (([]:List SegR).flatMap z07)::_):=hs.slc_nil
    refine wp_app' (x:=⟨none,0,0⟩) (xs:=([]:List SegR)) (ys:=R.SR) (enc:=z07) hs (λz3 w' hs=>?_) (by simp only [List.length_nil];omega)
    refine zb (ze7 (R:=R) (z:=z) (a:=a) inferInstance (λs hs=>z6n hs) hs) λ_ w' hs=>?_
    rw [hn0] at hs
    obtain ⟨rfl,hs⟩:=hs
    refine zd ?_
    refine z1t hs (enc:=z07) (⟨n0,0,⟨none,0,0⟩,[]⟩:SegR) λz4 w' hs=>?_
    refine wp_app' (xs:=[]++R.SR) (ys:=[(⟨n0,0,⟨none,0,0⟩,[]⟩:SegR)]) (enc:=z07) hs (λz5 w' hs=>?_) (by simp only [List.length_append,List.length_cons,List.length_nil];omega)
    refine zm ?_
    refine z0d hs λw' hs=>?_
    rw [w64 (by omega) (by omega)]
    refine wp_lt ?_
    have hs:Sat w' (pt a (.cells #[.int .i64 R.seg,.int .i64 R.gap,.slice z5.a z5.len z5.cap] T.a37)::slc T.a38 3 z5 ((R.SR++[(⟨n0,0,⟨none,0,0⟩,[]⟩:SegR)]).flatMap z07)::slc T.a38 3 z4 _::slc T.a1 7 z1 (q.flatMap zi)::slc T.a38 3 z (R.SR.flatMap z07)::HP.all (R.SR.map z0u)::r):=hs
    have hs:Sat w' (z0u (⟨n0,0,⟨none,0,0⟩,[]⟩:SegR)::HP.all (R.SR.map z0u)::slc T.a1 7 z1 (q.flatMap zi)::pt a (.cells #[.int .i64 R.seg,.int .i64 R.gap,.slice z5.a z5.len z5.cap] T.a37)::slc T.a38 3 z5 ((R.SR++[(⟨n0,0,⟨none,0,0⟩,[]⟩:SegR)]).flatMap z07)::r):=by
     have h1:Sat w' (HP.all (R.SR.map z0u)::slc T.a1 7 z1 (q.flatMap zi)::pt a (.cells #[.int .i64 R.seg,.int .i64 R.gap,.slice z5.a z5.len z5.cap] T.a37)::slc T.a38 3 z5 ((R.SR++[(⟨n0,0,⟨none,0,0⟩,[]⟩:SegR)]).flatMap z07)::r):=hs.sub
     exact h1.slc_nil
    have hs:=zed hs
    refine zg ⟨⟨R.seg,R.gap,R.SR++[⟨n0,0,⟨none,0,0⟩,[]⟩]⟩,z5,R.SR,⟨n0,0,⟨none,0,0⟩,[]⟩,?_,rfl,rfl,rfl,by simp,by simp [RefM.bs],?_,?_⟩
    ·refine Prod.ext ?_ rfl
     show (z.len:Int)-1+1=_
     omega
    ·rw [hr];rfl
    ·exact hs.sub
   ·have hr:z3r R.seg R.l NN=true:=by simpa using hr
    have h0:R.SR≠[]:=by
     intro h0
     have:R.l=[]:=by unfold RefM.l;rw [h0];rfl
     rw [this] at hr
     cases hr
    obtain ⟨SR0,s,hSR⟩:=z29 h0
    have hlen:R.SR.length=SR0.length+1:=by rw [hSR];simp
    refine zg ⟨R,z,SR0,s,?_,hSR,rfl,rfl,by omega,rfl,?_,hs⟩
    ·refine Prod.ext ?_ rfl
     show (z.len:Int)-1=_
     omega
    ·rw [hr,if_pos rfl]
     have:R.l=SR0.map SegR.p++[s.p]:=by unfold RefM.l;rw [hSR];simp
     rw [this,z3c]
  clear hs
  rintro _ w4 ⟨R1,z2,SR0,s,rfl,hSR,hr1,hr2,hr3,hr4,hres,hs⟩
  refine zl ?_
  have hil:SR0.length<R1.SR.length:=by rw [hSR];simp
  have hgs:R1.SR[SR0.length]=s:=by simp [hSR]
  have hsm:s ∈ R1.SR:=by rw [hSR];simp
  have hsbl:s.bs.length<=900000:=by
   have:s.bs.length<=R1.bs.length:=by
    unfold RefM.bs
    rw [hSR]
    simp only [List.flatMap_append,List.flatMap_cons,List.length_append]
    omega
   rw [hr4] at this
   omega
  have hsx:FocR (HP.all (R1.SR.map z0u)::r) s.x 7 (s.bs.flatMap zi):=z6n hsm
  rw [hres] at hrseg ⊢
  refine zm ?_
  refine za hs ?_
  refine z92 hs (xs:=R1.SR) (enc:=z07) SR0.length hil ?_
  rw [hgs]
  have hs:Sat w4 (slc T.a1 7 ⟨none,0,0⟩ (([]:List BatM).flatMap zi)::_):=hs.slc_nil
  refine wp_app' (x:=⟨none,0,0⟩) (xs:=([]:List BatM)) (ys:=s.bs) (enc:=zi) hs (λz3 w' hs=>?_) (by simp only [List.length_nil];omega)
  refine zn (λ_ w'=>∃ z4:Sl,Sat w' (slc T.a38 3 z2 ((R1.SR.set SR0.length (s.add z4 q)).flatMap z07)::slc T.a1 7 z4 ((s.bs++q).flatMap zi)::slc T.a1 7 z1 (q.flatMap zi)::pt a (.cells #[.int .i64 R1.seg,.int .i64 R1.gap,.slice z2.a z2.len z2.cap] T.a37)::HP.all (R1.SR.map z0u)::r)) ?_ ?_
  ·refine z0a hs λw' hs=>?_
   refine zm ?_
   refine z1e hs ?_
   rw [List.nil_append] at hs
   refine zns (x:=z3) (y:=z1) (xs:=s.bs) (ys:=q) (enc:=zi) hs (λz4 w' hs=>⟨(by first|trivial|(repeat (first|exact trivial|exact λ_=>z0i hs|exact λ_=>z0n hs|refine And.intro ?_ ?_))),?_⟩) (by omega)
   refine zu5 hs (xs:=R1.SR) (enc:=z07) SR0.length hil (s.add z4 q) (λw' hs=>?_) (hy:=by rw [hgs];rfl)
   refine zj ?_
   exact zg ⟨z4,hs.sub⟩
  clear hs
  rintro _ w5 ⟨z4,hs⟩
  refine zl ?_
  have hlq0:0<q.length:=by omega
  refine za5 hs (xs:=q) (enc:=zi) 0 hlq0 ?_
  refine wp_lt ?_
  have hq0:(q[0]'hlq0).base=n0:=hp3 _ (by rw [List.head?_eq_getElem?,List.getElem?_eq_getElem])
  rw [hq0]
  have hset:R1.SR.set SR0.length (s.add z4 q)=SR0++[s.add z4 q]:=by
   rw [hSR,List.set_append];simp
  rw [hset,hSR] at hs
  have hs:=zqt (hs.pick [4])
  have hs:Sat w5 (slc T.a1 7 z4 ((s.bs++q).flatMap zi)::HP.all (SR0.map z0u)::pt a (.cells #[.int .i64 R1.seg,.int .i64 R1.gap,.slice z2.a z2.len z2.cap] T.a37)::slc T.a38 3 z2 ((SR0++[s.add z4 q]).flatMap z07)::r):=hs.sub
  have hs:=zed (s:=s.add z4 q) hs
  have hs:=z2d ⟨R1.seg,R1.gap,SR0++[s.add z4 q]⟩ (z:=z2) (hs.pick [1,1])
  have hRl:RefM.l ⟨R1.seg,R1.gap,SR0++[s.add z4 q]⟩=SR0.map SegR.p++[s.p.add q]:=by
   unfold RefM.l
   rw [List.map_append,List.map_cons,List.map_nil,z03h]
  have hRb:RefM.bs ⟨R1.seg,R1.gap,SR0++[s.add z4 q]⟩=R1.bs++q:=by
   unfold RefM.bs
   rw [hSR]
   simp [SegR.add]
  refine ⟨rfl,rfl,⟨R1.seg,R1.gap,SR0++[s.add z4 q]⟩,hr1,hr2,hRl,?_,?_,λb hb=>?_,⟨by rw [hRl];exact hrseg,λb hb=>?_,?_,?_⟩,hs⟩
  ·show (SR0++[_]).length<=_
   rw [hSR] at hr3
   simpa using hr3
  ·rw [hRb,hr4,List.length_append];omega
  ·rw [hRb,hr4] at hb
   rcases List.mem_append.1 hb with hb|hb
   ·exact .inl hb
   ·exact .inr (hp2 b hb).2
  ·rw [hRb,hr4] at hb
   rcases List.mem_append.1 hb with hb|hb
   ·exact hok.rd b hb
   ·exact hqF b hb
  ·show (SR0++[_]).length<=_
   rw [hSR] at hr3
   simp at hr3 ⊢
   omega
  ·rw [hRb,hr4,List.length_append];omega
theorem zyl [hf:Fo l rfP a R r] [hok:okR R r] (hsl:R.SR.length<=900000) (hnl:zp R.l<=1099511627776) (hs:Sat w l) :
  Ret P F.a142 #[.pointer (some ⟨a,0,none⟩)] w λvs w'=>vs=[.int .i64 (z3j R.l).1] /\
   ∃ R':RefM,R'.seg=R.seg/\R'.gap=R.gap/\R'.l=(z3j R.l).2/\R'.SR.length<=R.SR.length+1/\R'.bs=R.bs/\okR R' r/\Sat w' (rfP a R'::r) :=
 zlc _ <| by
  unfold zxh
  have hs:=hs.perm hf.perm
  clear hf
  have hrseg:=zfl hok.segs hnl
  obtain ⟨z,hs⟩:=z5b hs
  have hlz:=hs.slen z (xs:=R.SR) (enc:=z07)
  unfold z3j at hrseg ⊢
  refine z0a hs λw' hs=>?_
  refine zm ?_
  refine za hs ?_
  refine z0h ?_
  refine za hs ?_
  refine z0h ?_
  refine za hs ?_
  by_cases h0:R.SR=[]
  ·have hz0:z.len=0:=by rw [hlz,h0];rfl
   have hd:(((z.len:Nat):Int) == 0)=true:=by rw [hz0];rfl
   have hl0:z5x R.l=0:=by unfold RefM.l;rw [h0];rfl
   rw [if_pos hl0]
   refine z80 (λh=>by rw [hd] at h;cases h) ?_
   refine z5m (⟨none,0,0⟩:Sl) (λh=>by rw [hd] at h;cases h) ?_
   refine zj ?_
   refine z1b ?_ (.inl (by omega))
   exact ⟨rfl,rfl,R,rfl,rfl,rfl,by omega,rfl,hok,z2d R hs⟩
  obtain ⟨SR0,s,hSR⟩:=z29 h0
  have hlen:R.SR.length=SR0.length+1:=by rw [hSR];simp
  have hil:SR0.length<R.SR.length:=by omega
  have hgs:R.SR[SR0.length]=s:=by simp [hSR]
  have hsm:s ∈ R.SR:=by rw [hSR];simp
  obtain ⟨v1,v2,v3⟩:=hok.valid s hsm
  have hsx:FocR (HP.all (R.SR.map z0u)::r) s.x 7 (s.bs.flatMap zi):=z6n hsm
  have hlx:=hs.slen s.x (xs:=s.bs) (enc:=zi)
  have hln:z5x R.l=z05 (s.bs.map BatM.p):=by
   have:R.l=SR0.map SegR.p++[s.p]:=by unfold RefM.l;rw [hSR];simp
   rw [this,zdv]
   rfl
  have h1':s.bs.map BatM.p≠[]->s.p.base<z05 (s.bs.map BatM.p):=(z38 v1).2.2.2.2
  have hb0:=v1.base
  rw [w64 (by omega) (by omega)]
  refine zh5 hs (xs:=R.SR) (enc:=z07) SR0.length hil ?_
  rw [hgs]
  refine zj ?_
  refine zf (λh=>?_) λh=>?_
  ·have hsb:s.bs=[]:=List.length_eq_zero_iff.1 (by omega)
   have hl0:z5x R.l=0:=by rw [hln,hsb];rfl
   rw [if_pos hl0]
   exact ⟨rfl,rfl,R,rfl,rfl,rfl,by omega,rfl,hok,z2d R hs⟩
  have hsb:s.bs.map BatM.p≠[]:=by
   intro h3
   have h3:=List.map_eq_nil_iff.1 h3
   rw [h3] at hlx
   exact h (.inr (by simp at hlx;omega))
  have:=h1' hsb
  have hl0:z5x R.l≠0:=by rw [hln];omega
  rw [if_neg hl0] at hrseg ⊢
  generalize hn0:zp R.l=n0 at hrseg hnl ⊢
  refine zm ?_
  refine za hs ?_
  have hs:Sat _ (slc T.a38 3 ⟨none,0,0⟩ (([]:List SegR).flatMap z07)::_):=hs.slc_nil
  refine wp_app' (x:=⟨none,0,0⟩) (xs:=([]:List SegR)) (ys:=R.SR) (enc:=z07) hs (λz3 w' hs=>?_) (by simp only [List.length_nil];omega)
  refine zb (ze7 (R:=R) (z:=z) (a:=a) inferInstance (λs hs=>z6n hs) hs) λ_ w' hs=>?_
  rw [hn0] at hs
  obtain ⟨rfl,hs⟩:=hs
  refine zd ?_
  refine z1t hs (enc:=z07) (⟨n0,0,⟨none,0,0⟩,[]⟩:SegR) λz4 w' hs=>?_
  refine wp_app' (xs:=[]++R.SR) (ys:=[(⟨n0,0,⟨none,0,0⟩,[]⟩:SegR)]) (enc:=z07) hs (λz5 w' hs=>?_) (by simp only [List.length_append,List.length_cons,List.length_nil];omega)
  refine zm ?_
  refine z0d hs λw' hs=>?_
  have hs:Sat w' (pt a (.cells #[.int .i64 R.seg,.int .i64 R.gap,.slice z5.a z5.len z5.cap] T.a37)::slc T.a38 3 z5 ((R.SR++[(⟨n0,0,⟨none,0,0⟩,[]⟩:SegR)]).flatMap z07)::slc T.a38 3 z4 _::slc T.a38 3 z (R.SR.flatMap z07)::HP.all (R.SR.map z0u)::r):=hs
  have hs:Sat w' (z0u (⟨n0,0,⟨none,0,0⟩,[]⟩:SegR)::HP.all (R.SR.map z0u)::pt a (.cells #[.int .i64 R.seg,.int .i64 R.gap,.slice z5.a z5.len z5.cap] T.a37)::slc T.a38 3 z5 ((R.SR++[(⟨n0,0,⟨none,0,0⟩,[]⟩:SegR)]).flatMap z07)::r):=by
   have h1:Sat w' (HP.all (R.SR.map z0u)::pt a (.cells #[.int .i64 R.seg,.int .i64 R.gap,.slice z5.a z5.len z5.cap] T.a37)::slc T.a38 3 z5 ((R.SR++[(⟨n0,0,⟨none,0,0⟩,[]⟩:SegR)]).flatMap z07)::r):=hs.sub
   exact h1.slc_nil
  have hs:=zed hs
  have hs:=z2d ⟨R.seg,R.gap,R.SR++[⟨n0,0,⟨none,0,0⟩,[]⟩]⟩ (z:=z5) (hs.pick [1,1])
  have hRl:RefM.l ⟨R.seg,R.gap,R.SR++[⟨n0,0,⟨none,0,0⟩,[]⟩]⟩=R.l++[⟨n0,0,[]⟩]:=by
   unfold RefM.l
   rw [List.map_append]
   rfl
  have hRb:RefM.bs ⟨R.seg,R.gap,R.SR++[⟨n0,0,⟨none,0,0⟩,[]⟩]⟩=R.bs:=by simp [RefM.bs]
  exact ⟨rfl,rfl,⟨R.seg,R.gap,R.SR++[⟨n0,0,⟨none,0,0⟩,[]⟩]⟩,rfl,rfl,hRl,by simp,hRb,⟨by rw [hRl];exact hrseg,by rw [hRb];exact hok.rd,by simp;omega,by rw [hRb];exact hok.all⟩,hs⟩
end
section
variable {w:World} {l r:List HP} {a:Nat} {R:RefM}
theorem zsf (s:SegR) (h:s ∈ R.SR):s.bs.length<=R.bs.length:=by
 obtain ⟨u,v,huv⟩:=List.append_of_mem h
 unfold RefM.bs
 rw [huv]
 simp only [List.flatMap_append,List.flatMap_cons,List.length_append]
 omega
end
def z1r (upto:Int):Int->List BatM->Bool
 | _,[]=>true
 | n,b::bs=>(decide (z01 b=0) && decide (n<=b.base) && decide (b.base+z00 b<=upto)) && z1r upto (b.base+z00 b) bs
def z5p (upto:Int):Nat->Nat->List SegA->Nat
 | _,k,[]=>k
 | i,k,s::l=>z5p upto (i+1) (if 0<i/\s.base=upto then i else k) l
def z1m (l:List SegA) (upto:Int):Nat:=z5p upto 0 0 l
theorem znx (upto:Int):∀ (l:List SegA) (i k:Nat),k<=i+l.length->z5p upto i k l<=i+l.length
 | [],i,k,h=>h
 | s::l,i,k,h=>by
  unfold z5p
  have:=znx upto l (i+1) (if 0<i/\s.base=upto then i else k) (by rw [List.length_cons] at h;split <;> omega)
  rw [List.length_cons];omega
theorem zh8 (l:List SegA) (upto:Int):z1m l upto<=l.length:=by
 have:=znx upto l 0 0 (Nat.zero_le _)
 unfold z1m;omega
def z39 (l:List SegA) (upto:Int) (bs:List BatM):Int × List SegA :=
 if z1m l upto=0\/z1r upto (zo l) bs=false then (2,l) else (0,⟨zo l,upto,bs.map BatM.p⟩::l.drop (z1m l upto))
section
variable {P:Program} {w:World} {l r:List HP} {Q:Post} {S:World->Prop} {T t:TypeId} {sz:Nat}
theorem zuk {α:Type} {enc:α->List Value} {xs:List α} {x:Sl} {ii:Int} {m j:Nat} {k:Prog} {v:Value} (hs:Sat w l) [hf:FocS l x T sz (xs.flatMap enc) r] [hE:EncN enc sz] [hT:One P t] (n:Nat) (hn:n<xs.length) (y:α)
  (h:∀ w',Sat w' (slc T sz x ((xs.set n y).flatMap enc)::r)->k.wp P S w' Q) (hm:m=n*sz:=by rfl) (hi:ii=n:=by rfl) (hy:enc y=(enc xs[n]).set j v:=by rfl) [hv:Cells v [v]] [ho:Ones [v]] (hj:j<sz:=by decide) (hS:∀ w',S w':=by exact λ_=>trivial) :
  (Prog.ex [.adr] (c1 λa=>(0:Int)<=ii/\ii<((x.len:Nat):Int)/\x.a=some a) (u1 λa=>.actU (st t (Addr.add (Addr.add a m) j) v) k)).wp P S w Q:=by
 subst hm hi
 have hr:=(hs.focS x).rd
 have hl:x.len=xs.length:=hr.len hE.len hE.pos
 obtain ⟨a,ha,he⟩:=hr.el hE.len (by omega)
 refine ⟨(a,()),⟨by omega,by omega,ha⟩,?_⟩
 exact zjl (xs:=xs) (i:=n) (j:=j) (y:=y) hE.len hs ha hn hj (λb o e=>by subst e;rw [z2t,z2t,Nat.add_assoc]) hv.ok (by have:=ho.ok v (List.mem_singleton.2 rfl);exact this) hy λw' hs'=>⟨hS _,h w' hs'⟩
end
section
variable {w:World} {l r:List HP} {a:Nat} {R:RefM}
theorem zk7:∀ (k:Nat) {SR:List SegR} {l:List HP},Sat w (HP.all (SR.map z0u)::l)->Sat w (HP.all ((SR.drop k).map z0u)::l)
 | 0,SR,l,hs=>hs
 | k+1,[],l,hs=>hs
 | k+1,s::SR,l,hs=>by
  have h1:Sat w (HP.all (z0u s::SR.map z0u)::l):=hs
  have h2:Sat w (HP.all (SR.map z0u)::l):=h1.all_cons.tail
  exact zk7 k h2
theorem zzn (x:Sl) (bs:List BatM) (n upto:Int) (hlen:bs.length<=1000000) (hx:FocR l x 7 (bs.flatMap zi)) (hbs:∀ b ∈ bs,FocR l b.x 4 (b.rs.flatMap zw)) (hs:Sat w l) :
  Ret P F.a131 #[x.v,.int .i64 n,.int .i64 upto] w λvs w'=>vs=[.bool (z1r upto n bs)]/\Sat w' l :=
 zms x n upto <| by
  unfold zxs
  have hl:=hs.slen x (xs:=bs) (enc:=zi)
  refine zn (λ_ w'=>z1r upto n bs=true/\Sat w' l) ?_ ?_
  rotate_left
  ·rintro _ w2 ⟨h,hs⟩
   exact ⟨rfl,by rw [h],hs⟩
  refine z06 (λm v w=>∃ (i:Nat) (n':Int),v=(n',((i:Int),()))/\i<=bs.length/\bs.length-i=m/\z1r upto n bs=z1r upto n' (bs.drop i)/\Sat w l) bs.length ⟨0,n,rfl,by omega,rfl,rfl,hs⟩ ?_
  clear hs
  rintro m _ w ⟨i,n',rfl,hi,hm,hg,hs⟩
  refine zl ?_
  refine zf (λhc=>?_) λhc=>?_
  rotate_left
  ·rw [List.drop_eq_nil_of_le (by omega)] at hg
   exact zk (zg ⟨hg,hs⟩)
  have hil:i<bs.length:=by omega
  have hR:=hbs _ (List.getElem_mem hil)
  rw [List.drop_eq_getElem_cons hil] at hg
  refine z1n hs (xs:=bs) (enc:=zi) i hil ?_
  generalize bs[i]=b at *
  have hun:z1r upto n' (b::bs.drop (i+1))=((decide (z01 b=0) && decide (n'<=b.base) && decide (b.base+z00 b<=upto)) && z1r upto (b.base+z00 b) (bs.drop (i+1))):=rfl
  refine zv hs λa11 w' hs=>?_
  refine zx hs λw' hs=>?_
  refine zn (λq w'=>q=(!(decide (z01 b=0) && decide (n'<=b.base) && decide (b.base+z00 b<=upto)),())/\Sat w' (pt a11 (.cells (cB b) T.a1)::l)) ?_ ?_
  ·refine z0a hs λw' hs=>?_
   refine zr hs ?_
   refine zb (zbh b hs) λ_ w' hs=>?_
   obtain ⟨rfl,hs⟩:=hs
   refine zd ?_
   refine za hs ?_
   refine z1e hs ?_
   refine zr hs ?_
   refine zf (λh=>?_) λh=>?_
   ·refine zj ?_
    refine zg ⟨?_,hs⟩
    refine Prod.ext ?_ rfl
    show true=!_
    rcases h with h|h
    ·rw [decide_eq_false h];rfl
    ·rw [decide_eq_false (p:=n'<=b.base) (by omega),Bool.and_false];rfl
   ·have hv:z01 b=0:=Decidable.byContradiction λhn=>h (.inl hn)
    have hb:n'<=b.base:=by
     apply Decidable.byContradiction;intro hn;exact h (.inr (by omega))
    obtain ⟨s1,s2,⟨-,hba,-⟩,-,s3⟩:=z1d b hv
    refine zb (z7m b hs) λ_ w' hs=>?_
    obtain ⟨rfl,hs⟩:=hs
    refine zd ?_ (by first|trivial|(repeat (first|exact trivial|exact λ_=>z0i hs|exact λ_=>z0n hs|refine And.intro ?_ ?_)))
    refine zj ?_
    rw [w64 (by omega) (by omega)]
    refine zg ⟨?_,hs⟩
    refine Prod.ext ?_ rfl
    show decide _=!_
    rw [decide_eq_true hv,decide_eq_true hb,Bool.true_and,Bool.true_and,<- decide_not]
    apply decide_eq_decide.2
    omega
  clear hs
  rintro _ w ⟨rfl,hs⟩
  refine zl ?_
  rw [hun] at hg
  refine zf (λh=>?_) λh=>?_
  ·have h:(decide (z01 b=0) && decide (n'<=b.base) && decide (b.base+z00 b<=upto))=false:=by
    cases hX:(decide (z01 b=0) && decide (n'<=b.base) && decide (b.base+z00 b<=upto)) with
    | false=>rfl
    | true =>
     rw [Bool.and_eq_true,Bool.and_eq_true] at hX
     exact absurd ⟨⟨of_decide_eq_true hX.1.1,of_decide_eq_true hX.1.2⟩,of_decide_eq_true hX.2⟩ h
   rw [h,Bool.false_and] at hg
   exact zk (zk ⟨rfl,by rw [hg],hs.tail⟩)
  have h:(decide (z01 b=0) && decide (n'<=b.base) && decide (b.base+z00 b<=upto))=true:=by
   have h2:=Decidable.not_not.1 h
   rw [decide_eq_true h2.1.1,decide_eq_true h2.1.2,decide_eq_true h2.2];rfl
  rw [h,Bool.true_and] at hg
  have hv:z01 b=0:=by
   rw [Bool.and_eq_true,Bool.and_eq_true] at h
   exact of_decide_eq_true h.1.1
  obtain ⟨s1,s2,⟨-,hba,-⟩,-,s3⟩:=z1d b hv
  refine z0a hs λw' hs=>?_
  refine z1e hs ?_
  refine zr hs ?_
  refine zb (z7m b hs) λ_ w' hs=>?_
  obtain ⟨rfl,hs⟩:=hs
  refine zd ?_ (by first|trivial|(repeat (first|exact trivial|exact λ_=>z0i hs|exact λ_=>z0n hs|refine And.intro ?_ ?_)))
  rw [w64 (by omega) (by omega)]
  refine wp_lt ?_
  refine zj ?_
  rw [wS (i:=i) (by omega)]
  exact z0l (bs.length-(i+1)) ⟨i+1,b.base+z00 b,rfl,by omega,rfl,hg,hs.tail⟩
theorem zg5 (x:Sl) (bs:List BatM) (upto:Int) [hf:Fo l rfP a R r] (hsl:R.SR.length<=900000) (hbl:bs.length<=900000) (hx:FocR r x 7 (bs.flatMap zi)) (hbs:∀ b ∈ bs,FocR r b.x 4 (b.rs.flatMap zw)) (hs:Sat w l) :
  Ret P F.a141 #[.pointer (some ⟨a,0,none⟩),.int .i64 upto,x.v] w λvs w'=>vs=[.int .i64 (z39 R.l upto bs).1] /\
   ∃ R':RefM,R'.seg=R.seg/\R'.gap=R.gap/\R'.l=(z39 R.l upto bs).2/\(∀ b ∈ R'.bs,b ∈ R.bs\/b ∈ bs)/\Sat w' (rfP a R'::r) :=
 zmk _ upto x <| by
  unfold zy5
  have hs:=hs.perm hf.perm
  clear hf
  obtain ⟨z,hs⟩:=z5b hs
  have hlz:=hs.slen z (xs:=R.SR) (enc:=z07)
  have hll:R.l.length=R.SR.length:=z8m
  have hkl:=zh8 R.l upto
  refine zm ?_
  refine za hs ?_
  refine zn (λq w'=>q=((z1m R.l upto:Int),())/\Sat w' (pt a (.cells #[.int .i64 R.seg,.int .i64 R.gap,.slice z.a z.len z.cap] T.a37)::slc T.a38 3 z (R.SR.flatMap z07)::HP.all (R.SR.map z0u)::r)) ?_ ?_
  ·refine z06 (λm v w=>∃ i k:Nat,v=((k:Int),((i:Int),()))/\i<=R.SR.length/\R.SR.length-i=m/\z1m R.l upto=z5p upto i k (R.l.drop i)/\Sat w (pt a (.cells #[.int .i64 R.seg,.int .i64 R.gap,.slice z.a z.len z.cap] T.a37)::slc T.a38 3 z (R.SR.flatMap z07)::HP.all (R.SR.map z0u)::r)) R.SR.length ⟨0,0,rfl,by omega,rfl,rfl,hs⟩ ?_
   clear hs
   rintro m _ w ⟨i,k,rfl,hi,hm,hk,hs⟩
   refine zl ?_
   refine zf (λhc=>?_) λhc=>?_
   rotate_left
   ·rw [List.drop_eq_nil_of_le (by omega)] at hk
    exact zk (zg ⟨by rw [hk];rfl,hs⟩)
   have hil:i<R.SR.length:=by omega
   have hil2:i<R.l.length:=by omega
   have hbase:(R.l[i]'hil2).base=R.SR[i].base:=by simp [RefM.l,SegR.p]
   rw [List.drop_eq_getElem_cons hil2] at hk
   have hun:z5p upto i k (R.l[i]::R.l.drop (i+1))=z5p upto (i+1) (if 0<i/\R.l[i].base=upto then i else k) (R.l.drop (i+1)):=rfl
   rw [hun,hbase] at hk
   refine wp_lt ?_
   refine z0h ?_
   refine za hs ?_
   refine zh5 hs (xs:=R.SR) (enc:=z07) i hil ?_
   refine zn (λq w'=>q=(((if 0<i/\R.SR[i].base=upto then i else k:Nat):Int),())/\Sat w' (pt a (.cells #[.int .i64 R.seg,.int .i64 R.gap,.slice z.a z.len z.cap] T.a37)::slc T.a38 3 z (R.SR.flatMap z07)::HP.all (R.SR.map z0u)::r)) ?_ ?_
   ·refine zf (λh=>?_) λh=>?_
    ·refine wp_lt ?_
     refine zg ⟨?_,hs⟩
     rw [if_pos ⟨by omega,h.2⟩]
    ·refine zg ⟨?_,hs⟩
     rw [if_neg (λh2=>h ⟨by omega,h2.2⟩)]
   clear hs
   rintro _ w ⟨rfl,hs⟩
   refine zl ?_
   rw [wS (i:=i) (by omega)]
   exact z0l (R.SR.length-(i+1)) ⟨i+1,_,rfl,by omega,rfl,hk,hs⟩
  clear hs
  rintro _ w ⟨rfl,hs⟩
  refine zl ?_
  unfold z39
  generalize hk:z1m R.l upto=k at *
  have hsame:∀ {w:World},Sat w (rfP a R::r)->∃ R':RefM,R'.seg=R.seg/\R'.gap=R.gap/\R'.l=R.l/\(∀ b ∈ R'.bs,b ∈ R.bs\/b ∈ bs)/\Sat w (rfP a R'::r):=λhs=>⟨R,rfl,rfl,rfl,λb hb=>.inl hb,hs⟩
  have hs:=z2d R hs
  refine zn (λq w'=>q=(decide (k=0) || !z1r upto (zo R.l) bs,())/\Sat w' (rfP a R::r)) ?_ ?_
  ·refine zf (λh=>?_) λh=>?_
   ·have h:k=0:=by omega
    exact zg ⟨by rw [decide_eq_true h];rfl,hs⟩
   ·have h:¬ k=0:=by omega
    refine zb (zba (a:=a) hs) λ_ w' hs=>?_
    obtain ⟨rfl,hs⟩:=hs
    refine zd ?_
    refine zb (zzn x bs (zo R.l) upto (by omega) inferInstance (λb hb=>by have:=hbs b hb;infer_instance) hs) λ_ w' hs=>?_
    obtain ⟨rfl,hs⟩:=hs
    refine zd ?_
    exact zg ⟨by rw [decide_eq_false h];rfl,hs⟩
  clear hs
  rintro _ w ⟨rfl,hs⟩
  refine zl ?_
  refine zf (λh=>?_) λh=>?_
  ·have h:k=0\/z1r upto (zo R.l) bs=false:=by simpa using h
   rw [if_pos h]
   exact ⟨rfl,rfl,hsame hs⟩
  have h:¬ (k=0\/z1r upto (zo R.l) bs=false):=by simpa using h
  rw [if_neg h]
  refine zb (zba (a:=a) hs) λ_ w' hs=>?_
  obtain ⟨rfl,hs⟩:=hs
  refine zd ?_
  obtain ⟨z,hs⟩:=z5b hs
  have hlz:=hs.slen z (xs:=R.SR) (enc:=z07)
  have hzc:=(hs.pick [1]).slc_cap
  refine z1t hs (enc:=z07) (⟨zo R.l,upto,⟨none,0,0⟩,[]⟩:SegR) λz4 w' hs=>?_
  refine za5 hs (xs:=[(⟨zo R.l,upto,⟨none,0,0⟩,[]⟩:SegR)]) (enc:=z07) 0 (by show 0<1;omega) ?_
  have hs:Sat w' (slc T.a1 7 ⟨none,0,0⟩ (([]:List BatM).flatMap zi)::_):=hs.slc_nil
  refine wp_app' (x:=⟨none,0,0⟩) (xs:=([]:List BatM)) (ys:=bs) (enc:=zi) hs (λz5 w' hs=>?_) (by simp only [List.length_nil];omega)
  rw [List.nil_append] at hs
  refine zuk hs (xs:=[(⟨zo R.l,upto,⟨none,0,0⟩,[]⟩:SegR)]) (enc:=z07) 0 (by show 0<1;omega) (⟨zo R.l,upto,z5,bs⟩:SegR) λw' hs=>?_
  have hs:Sat w' (slc T.a38 3 z4 ([(⟨zo R.l,upto,z5,bs⟩:SegR)].flatMap z07)::slc T.a1 7 z5 (bs.flatMap zi)::pt a (.cells #[.int .i64 R.seg,.int .i64 R.gap,.slice z.a z.len z.cap] T.a37)::slc T.a38 3 z (R.SR.flatMap z07)::HP.all (R.SR.map z0u)::r):=hs
  refine zm ?_
  refine za hs ?_
  refine wp_must (by omega) ?_
  rw [Int.toNat_natCast]
  have hy:FocR (slc T.a38 3 z4 ([(⟨zo R.l,upto,z5,bs⟩:SegR)].flatMap z07)::slc T.a1 7 z5 (bs.flatMap zi)::pt a (.cells #[.int .i64 R.seg,.int .i64 R.gap,.slice z.a z.len z.cap] T.a37)::slc T.a38 3 z (R.SR.flatMap z07)::HP.all (R.SR.map z0u)::r) ⟨z12 z.a 3 k z.cap,z.len-k,z.cap-k⟩ 3 ((R.SR.drop k).flatMap z07):=FocR.post hzc
  have hy2:FocR (slc T.a1 7 z5 (bs.flatMap zi)::pt a (.cells #[.int .i64 R.seg,.int .i64 R.gap,.slice z.a z.len z.cap] T.a37)::slc T.a38 3 z (R.SR.flatMap z07)::HP.all (R.SR.map z0u)::r) ⟨z12 z.a 3 k z.cap,z.len-k,z.cap-k⟩ 3 ((R.SR.drop k).flatMap z07):=FocR.post hzc
  refine wp_app' (x:=z4) (y:=⟨z12 z.a 3 k z.cap,z.len-k,z.cap-k⟩) (xs:=[(⟨zo R.l,upto,z5,bs⟩:SegR)]) (ys:=R.SR.drop k) (enc:=z07) hs (λz6 w' hs=>?_) (by simp only [List.length_cons,List.length_nil,List.length_drop];omega)
  refine zm ?_
  refine z0d hs λw' hs=>?_
  have hs:Sat w' (pt a (.cells #[.int .i64 R.seg,.int .i64 R.gap,.slice z6.a z6.len z6.cap] T.a37)::slc T.a38 3 z6 (([(⟨zo R.l,upto,z5,bs⟩:SegR)]++R.SR.drop k).flatMap z07)::slc T.a1 7 z5 (bs.flatMap zi)::slc T.a38 3 z (R.SR.flatMap z07)::HP.all (R.SR.map z0u)::r):=hs
  have hs:=zk7 k (hs.pick [4])
  have hs:Sat w' (slc T.a1 7 z5 (bs.flatMap zi)::HP.all ((R.SR.drop k).map z0u)::pt a (.cells #[.int .i64 R.seg,.int .i64 R.gap,.slice z6.a z6.len z6.cap] T.a37)::slc T.a38 3 z6 (([(⟨zo R.l,upto,z5,bs⟩:SegR)]++R.SR.drop k).flatMap z07)::r):=hs.sub
  have hs:Sat w' (HP.all (((⟨zo R.l,upto,z5,bs⟩:SegR)::R.SR.drop k).map z0u)::pt a (.cells #[.int .i64 R.seg,.int .i64 R.gap,.slice z6.a z6.len z6.cap] T.a37)::slc T.a38 3 z6 (([(⟨zo R.l,upto,z5,bs⟩:SegR)]++R.SR.drop k).flatMap z07)::r):=(show Sat w' (z0u (⟨zo R.l,upto,z5,bs⟩:SegR)::HP.all ((R.SR.drop k).map z0u)::_) from hs).all_put
  have hs:=z2d ⟨R.seg,R.gap,(⟨zo R.l,upto,z5,bs⟩:SegR)::R.SR.drop k⟩ (z:=z6) (hs.pick [1,1])
  refine ⟨rfl,rfl,⟨R.seg,R.gap,(⟨zo R.l,upto,z5,bs⟩:SegR)::R.SR.drop k⟩,rfl,rfl,?_,λb hb=>?_,hs⟩
  ·unfold RefM.l
   rw [List.map_cons,List.map_drop]
   rfl
  ·have hb:b ∈ bs++(R.SR.drop k).flatMap SegR.bs:=hb
   rcases List.mem_append.1 hb with hb|hb
   ·exact .inr hb
   ·obtain ⟨t,ht,hbt⟩:=List.mem_flatMap.1 hb
    exact .inl (List.mem_flatMap.2 ⟨t,List.mem_of_mem_drop ht,hbt⟩)
end
instance:EncF zi 0 (.int .i64) (λb=>b.base):=⟨λ_=>rfl⟩
section
variable {w:World} {l r:List HP} {lg:Nat} {M:LogM}
set_option maxHeartbeats 1000000 in
theorem zyk (x:Sl) (bs:List BatM) (upto:Int) [hf:Fo l lgQ lg M r] (hup:0<=upto/\upto<=1099511627776) (hfi:0<=zo M.l/\zo M.l<=1099511627776) (hbl:bs.length<=900) (hx:FocR r x 7 (bs.flatMap zi)) (hbs:∀ b ∈ bs,FocR r b.x 4 (b.rs.flatMap zw)) (hs:Sat w l) :
  Ret P F.a68 #[.pointer (some ⟨lg,0,none⟩),.int .i64 upto,x.v] w λvs w' =>
   (z1r upto (zo M.l) bs=false/\vs=[.pointer none,.slice none 0 0,.bool false]/\Sat w' (lgQ lg M::r)) \/
   (z1r upto (zo M.l) bs=true/\∃ (a ix:Nat) (z:Sl) (fs:List (Sl × List UInt8)),vs=[.pointer (some ⟨a,0,none⟩),z.v,.bool true]/\fs.map Prod.snd=shL (zo M.l) upto::bs.map frL /\
    Sat w' (slc T.a28 1 z ((fs.map Prod.fst).flatMap z0b)::HP.all (fs.map frP)::zy M.gap a ⟨ix,(⟨zo M.l,upto,[]⟩:SegA).add bs⟩::lgQ lg M::r)) :=
 zpc _ upto x <| by
  unfold z02c
  have hs:=hs.perm hf.perm
  clear hf
  have hlx:=hs.slen x (xs:=bs) (enc:=zi)
  refine zb (zd5 (lg:=lg) hs) λ_ w' hs=>?_
  obtain ⟨rfl,hs⟩:=hs
  refine zd ?_
  generalize hfg:zo M.l=fg at *
  refine zb (zas (lg:=lg) fg upto (by omega) (by omega) hs) λ_ w' hs=>?_
  obtain ⟨a,ix,rfl,hs⟩:=hs
  refine zd ?_
  have hs:=z1s hs
  refine zm ?_
  refine za hs ?_
  refine zb (zcm fg upto (by omega) (by omega) hs) λ_ w' hs=>?_
  obtain ⟨y0,rfl,hs⟩:=hs
  refine zd ?_
  have hsl:=z4n fg upto
  refine z6h hs (enc:=z0b) [y0] λz0 w' hs=>?_
  refine zm ?_
  refine za hs ?_
  refine wp_lt ?_
  have hs:Sat w' (slc T.a28 1 z0 (([(y0,shL fg upto)].map Prod.fst).flatMap z0b)::HP.all ([(y0,shL fg upto)].map frP)::zy M.gap a ⟨ix,(⟨fg,upto,[]⟩:SegA).add (bs.take 0)⟩::lgQ lg M::r):=by
   rw [List.take_zero,zd3]
   have h1:Sat w' (pt a (.cells #[.pointer (some ⟨ix,0,none⟩),.int .i64 fg,.int .i64 upto,.int .i64 (z05 []),.int .i64 (z0y (-1) []),.int .i64 ((SegA.file ⟨fg,upto,[]⟩).length:Nat)] T.a31)::z1y ix ((SegA.mk fg upto []).idx M.gap)::slc T.a28 1 z0 (([y0]:List Sl).flatMap z0b)::slc T.a39 1 y0 ((shL fg upto).flatMap zh)::lgQ lg M::r):=hs.sub
   have h2:=z1c ⟨ix,⟨fg,upto,[]⟩⟩ h1
   have h3:Sat w' (frP (y0,shL fg upto)::HP.all (([]:List (Sl × List UInt8)).map frP)::slc T.a28 1 z0 (([y0]:List Sl).flatMap z0b)::zy M.gap a ⟨ix,⟨fg,upto,[]⟩⟩::lgQ lg M::r):=by
    have h4:Sat w' (slc T.a39 1 y0 ((shL fg upto).flatMap zh)::HP.all (([]:List (Sl × List UInt8)).map frP)::slc T.a28 1 z0 (([y0]:List Sl).flatMap z0b)::zy M.gap a ⟨ix,⟨fg,upto,[]⟩⟩::lgQ lg M::r):=(Sat.all_nil h2).pick [3,0,1]
    exact h4
   have h5:Sat w' (HP.all ([(y0,shL fg upto)].map frP)::_):=h3.all_put
   exact h5.pick [1]
  refine zn (λq w'=>z1r upto fg bs=true/\∃ (z:Sl) (fs:List (Sl × List UInt8)),q=(z,())/\fs.map Prod.snd=shL fg upto::bs.map frL /\
    Sat w' (slc T.a28 1 z ((fs.map Prod.fst).flatMap z0b)::HP.all (fs.map frP)::zy M.gap a ⟨ix,(⟨fg,upto,[]⟩:SegA).add bs⟩::lgQ lg M::r)) ?_ ?_
  rotate_left
  ·rintro _ w2 ⟨hg,z,fs,rfl,hfs,hs⟩
   exact ⟨rfl,.inr ⟨hg,a,ix,z,fs,rfl,hfs,hs⟩⟩
  refine z06 (λm v w=>∃ (i:Nat) (n':Int) (z:Sl) (fs:List (Sl × List UInt8)),v=(z,(n',((i:Int),())))/\i<=bs.length/\bs.length-i=m/\fs.length=i+1/\fs.map Prod.snd=shL fg upto::(bs.take i).map frL/\(∀ b ∈ bs.take i,z01 b=0)/\z1r upto fg bs=z1r upto n' (bs.drop i) /\
    Sat w (slc T.a28 1 z ((fs.map Prod.fst).flatMap z0b)::HP.all (fs.map frP)::zy M.gap a ⟨ix,(⟨fg,upto,[]⟩:SegA).add (bs.take i)⟩::lgQ lg M::r)) bs.length
   ⟨0,fg,z0,[(y0,shL fg upto)],rfl,by omega,rfl,rfl,rfl,(λb hb=>by rw [List.take_zero] at hb;cases hb),rfl,hs⟩ ?_
  clear hs
  rintro m _ w ⟨i,n',z,fs,rfl,hi,hm,hfl,hfs,hvs,hg,hs⟩
  refine zl ?_
  refine zf (λhc=>?_) λhc=>?_
  rotate_left
  ·rw [List.drop_eq_nil_of_le (by omega)] at hg
   rw [List.take_of_length_le (by omega)] at hfs hs
   exact zk (zg ⟨hg,z,fs,rfl,hfs,hs⟩)
  have hil:i<bs.length:=by omega
  have hR:=hbs _ (List.getElem_mem hil)
  have hx1:bs.take (i+1)=bs.take i++[bs[i]]:=List.take_succ_eq_append_getElem hil
  rw [List.drop_eq_getElem_cons hil] at hg
  refine z1n hs (xs:=bs) (enc:=zi) i hil ?_
  generalize bs[i]=b at *
  have hun:z1r upto n' (b::bs.drop (i+1))=((decide (z01 b=0) && decide (n'<=b.base) && decide (b.base+z00 b<=upto)) && z1r upto (b.base+z00 b) (bs.drop (i+1))):=rfl
  rw [hun] at hg
  refine zv hs λa23 w' hs=>?_
  refine zx hs λw' hs=>?_
  refine zr hs ?_
  refine zb (zjt b hs) λ_ w' hs=>?_
  rcases hs with ⟨hv,rfl,hs⟩|⟨hv,y,rfl,hs⟩
  ·refine ⟨(⟨none,0,0⟩,z01 b,()),rfl,trivial,z35 _ _ ?_⟩
   refine wp_lt ?_
   refine zn (λq w'=>q=(true,())/\Sat w' (lgQ lg M::r)) ?_ ?_
   ·refine za hs ?_
    refine zr hs ?_
    refine z1b ?_ (.inl hv)
    exact zg ⟨rfl,hs.sub⟩
   rintro _ w2 ⟨rfl,hs⟩
   refine z1b ?_ (by simp)
   rw [decide_eq_false hv,Bool.false_and,Bool.false_and,Bool.false_and] at hg
   exact zk (zk ⟨rfl,.inl ⟨hg,rfl,hs⟩⟩)
  refine ⟨(y,0,()),rfl,trivial,z35 _ _ ?_⟩
  refine wp_lt ?_
  have hbl2:=z4c hv
  have hfrl:=z3l hv
  have hnb:z2n b=b.base+z00 b:=by unfold z2n;rw [if_neg (by rw [hv];simp)]
  have hs:Sat w' (pt a23 (.cells (cB b) T.a1)::slc T.a39 1 y ((z2e b).flatMap zh)::slc T.a28 1 z ((fs.map Prod.fst).flatMap z0b)::HP.all (fs.map frP)::zy M.gap a ⟨ix,(⟨fg,upto,[]⟩:SegA).add (bs.take i)⟩::lgQ lg M::r):=hs.sub
  refine zn (λq w'=>q=(!(decide (z01 b=0) && decide (n'<=b.base) && decide (b.base+z00 b<=upto)),())/\Sat w' (pt a23 (.cells (cB b) T.a1)::slc T.a39 1 y ((z2e b).flatMap zh)::slc T.a28 1 z ((fs.map Prod.fst).flatMap z0b)::HP.all (fs.map frP)::zy M.gap a ⟨ix,(⟨fg,upto,[]⟩:SegA).add (bs.take i)⟩::lgQ lg M::r)) ?_ ?_
  ·refine za hs ?_
   refine zr hs ?_
   refine zf (λh=>?_) λh=>?_
   ·have h:b.base<n':=by
     rcases h with h|h
     ·exact absurd rfl h
     ·exact h
    refine zg ⟨?_,hs⟩
    refine Prod.ext ?_ rfl
    show true=!_
    rw [decide_eq_false (p:=n'<=b.base) (by omega),Bool.and_false];rfl
   ·have hb:n'<=b.base:=by
     apply Decidable.byContradiction;intro hn;exact h (.inr (by omega))
    refine zb (zdf b hs) λ_ w' hs=>?_
    obtain ⟨rfl,hs⟩:=hs
    refine zd ?_
    refine zg ⟨?_,hs⟩
    refine Prod.ext ?_ rfl
    show decide _=!_
    rw [hnb,decide_eq_true hv,decide_eq_true hb,Bool.true_and,Bool.true_and,<- decide_not]
    apply decide_eq_decide.2
    omega
  clear hs
  rintro _ w ⟨rfl,hs⟩
  refine zl ?_
  refine zf (λh=>?_) λh=>?_
  ·have h:(decide (z01 b=0) && decide (n'<=b.base) && decide (b.base+z00 b<=upto))=false:=by
    cases hX:(decide (z01 b=0) && decide (n'<=b.base) && decide (b.base+z00 b<=upto)) with
    | false=>rfl
    | true =>
     rw [Bool.and_eq_true,Bool.and_eq_true] at hX
     exact absurd ⟨⟨of_decide_eq_true hX.1.1,of_decide_eq_true hX.1.2⟩,of_decide_eq_true hX.2⟩ h
   rw [h,Bool.false_and] at hg
   exact zk (zk ⟨rfl,.inl ⟨hg,rfl,hs.sub⟩⟩)
  have h:(decide (z01 b=0) && decide (n'<=b.base) && decide (b.base+z00 b<=upto))=true:=by
   have h2:=Decidable.not_not.1 h
   rw [decide_eq_true h2.1.1,decide_eq_true h2.1.2,decide_eq_true h2.2];rfl
  rw [h,Bool.true_and] at hg
  refine z6h hs (enc:=z0b) [y] λy2 w' hs=>?_
  refine zb (zj6 y2 y (z2e b) (by omega) hs) λ_ w' hs=>?_
  obtain ⟨y3,rfl,hs⟩:=hs
  refine zd ?_
  have hs:Sat w' (slc T.a39 1 y3 ((frL b).flatMap zh)::slc T.a28 1 y2 (([y]:List Sl).flatMap z0b)::pt a23 (.cells (cB b) T.a1)::slc T.a39 1 y ((z2e b).flatMap zh)::slc T.a28 1 z ((fs.map Prod.fst).flatMap z0b)::HP.all (fs.map frP)::zy M.gap a ⟨ix,(⟨fg,upto,[]⟩:SegA).add (bs.take i)⟩::lgQ lg M::r):=hs
  have hl3:=hs.slen y3 (xs:=frL b) (enc:=zh)
  refine z5z (xs:=fs.map Prod.fst) (enc:=z0b) (y:=y3) hs (λz2 w' hs=>?_) rfl (by rw [List.length_map];omega)
  refine zr hs ?_
  rw [hl3]
  have hsum:((bs.take i).flatMap frL).length<=235936800:=by
   have h1:=z8n hvs
   have h2:(bs.take i).length<=900:=by rw [List.length_take];omega
   generalize (bs.take i).length=q at h1 h2
   omega
  have hfile:((⟨fg,upto,[]⟩:SegA).add (bs.take i)).file.length=(shL fg upto).length+((bs.take i).flatMap frL).length:=by
   rw [z52,List.length_append];simp [SegA.file]
  refine zb (zj9 (gap:=M.gap) (a:=a) (t:=⟨ix,(⟨fg,upto,[]⟩:SegA).add (bs.take i)⟩) b hv (by show ((⟨fg,upto,[]⟩:SegA).add (bs.take i)).file.length+_<=_;omega) hs) λ_ w' hs=>?_
  obtain ⟨rfl,hs⟩:=hs
  refine zd ?_
  have e2:((⟨fg,upto,[]⟩:SegA).add (bs.take i)).add [b]=(⟨fg,upto,[]⟩:SegA).add (bs.take (i+1)):=by rw [add_add,hx1]
  have hs:Sat w' (zy M.gap a ⟨ix,((⟨fg,upto,[]⟩:SegA).add (bs.take i)).add [b]⟩::_):=hs
  rw [e2] at hs
  have hs:=z1s hs
  refine zm ?_
  refine za hs ?_
  refine wp_lt ?_
  have hnx:z05 ((⟨fg,upto,[]⟩:SegA).add (bs.take (i+1))).bs=b.base+z00 b:=by
   show z05 ([]++(bs.take (i+1)).map BatM.p)=_
   rw [List.nil_append,hx1,List.map_append]
   exact z3d _ b.p
  rw [wS (i:=i) (by omega)]
  have hs:=z1c ⟨ix,(⟨fg,upto,[]⟩:SegA).add (bs.take (i+1))⟩ hs
  have hs:Sat w' (slc T.a39 1 y3 ((frL b).flatMap zh)::HP.all (fs.map frP)::slc T.a28 1 z2 ((fs.map Prod.fst++[y3]).flatMap z0b)::zy M.gap a ⟨ix,(⟨fg,upto,[]⟩:SegA).add (bs.take (i+1))⟩::lgQ lg M::r):=hs.sub
  have h4:Sat w' (HP.all (((y3,frL b)::fs).map frP)::slc T.a28 1 z2 ((fs.map Prod.fst++[y3]).flatMap z0b)::zy M.gap a ⟨ix,(⟨fg,upto,[]⟩:SegA).add (bs.take (i+1))⟩::lgQ lg M::r):=(show Sat w' (frP (y3,frL b)::HP.all (fs.map frP)::_) from hs).all_put
  have h5:=h4.all_perm ((List.perm_append_comm (l₁:=[(y3,frL b)]) (l₂:=fs)).map frP)
  have e3:(fs++[(y3,frL b)]).map Prod.fst=fs.map Prod.fst++[y3]:=by simp
  refine z0l (bs.length-(i+1)) ⟨i+1,b.base+z00 b,z2,fs++[(y3,frL b)],?_,by omega,rfl,by simp [hfl],?_,λq hq=>?_,hg,?_⟩
  ·rw [<- hnx]
  ·rw [List.map_append,hfs,hx1,List.map_append];rfl
  ·rw [hx1] at hq
   rcases List.mem_append.1 hq with hq|hq
   ·exact hvs q hq
   ·rw [List.mem_singleton.1 hq];exact hv
  ·rw [e3]
   exact h5.pick [1]
end
def z21 (pre:ByteArray) (l:List SegA) (D:DiskA) (upto:Int) (bs:List BatM):Int × List SegA × DiskA :=
 if z1m l upto=0\/z1r upto (zo l) bs=false then (2,l,D) else
 if (zu D (ze pre (zo l) z0o) ((⟨zo l,upto,[]⟩:SegA).add bs).file).1≠0 then ((zu D (ze pre (zo l) z0o) ((⟨zo l,upto,[]⟩:SegA).add bs).file).1,l,(zu D (ze pre (zo l) z0o) ((⟨zo l,upto,[]⟩:SegA).add bs).file).2) else
 if (z10 (zu D (ze pre (zo l) z0o) ((⟨zo l,upto,[]⟩:SegA).add bs).file).2 [ze pre (zo l) z0o]).1≠0 then ((z10 (zu D (ze pre (zo l) z0o) ((⟨zo l,upto,[]⟩:SegA).add bs).file).2 [ze pre (zo l) z0o]).1,l,(z10 (zu D (ze pre (zo l) z0o) ((⟨zo l,upto,[]⟩:SegA).add bs).file).2 [ze pre (zo l) z0o]).2) else
 if (z3b (z10 (zu D (ze pre (zo l) z0o) ((⟨zo l,upto,[]⟩:SegA).add bs).file).2 [ze pre (zo l) z0o]).2 (ze pre (zo l) z0o) (ze pre (zo l) zq)).1≠0 then ((z3b (z10 (zu D (ze pre (zo l) z0o) ((⟨zo l,upto,[]⟩:SegA).add bs).file).2 [ze pre (zo l) z0o]).2 (ze pre (zo l) z0o) (ze pre (zo l) zq)).1,l,(z3b (z10 (zu D (ze pre (zo l) z0o) ((⟨zo l,upto,[]⟩:SegA).add bs).file).2 [ze pre (zo l) z0o]).2 (ze pre (zo l) z0o) (ze pre (zo l) zq)).2) else
 ((z2f pre (((l.take (z1m l upto)).drop 1).map SegA.base) (z3b (z10 (zu D (ze pre (zo l) z0o) ((⟨zo l,upto,[]⟩:SegA).add bs).file).2 [ze pre (zo l) z0o]).2 (ze pre (zo l) z0o) (ze pre (zo l) zq)).2).1,
  (⟨zo l,upto,[]⟩:SegA).add bs::l.drop (z1m l upto),
  (z2f pre (((l.take (z1m l upto)).drop 1).map SegA.base) (z3b (z10 (zu D (ze pre (zo l) z0o) ((⟨zo l,upto,[]⟩:SegA).add bs).file).2 [ze pre (zo l) z0o]).2 (ze pre (zo l) z0o) (ze pre (zo l) zq)).2).2)
theorem zkz (upto:Int):∀ (l:List SegA) (i k:Nat),z5p upto i k l≠k->∃ s ∈ l,s.base=upto
 | [],i,k,h=>absurd rfl h
 | s::l,i,k,h=>by
  unfold z5p at h
  by_cases hs:0<i/\s.base=upto
  ·exact ⟨s,List.mem_cons_self ..,hs.2⟩
  ·rw [if_neg hs] at h
   obtain ⟨t,ht,e⟩:=zkz upto l (i+1) k h
   exact ⟨t,List.mem_cons_of_mem _ ht,e⟩
theorem zus {fs:List (Sl × List UInt8)} {h:List UInt8} {bs:List BatM} (e:fs.map Prod.snd=h::bs.map frL):(fs.map Prod.snd).flatten=h++bs.flatMap frL:=by
 rw [e,List.flatten_cons,List.flatMap_def]
theorem zbf {upto:Int}:∀ {bs:List BatM} {n:Int},z1r upto n bs=true->∀ b ∈ bs,z01 b=0
 | c::bs,n,h,b,hb=>by
  unfold z1r at h
  rw [Bool.and_eq_true,Bool.and_eq_true,Bool.and_eq_true] at h
  rcases List.mem_cons.1 hb with rfl|hb
  ·exact of_decide_eq_true h.1.1.1
  ·exact zbf h.2 b hb
theorem z9o {l:List SegA} (h:z09 0 l):0<=zo l/\zo l<=1099511627776:=by
 cases l with
 | nil=>show 0<=(0:Int)/\(0:Int)<=_;omega
 | cons s l=>exact (h.mem s (List.mem_cons_self ..)).1.base
section
variable {w:World} {l r:List HP} {lg:Nat} {A:LogA} {D:DiskA}
theorem zhv {gap:Int}:∀ (k:Nat) {SM:List (Nat × SegM)} {l:List HP},Sat w (HP.all (SM.map λt=>zy gap t.1 t.2)::l)->Sat w (HP.all ((SM.drop k).map λt=>zy gap t.1 t.2)::l)
 | 0,SM,l,hs=>hs
 | k+1,[],l,hs=>hs
 | k+1,s::SM,l,hs=>by
  have h1:Sat w (HP.all (zy gap s.1 s.2::SM.map λt=>zy gap t.1 t.2)::l):=hs
  have h2:Sat w (HP.all (SM.map λt=>zy gap t.1 t.2)::l):=h1.all_cons.tail
  exact zhv k h2
set_option maxHeartbeats 2000000 in
theorem zg3 (x:Sl) (bs:List BatM) (upto:Int) {r1:List HP} [hf:Fo l lgP lg A r1] [hf2:Fo r1 dk A.d D r] (hok:z09 0 A.l) (hlen:A.l.length<=900000) (hbl:bs.length<=900) (hx:FocR r x 7 (bs.flatMap zi)) (hbs:∀ b ∈ bs,FocR r b.x 4 (b.rs.flatMap zw)) (hs:Sat w l) :
  Ret P F.a59 #[.pointer (some ⟨lg,0,none⟩),.int .i64 upto,x.v] w λvs w'=>vs=[.int .i64 (z21 A.pre A.l D upto bs).1] /\
   Sat w' (lgP lg (A.set (z21 A.pre A.l D upto bs).2.1)::dk A.d (z21 A.pre A.l D upto bs).2.2::r) :=
 zr3 _ upto x <| by
  unfold z009
  have hs:=hs.perm (hf.perm.trans (.cons _ hf2.perm))
  clear hf hf2
  obtain ⟨M,hM,hsn⟩:=z4b hs
  clear hs
  subst hM
  have hMl:M.A.l=M.l:=rfl
  have hMpre:M.A.pre=M.pre:=rfl
  have hMd:M.A.d=M.d:=rfl
  rw [hMl] at hlen hok ⊢
  rw [hMpre,hMd]
  rw [hMd] at hsn
  have hll:M.l.length=M.SM.length:=List.length_map ..
  have hsame:∀ {w:World} {D':DiskA},Sat w (lgQ lg M::dk M.d D'::r)->Sat w (lgP lg (M.A.set M.l)::dk M.d D'::r):=λhs=>z2i M hs
  have z3w:∀ (i:Nat) (h:i<M.SM.length),M.l[i]'(by omega)=M.SM[i].2.s:=λi h=>by unfold LogM.l;simp
  have hkl:=zh8 M.l upto
  have hfi:=z9o hok
  refine z0g ?_ (by simp)
  obtain ⟨hokm,hs⟩:=z26 hsn
  have hsz:=hokm.size
  have hlz:=hs.slen M.z (xs:=M.SM.map Prod.fst) (enc:=z0f)
  rw [List.length_map] at hlz
  refine zm ?_
  refine za hs ?_
  refine zn (λq w'=>q=((z1m M.l upto:Int),())/\Sat w' (pt lg (.cells #[.pointer (some ⟨M.d,0,none⟩),.string M.pre,.int .i64 M.seg,.int .i64 M.gap,.slice M.z.a M.z.len M.z.cap] T.a30)::slc T.a17 1 M.z ((M.SM.map Prod.fst).flatMap z0f)::HP.all (M.SM.map λt=>zy M.gap t.1 t.2)::dk M.d D::r)) ?_ ?_
  ·refine z06 (λm v w=>∃ i k:Nat,v=((k:Int),((i:Int),()))/\i<=M.SM.length/\M.SM.length-i=m/\z1m M.l upto=z5p upto i k (M.l.drop i)/\Sat w (pt lg (.cells #[.pointer (some ⟨M.d,0,none⟩),.string M.pre,.int .i64 M.seg,.int .i64 M.gap,.slice M.z.a M.z.len M.z.cap] T.a30)::slc T.a17 1 M.z ((M.SM.map Prod.fst).flatMap z0f)::HP.all (M.SM.map λt=>zy M.gap t.1 t.2)::dk M.d D::r)) M.SM.length ⟨0,0,rfl,by omega,rfl,rfl,hs⟩ ?_
   clear hs hsn
   rintro m _ w ⟨i,k,rfl,hi,hm,hk,hs⟩
   refine zl ?_
   refine zf (λhc=>?_) λhc=>?_
   rotate_left
   ·rw [List.drop_eq_nil_of_le (by omega)] at hk
    exact zk (zg ⟨by rw [hk];rfl,hs⟩)
   have hil:i<M.SM.length:=by omega
   have hil2:i<M.l.length:=by omega
   rw [List.drop_eq_getElem_cons (by omega:i<M.l.length),z3w i hil] at hk
   have hun:z5p upto i k (M.SM[i].2.s::M.l.drop (i+1))=z5p upto (i+1) (if 0<i/\M.SM[i].2.s.base=upto then i else k) (M.l.drop (i+1)):=rfl
   rw [hun] at hk
   refine z1z hs (xs:=M.SM.map Prod.fst) (enc:=z0f) i (by rw [List.length_map];exact hil) ?_
   have e0:(M.SM.map Prod.fst)[i]'(by rw [List.length_map];exact hil)=M.SM[i].1:=by simp
   rw [e0]
   refine wp_lt ?_
   refine z0h ?_
   have hs:=z1s (z58 (hs.pick [2]) hil)
   refine za hs ?_
   refine zn (λq w'=>q=(((if 0<i/\M.SM[i].2.s.base=upto then i else k:Nat):Int),())/\Sat w' (pt lg (.cells #[.pointer (some ⟨M.d,0,none⟩),.string M.pre,.int .i64 M.seg,.int .i64 M.gap,.slice M.z.a M.z.len M.z.cap] T.a30)::slc T.a17 1 M.z ((M.SM.map Prod.fst).flatMap z0f)::HP.all (M.SM.map λt=>zy M.gap t.1 t.2)::dk M.d D::r)) ?_ ?_
   ·have hs:=z3u hil (z1c M.SM[i].2 hs)
    refine zf (λh=>?_) λh=>?_
    ·refine wp_lt ?_
     refine zg ⟨?_,hs.pick [1,1]⟩
     rw [if_pos ⟨by omega,h.2⟩]
    ·refine zg ⟨?_,hs.pick [1,1]⟩
     rw [if_neg (λh2=>h ⟨by omega,h2.2⟩)]
   clear hs
   rintro _ w ⟨rfl,hs⟩
   refine zl ?_
   rw [wS (i:=i) (by omega)]
   exact z0l (M.SM.length-(i+1)) ⟨i+1,_,rfl,by omega,rfl,hk,hs⟩
  clear hs hsn
  rintro _ w ⟨rfl,hs⟩
  refine zl ?_
  have hs:=z0v M hokm hs
  have hgm:z1m M.l upto≠0->∃ s ∈ M.l,s.base=upto:=λh=>zkz upto M.l 0 0 h
  unfold z21
  generalize hk:z1m M.l upto=k at *
  refine zf (λh=>?_) λh=>?_
  ·rw [if_pos (.inl (by omega))]
   exact ⟨rfl,rfl,hsame hs⟩
  have hk0:k≠0:=by omega
  obtain ⟨su,hsu,hsub⟩:=hgm hk0
  have hup:0<=upto/\upto<=1099511627776:=by rw [<- hsub];exact (hok.mem su hsu).1.base
  refine zb (zyk (lg:=lg) (M:=M) x bs upto hup hfi hbl inferInstance (λb hb=>by have:=hbs b hb;infer_instance) hs) λ_ w' hs=>?_
  generalize hfg:zo M.l=fg at *
  rcases hs with ⟨hg,rfl,hs⟩|⟨hg,a,ix,z,fs,rfl,hfs,hs⟩
  ·refine ⟨(none,⟨none,0,0⟩,false,()),rfl,trivial,zwr _ _ _ ?_⟩
   refine wp_lt ?_
   refine z1b ?_ (by simp)
   rw [if_pos (.inr hg)]
   exact ⟨rfl,rfl,hsame hs⟩
  refine ⟨(some ⟨a,0,none⟩,z,true,()),rfl,trivial,zwr _ _ _ ?_⟩
  refine wp_lt ?_
  refine z0g ?_ (by simp)
  rw [if_neg (by rintro (h1|h1);exact hk0 h1;rw [hg] at h1;cases h1)]
  generalize hs':(⟨fg,upto,[]⟩:SegA).add bs=S' at *
  have hSb:S'.base=fg:=by rw [<- hs'];rfl
  have hfl:(fs.map Prod.snd).flatten=S'.file:=by
   rw [zus hfs,<- hs',z52]
   simp [SegA.file]
  obtain ⟨hokm,hs⟩:=z26 (hs.pick [3])
  have hs:=z1s (hs.pick [5])
  refine zn (λq w'=>q=(ze M.pre fg z0o,ze M.pre fg zq,())/\Sat w' (dk M.d D::zy M.gap a ⟨ix,S'⟩::pt lg (.cells #[.pointer (some ⟨M.d,0,none⟩),.string M.pre,.int .i64 M.seg,.int .i64 M.gap,.slice M.z.a M.z.len M.z.cap] T.a30)::slc T.a17 1 M.z ((M.SM.map Prod.fst).flatMap z0f)::HP.all (M.SM.map λt=>zy M.gap t.1 t.2)::slc T.a28 1 z ((fs.map Prod.fst).flatMap z0b)::HP.all (fs.map frP)::r)) ?_ ?_
  ·refine z0a hs λw' hs=>?_
   refine zm ?_
   refine za hs ?_
   refine zm ?_
   refine z1e hs ?_
   refine zb (z4m (lg:=lg) S'.base (by rw [hSb];omega) (ByteArray.mk #[46,110,101,119]) (by decide) M.pre hsz hs) λ_ w' hs=>?_
   obtain ⟨rfl,hs⟩:=hs
   refine zd ?_ (by first|trivial|(repeat (first|exact trivial|exact λ_=>z0i hs|exact λ_=>z0n hs|refine And.intro ?_ ?_)))
   refine zj ?_
   refine zb (z4m (lg:=lg) S'.base (by rw [hSb];omega) (ByteArray.mk #[46,108,111,103]) (by decide) M.pre hsz hs) λ_ w' hs=>?_
   obtain ⟨rfl,hs⟩:=hs
   refine zd ?_
   refine wp_lt ?_
   refine wp_lt ?_
   refine zj ?_
   have hs:=z1c ⟨ix,S'⟩ hs
   refine zg ⟨?_,hs.pick [6]⟩
   rw [hSb];rfl
  clear hs
  rintro _ w ⟨rfl,hs⟩
  refine zl ?_
  have hlq:∀ {w:World} {D':DiskA},Sat w (dk M.d D'::zy M.gap a ⟨ix,S'⟩::pt lg (.cells #[.pointer (some ⟨M.d,0,none⟩),.string M.pre,.int .i64 M.seg,.int .i64 M.gap,.slice M.z.a M.z.len M.z.cap] T.a30)::slc T.a17 1 M.z ((M.SM.map Prod.fst).flatMap z0f)::HP.all (M.SM.map λt=>zy M.gap t.1 t.2)::slc T.a28 1 z ((fs.map Prod.fst).flatMap z0b)::HP.all (fs.map frP)::r)->Sat w (lgP lg (M.A.set M.l)::dk M.d D'::r):=λhs=>by
   have h1:=z0v M hokm (hs.pick [2,2,2])
   exact (hsame (h1.sub))
  have hall:∀ p ∈ fs,FocR (zy M.gap a ⟨ix,S'⟩::pt lg (.cells #[.pointer (some ⟨M.d,0,none⟩),.string M.pre,.int .i64 M.seg,.int .i64 M.gap,.slice M.z.a M.z.len M.z.cap] T.a30)::slc T.a17 1 M.z ((M.SM.map Prod.fst).flatMap z0f)::HP.all (M.SM.map λt=>zy M.gap t.1 t.2)::slc T.a28 1 z ((fs.map Prod.fst).flatMap z0b)::HP.all (fs.map frP)::r) p.1 1 (p.2.flatMap zh):=λp hp=>by
   have:FocR (HP.all (fs.map frP)::r) p.1 1 (p.2.flatMap zh):=zc2 hp
   infer_instance
  have hpsF:FocR (zy M.gap a ⟨ix,S'⟩::pt lg (.cells #[.pointer (some ⟨M.d,0,none⟩),.string M.pre,.int .i64 M.seg,.int .i64 M.gap,.slice M.z.a M.z.len M.z.cap] T.a30)::slc T.a17 1 M.z ((M.SM.map Prod.fst).flatMap z0f)::HP.all (M.SM.map λt=>zy M.gap t.1 t.2)::slc T.a28 1 z ((fs.map Prod.fst).flatMap z0b)::HP.all (fs.map frP)::r) z 1 ((fs.map Prod.fst).flatMap zbb):=(inferInstance:FocR _ z 1 ((fs.map Prod.fst).flatMap z0b))
  have hfsl:fs.length=bs.length+1:=by have:=congrArg List.length hfs;simpa using this
  have hvb:∀ p ∈ fs,p.2.length<=100000000:=λp hp=>by
   have h1:p.2 ∈ shL fg upto::bs.map frL:=by rw [<- hfs];exact List.mem_map.2 ⟨p,hp,rfl⟩
   rcases List.mem_cons.1 h1 with h1|h1
   ·rw [h1];have:=z4n fg upto;omega
   ·obtain ⟨b,hb,e⟩:=List.mem_map.1 h1
    rw [<- e]
    have hv:=zbf hg b hb
    have:=z3l hv
    have:=z4c hv
    omega
  refine zm ?_
  refine za hs ?_
  refine zb (zb6 (d:=M.d) (A:=D) (ze M.pre fg z0o) z (fs.map Prod.fst) (fs.map Prod.snd) (hps:=hpsF) (zet hall) (by rw [List.length_map];omega) (λb hb=>by obtain ⟨p,hp,rfl⟩:=List.mem_map.1 hb;exact hvb p hp) hs) λ_ w' hs=>?_
  rw [hfl] at hs
  obtain ⟨rfl,hs⟩:=hs
  refine zd ?_
  refine wp_lt ?_
  generalize hP1:zu D (ze M.pre fg z0o) S'.file=P1 at hs ⊢
  refine zf (λh1=>?_) λh1=>?_
  ·refine wp_lt ?_
   rw [if_pos h1]
   exact ⟨rfl,rfl,hlq hs⟩
  rw [if_neg h1]
  refine zm ?_
  refine za hs ?_
  refine z6h hs (enc:=z2s) [ze M.pre fg z0o] λy w' hs=>?_
  refine zb (zsr (d:=M.d) (A:=P1.2) y [ze M.pre fg z0o] (by show 1<=100000;omega) hs) λ_ w' hs=>?_
  obtain ⟨rfl,hs⟩:=hs
  refine zd ?_
  refine wp_lt ?_
  generalize hP2:z10 P1.2 [ze M.pre fg z0o]=P2 at hs ⊢
  have hs:Sat w' (dk M.d P2.2::zy M.gap a ⟨ix,S'⟩::pt lg (.cells #[.pointer (some ⟨M.d,0,none⟩),.string M.pre,.int .i64 M.seg,.int .i64 M.gap,.slice M.z.a M.z.len M.z.cap] T.a30)::slc T.a17 1 M.z ((M.SM.map Prod.fst).flatMap z0f)::HP.all (M.SM.map λt=>zy M.gap t.1 t.2)::slc T.a28 1 z ((fs.map Prod.fst).flatMap z0b)::HP.all (fs.map frP)::r):=(show Sat w' (dk M.d P2.2::slc T.a33 1 y _::zy M.gap a ⟨ix,S'⟩::pt lg (.cells #[.pointer (some ⟨M.d,0,none⟩),.string M.pre,.int .i64 M.seg,.int .i64 M.gap,.slice M.z.a M.z.len M.z.cap] T.a30)::slc T.a17 1 M.z ((M.SM.map Prod.fst).flatMap z0f)::HP.all (M.SM.map λt=>zy M.gap t.1 t.2)::slc T.a28 1 z ((fs.map Prod.fst).flatMap z0b)::HP.all (fs.map frP)::r) from hs).sub
  refine zf (λh2=>?_) λh2=>?_
  ·refine wp_lt ?_
   rw [if_pos h2]
   exact ⟨rfl,rfl,hlq hs⟩
  rw [if_neg h2]
  refine zm ?_
  refine za hs ?_
  refine zb (zvf (d:=M.d) (A:=P2.2) (ze M.pre fg z0o) (ze M.pre fg zq) hs) λ_ w' hs=>?_
  obtain ⟨rfl,hs⟩:=hs
  refine zd ?_
  refine wp_lt ?_
  generalize hP3:z3b P2.2 (ze M.pre fg z0o) (ze M.pre fg zq)=P3 at hs ⊢
  refine zf (λh3=>?_) λh3=>?_
  ·refine wp_lt ?_
   rw [if_pos h3]
   exact ⟨rfl,rfl,hlq hs⟩
  rw [if_neg h3]
  have hzc:=(hs.pick [3]).slc_cap
  refine zm ?_
  refine za hs ?_
  refine wp_must (by omega) ?_
  refine z1t hs (enc:=z0f) a λy5 w' hs=>?_
  refine zm ?_
  refine za hs ?_
  refine wp_must (by omega) ?_
  rw [Int.toNat_natCast]
  have hy:FocR (slc T.a17 1 y5 ([a].flatMap z0f)::dk M.d P3.2::zy M.gap a ⟨ix,S'⟩::pt lg (.cells #[.pointer (some ⟨M.d,0,none⟩),.string M.pre,.int .i64 M.seg,.int .i64 M.gap,.slice M.z.a M.z.len M.z.cap] T.a30)::slc T.a17 1 M.z ((M.SM.map Prod.fst).flatMap z0f)::HP.all (M.SM.map λt=>zy M.gap t.1 t.2)::slc T.a28 1 z ((fs.map Prod.fst).flatMap z0b)::HP.all (fs.map frP)::r) ⟨z12 M.z.a 1 k M.z.cap,M.z.len-k,M.z.cap-k⟩ 1 (((M.SM.map Prod.fst).drop k).flatMap z0f):=FocR.post hzc
  refine wp_app' (x:=y5) (y:=⟨z12 M.z.a 1 k M.z.cap,M.z.len-k,M.z.cap-k⟩) (xs:=[a]) (ys:=(M.SM.map Prod.fst).drop k) (enc:=z0f) hs (λz7 w' hs=>?_) (by simp only [List.length_cons,List.length_nil,List.length_drop,List.length_map];omega)
  refine zm ?_
  refine z0d hs λw' hs=>?_
  have hs:Sat w' (pt lg (.cells #[.pointer (some ⟨M.d,0,none⟩),.string M.pre,.int .i64 M.seg,.int .i64 M.gap,.slice z7.a z7.len z7.cap] T.a30)::slc T.a17 1 M.z ((M.SM.map Prod.fst).flatMap z0f)::HP.all (M.SM.map λt=>zy M.gap t.1 t.2)::slc T.a17 1 z7 (([a]++(M.SM.map Prod.fst).drop k).flatMap z0f)::zy M.gap a ⟨ix,S'⟩::dk M.d P3.2::r):=(show Sat w' (pt lg (.cells #[.pointer (some ⟨M.d,0,none⟩),.string M.pre,.int .i64 M.seg,.int .i64 M.gap,.slice z7.a z7.len z7.cap] T.a30)::slc T.a17 1 z7 (([a]++(M.SM.map Prod.fst).drop k).flatMap z0f)::dk M.d P3.2::zy M.gap a ⟨ix,S'⟩::slc T.a17 1 M.z ((M.SM.map Prod.fst).flatMap z0f)::HP.all (M.SM.map λt=>zy M.gap t.1 t.2)::slc T.a28 1 z _::HP.all (fs.map frP)::r) from hs).sub
  have hbases:((M.l.take k).drop 1).map SegA.base=((M.SM.take k).drop 1).map λt=>t.2.s.base:=by
   unfold LogM.l
   rw [<- List.map_take,<- List.map_drop,List.map_map]
   rfl
  generalize hB:((M.l.take k).drop 1).map SegA.base=B at *
  have hBl:B.length=k-1:=by rw [hbases];simp;omega
  have hBget:∀ (i:Nat) (h:i<k-1),B[i]'(by omega)=(M.SM[i+1]'(by omega)).2.s.base:=λi h=>by
   have e:1+i=i+1:=by omega
   simp only [hbases,List.getElem_map,List.getElem_drop,List.getElem_take,e]
  have hclose:∀ {w:World} {D':DiskA},Sat w (pt lg (.cells #[.pointer (some ⟨M.d,0,none⟩),.string M.pre,.int .i64 M.seg,.int .i64 M.gap,.slice z7.a z7.len z7.cap] T.a30)::slc T.a17 1 M.z ((M.SM.map Prod.fst).flatMap z0f)::HP.all (M.SM.map λt=>zy M.gap t.1 t.2)::slc T.a17 1 z7 (([a]++(M.SM.map Prod.fst).drop k).flatMap z0f)::zy M.gap a ⟨ix,S'⟩::dk M.d D'::r)->Sat w (lgP lg (M.A.set (S'::M.l.drop k))::dk M.d D'::r):=λ{w D'} hs=>by
   have h1:Sat w (HP.all ((M.SM.drop k).map λt=>zy M.gap t.1 t.2)::pt lg (.cells #[.pointer (some ⟨M.d,0,none⟩),.string M.pre,.int .i64 M.seg,.int .i64 M.gap,.slice z7.a z7.len z7.cap] T.a30)::slc T.a17 1 M.z ((M.SM.map Prod.fst).flatMap z0f)::slc T.a17 1 z7 (([a]++(M.SM.map Prod.fst).drop k).flatMap z0f)::zy M.gap a ⟨ix,S'⟩::dk M.d D'::r):=zhv k (hs.pick [2])
   have h2:Sat w (zy M.gap a ⟨ix,S'⟩::HP.all ((M.SM.drop k).map λt=>zy M.gap t.1 t.2)::pt lg (.cells #[.pointer (some ⟨M.d,0,none⟩),.string M.pre,.int .i64 M.seg,.int .i64 M.gap,.slice z7.a z7.len z7.cap] T.a30)::slc T.a17 1 z7 (([a]++(M.SM.map Prod.fst).drop k).flatMap z0f)::dk M.d D'::r):=h1.sub
   have h3:Sat w (HP.all (((a,(⟨ix,S'⟩:SegM))::M.SM.drop k).map λt=>zy M.gap t.1 t.2)::pt lg (.cells #[.pointer (some ⟨M.d,0,none⟩),.string M.pre,.int .i64 M.seg,.int .i64 M.gap,.slice z7.a z7.len z7.cap] T.a30)::slc T.a17 1 z7 (([a]++(M.SM.map Prod.fst).drop k).flatMap z0f)::dk M.d D'::r):=h2.all_put
   have e1:[a]++(M.SM.map Prod.fst).drop k=((a,(⟨ix,S'⟩:SegM))::M.SM.drop k).map Prod.fst:=by simp [List.map_drop]
   rw [e1] at h3
   have h4:=z0v { M with z:=z7,SM:=(a,(⟨ix,S'⟩:SegM))::M.SM.drop k } hokm (h3.pick [1,1])
   have h5:=z2i _ h4
   have e2:LogM.A { M with z:=z7,SM:=(a,(⟨ix,S'⟩:SegM))::M.SM.drop k }=M.A.set (S'::M.l.drop k):=by
    unfold LogM.A LogM.l LogA.set
    simp [List.map_drop]
   rw [e2] at h5
   exact h5
  refine zn (λ_ w'=>(z2f M.pre B P3.2).1=0/\Sat w' (pt lg (.cells #[.pointer (some ⟨M.d,0,none⟩),.string M.pre,.int .i64 M.seg,.int .i64 M.gap,.slice z7.a z7.len z7.cap] T.a30)::slc T.a17 1 M.z ((M.SM.map Prod.fst).flatMap z0f)::HP.all (M.SM.map λt=>zy M.gap t.1 t.2)::slc T.a17 1 z7 (([a]++(M.SM.map Prod.fst).drop k).flatMap z0f)::zy M.gap a ⟨ix,S'⟩::dk M.d (z2f M.pre B P3.2).2::r)) ?_ ?_
  rotate_left
  ·rintro _ w2 ⟨h1,hs⟩
   rw [h1]
   exact ⟨rfl,rfl,hclose hs⟩
  refine z06 (λm v w=>∃ (i:Nat) (D':DiskA),v=((i:Int),())/\i<=k-1/\k-1-i=m/\z2f M.pre B P3.2=z2f M.pre (B.drop i) D'/\Sat w (pt lg (.cells #[.pointer (some ⟨M.d,0,none⟩),.string M.pre,.int .i64 M.seg,.int .i64 M.gap,.slice z7.a z7.len z7.cap] T.a30)::slc T.a17 1 M.z ((M.SM.map Prod.fst).flatMap z0f)::HP.all (M.SM.map λt=>zy M.gap t.1 t.2)::slc T.a17 1 z7 (([a]++(M.SM.map Prod.fst).drop k).flatMap z0f)::zy M.gap a ⟨ix,S'⟩::dk M.d D'::r)) (k-1) ⟨0,P3.2,rfl,by omega,rfl,rfl,hs⟩ ?_
  clear hs
  rintro m _ w ⟨i,D',rfl,hi,hm,hq,hs⟩
  refine zl ?_
  refine zf (λhc=>?_) λhc=>?_
  rotate_left
  ·rw [List.drop_eq_nil_of_le (by omega)] at hq
   refine zk (zg ⟨by rw [hq];rfl,?_⟩)
   rw [hq]
   exact hs
  have hil:i<k-1:=by omega
  have hil2:i+1<M.SM.length:=by omega
  rw [List.drop_eq_getElem_cons (by omega:i<B.length),hBget i hil] at hq
  have hmem:M.SM[i+1].2.s ∈ M.l:=List.mem_map.2 ⟨_,List.getElem_mem hil2,rfl⟩
  have hbb:=(hok.mem _ hmem).1.base
  have hun:z2f M.pre (M.SM[i+1].2.s.base::B.drop (i+1)) D'=if (z0p D' (ze M.pre M.SM[i+1].2.s.base zq)).1≠0 then z0p D' (ze M.pre M.SM[i+1].2.s.base zq) else z2f M.pre (B.drop (i+1)) (z0p D' (ze M.pre M.SM[i+1].2.s.base zq)).2:=rfl
  have hf1:FocR (pt lg (.cells #[.pointer (some ⟨M.d,0,none⟩),.string M.pre,.int .i64 M.seg,.int .i64 M.gap,.slice z7.a z7.len z7.cap] T.a30)::slc T.a17 1 M.z ((M.SM.map Prod.fst).flatMap z0f)::HP.all (M.SM.map λt=>zy M.gap t.1 t.2)::slc T.a17 1 z7 (([a]++(M.SM.map Prod.fst).drop k).flatMap z0f)::zy M.gap a ⟨ix,S'⟩::dk M.d D'::r) ⟨z12 M.z.a 1 1 M.z.cap,M.z.len-1,0⟩ 1 (((M.SM.map Prod.fst).drop 1).flatMap z0f):=FocR.post hzc
  have hf2:FocR (pt lg (.cells #[.pointer (some ⟨M.d,0,none⟩),.string M.pre,.int .i64 M.seg,.int .i64 M.gap,.slice z7.a z7.len z7.cap] T.a30)::slc T.a17 1 M.z ((M.SM.map Prod.fst).flatMap z0f)::HP.all (M.SM.map λt=>zy M.gap t.1 t.2)::slc T.a17 1 z7 (([a]++(M.SM.map Prod.fst).drop k).flatMap z0f)::zy M.gap a ⟨ix,S'⟩::dk M.d D'::r) ⟨z12 M.z.a 1 1 M.z.cap,k-1,0⟩ 1 ((((M.SM.map Prod.fst).drop 1).take (k-1)).flatMap z0f):=FocR.pre (x:=⟨z12 M.z.a 1 1 M.z.cap,M.z.len-1,0⟩) (by rw [List.length_drop,List.length_map];omega)
  refine z1z (x:=⟨z12 M.z.a 1 1 M.z.cap,k-1,0⟩) hs (xs:=((M.SM.map Prod.fst).drop 1).take (k-1)) (enc:=z0f) i (by rw [List.length_take,List.length_drop,List.length_map];omega) ?_
  have e0:(((M.SM.map Prod.fst).drop 1).take (k-1))[i]'(by rw [List.length_take,List.length_drop,List.length_map];omega)=M.SM[i+1].1:=by
   have e:1+i=i+1:=by omega
   simp only [List.getElem_take,List.getElem_drop,List.getElem_map,e]
  rw [e0]
  refine zn (λv w'=>v=((z0p D' (ze M.pre M.SM[i+1].2.s.base zq)).1,())/\Sat w' (pt lg (.cells #[.pointer (some ⟨M.d,0,none⟩),.string M.pre,.int .i64 M.seg,.int .i64 M.gap,.slice z7.a z7.len z7.cap] T.a30)::slc T.a17 1 M.z ((M.SM.map Prod.fst).flatMap z0f)::HP.all (M.SM.map λt=>zy M.gap t.1 t.2)::slc T.a17 1 z7 (([a]++(M.SM.map Prod.fst).drop k).flatMap z0f)::zy M.gap a ⟨ix,S'⟩::dk M.d (z0p D' (ze M.pre M.SM[i+1].2.s.base zq)).2::r)) ?_ ?_
  ·refine z0a hs λw' hs=>?_
   refine zm ?_
   refine z1e hs ?_
   refine zm ?_
   have hs:=z1s (z58 (hs.pick [2]) hil2)
   refine za hs ?_
   refine zb (z4m (lg:=lg) M.SM[i+1].2.s.base (by omega) (ByteArray.mk #[46,108,111,103]) (by decide) M.pre hsz hs) λ_ w' hs=>?_
   obtain ⟨rfl,hs⟩:=hs
   refine zd ?_ (by first|trivial|(repeat (first|exact trivial|exact λ_=>z0i hs|exact λ_=>z0n hs|refine And.intro ?_ ?_)))
   refine zj ?_
   have hs:=z3u hil2 (z1c M.SM[i+1].2 hs)
   refine zb (z7p (d:=M.d) (A:=D') (ze M.pre M.SM[i+1].2.s.base (bl (ByteArray.mk #[46,108,111,103]))) hs) λ_ w' hs=>?_
   obtain ⟨rfl,hs⟩:=hs
   refine zd ?_
   refine wp_lt ?_
   refine zj ?_
   have hs:Sat w' (dk M.d (z0p D' (ze M.pre M.SM[i+1].2.s.base zq)).2::_):=hs
   exact zg ⟨rfl,hs.sub⟩
  clear hs
  rintro _ w2 ⟨rfl,hs⟩
  refine zl ?_
  refine zf (λh=>?_) λh=>?_
  ·refine wp_lt ?_
   rw [if_pos h] at hun
   rw [hun] at hq
   rw [hq]
   exact zk (zk ⟨rfl,rfl,hclose hs⟩)
  ·rw [if_neg h] at hun
   rw [hun] at hq
   rw [wS (i:=i) (by omega)]
   exact z0l (k-1-(i+1)) ⟨i+1,_,rfl,by omega,rfl,hq,hs⟩
end
def z56 (key value:ByteArray) (x:Sl):BatM:=⟨0,0,0,0,0,0,x,[⟨key,value,false,0⟩]⟩
def aP:ByteArray:=ByteArray.mk #[112]
def aD0:DiskA:=⟨1000,-1,false,[]⟩
def aB:BatM:=z56 (ByteArray.mk #[97]) (ByteArray.mk #[120]) z6v
def aS1:(Int × Int) × List SegA × DiskA:=z0s aP 64 [] aD0 [aB]
def aS2:(Int × Int) × List SegA × DiskA:=z0s aP 64 aS1.2.1 aS1.2.2 [aB]
def aS3:(Int × Int) × List SegA × DiskA:=z0s aP 64 aS2.2.1 aS2.2.2 [aB]
theorem zh6:∀ (bs:List BatM) (n:Int),(zt n (bs.map BatM.p)).1=(zt n bs).1/\(zt n (bs.map BatM.p)).2.map BatM.p=(zt n bs).2.map BatM.p
 | [],n=>⟨rfl,rfl⟩
 | b::bs,n=>by
  rw [List.map_cons]
  unfold zt
  have e1:z01 (b.p.to n)=z01 (b.to n):=rfl
  have e2:z00 b.p=z00 b:=rfl
  obtain ⟨i1,i2⟩:=zh6 bs (n+z00 b)
  rw [e1,e2,i1]
  split
  ·exact ⟨rfl,rfl⟩
  split
  ·exact ⟨rfl,rfl⟩
  ·exact ⟨rfl,by rw [List.map_cons,List.map_cons,i2];rfl⟩
theorem zie {a b:List BatM} (h:a.map BatM.p=b.map BatM.p):a.flatMap frL=b.flatMap frL:=by
 rw [<- zk0 a,h,zk0]
theorem zru {a b:List BatM} (h:a.map BatM.p=b.map BatM.p) (s:SegA):s.add a=s.add b:=by unfold SegA.add;rw [h]
theorem zhr {a b:List BatM} (h:a.map BatM.p=b.map BatM.p) (l:List SegA):z57 l a=z57 l b:=by
 unfold z57
 split
 ·rfl
 ·rw [zru h]
theorem zsk (pre:ByteArray) (seg:Int) (l:List SegA) (D:DiskA) (bs:List BatM):z0s pre seg l D (bs.map BatM.p)=z0s pre seg l D bs:=by
 obtain ⟨h1,h2⟩:=zh6 bs (zp l)
 unfold z0s
 rw [h1,zie h2,zhr h2,zru h2]
 by_cases hb:bs=[]
 ·subst hb;rfl
 ·rw [if_neg hb,if_neg (by intro h;exact hb (List.map_eq_nil_iff.1 h))]
theorem zki (seg:Int) (l:List SegA) (bs:List BatM):z0w seg l (bs.map BatM.p)=z0w seg l bs:=by
 obtain ⟨h1,h2⟩:=zh6 bs (zp l)
 unfold z0w
 rw [h1,zie h2,zhr h2,zru h2]
 by_cases hb:bs=[]
 ·subst hb;rfl
 ·rw [if_neg hb,if_neg (by intro h;exact hb (List.map_eq_nil_iff.1 h))]
theorem zyb:z4s aP aD0=(0,[],aD0):=by kernel_rfl
theorem z04g:aS1.1=(0,0):=by kernel_rfl
theorem z049:aS2.1=(1,0):=by kernel_rfl
theorem z04e:aS3.1=(2,0):=by kernel_rfl
theorem zz5:aS3.2.1.map SegA.base=[0,2]:=by kernel_rfl
theorem zwv:aS1.2.1.length=1/\aS1.2.1.map (λs=>s.file.length)=[32]:=by constructor <;> kernel_rfl
theorem zxe:aS2.2.1.length=1/\aS2.2.1.map (λs=>s.file.length)=[53]:=by constructor <;> kernel_rfl
theorem z03w:aS3.2.1.length=2:=by kernel_rfl
theorem zzj:(z03 aS3.2.2.fs (ByteArray.mk #[112,45,48,48,48,48,48,48,48,48,48,48,48,46,108,111,103])).map (λp=>(p.1.length,p.1[0]?,p.1[4]?))=some (53,some 3,some 83):=by kernel_rfl
structure Calm (D:DiskA):Prop where
 gone:D.gone=false
 left:D.left = -1
theorem z72 {D:DiskA} (h:D.left = -1):z2q D=D:=by unfold z2q;rw [if_neg (by omega)]
theorem zaw {D:DiskA} (h:Calm D) (n:ByteArray) (bs:List UInt8):Calm (zu D n bs).2:=by
 unfold zu
 split
 ·exact h
 split
 ·exact h
 split
 ·exact h
 ·show Calm (z2q _)
  rw [z72 (by exact h.left)]
  exact ⟨h.gone,h.left⟩
theorem zik {D:DiskA} (h:Calm D) (ns:List ByteArray):Calm (z10 D ns).2:=by
 unfold z10
 split
 ·exact h
 split
 ·exact h
 ·show Calm (z2q _)
  rw [z72 (by exact h.left)]
  exact ⟨h.gone,h.left⟩
theorem zei {D:DiskA} (h:Calm D) (n:ByteArray):Calm (z0p D n).2:=by
 unfold z0p
 split
 ·exact h
 split
 ·exact h
 ·show Calm (z2q _)
  rw [z72 (by exact h.left)]
  exact ⟨h.gone,h.left⟩
theorem z8f {D:DiskA} (h:Calm D) (pre:ByteArray) (l:List SegA):Calm (z0m pre l D).2:=by
 unfold z0m
 split
 ·exact h
 ·exact zik h _
theorem z6j {A:DiskA} {n:ByteArray} {bs:List UInt8}:(zu A n bs).2.fs.length<=A.fs.length+1/\((z03 A.fs n).isSome=true->(zu A n bs).2.fs.length=A.fs.length):=by
 unfold zu
 split
 ·exact ⟨by show A.fs.length<=_;omega,λ_=>rfl⟩
 split
 ·exact ⟨by show A.fs.length<=_;omega,λ_=>rfl⟩
 split
 ·exact ⟨by show A.fs.length<=_;omega,λ_=>rfl⟩
 ·show (z2q _).fs.length<=_/\(_->(z2q _).fs.length=_)
  rw [z33]
  show (if z2j A.fs n=true then _ else _:List FileA).length<=_/\(_->(if z2j A.fs n=true then _ else _:List FileA).length=_)
  rw [<- z3z]
  split
  ·rw [List.length_map];exact ⟨by omega,λ_=>rfl⟩
  ·rename_i h
   rw [(z3f _ _).length_eq]
   exact ⟨by simp,λh2=>absurd h2 h⟩
structure Cpl (pre:ByteArray) (l:List SegA) (D:DiskA):Prop where
 ok:okA D
 segs:z09 0 l
 has:zgy pre l D
 only:∀ n,(z03 D.fs n).isSome=true->(bl (z18 pre)).isPrefixOf (bl n)=true->∃ s ∈ l,n=ze pre s.base zq
def z25 (l:List SegA):Nat:=(l.map λs=>s.file.length).sum
theorem z66 (l:List SegA) (s:SegA):z25 (l++[s])=z25 l+s.file.length:=by simp [z25]
theorem z5d {pre:ByteArray} {s t:SegA} (hs:SegOk s) (ht:SegOk t) (h:s.base≠t.base):ze pre s.base zq≠ze pre t.base zq:=λe=>by
 have h1:=hs.base
 have h2:=ht.base
 exact h (zil (by omega) (by omega) e).1
theorem z8q {pre:ByteArray} (hp:z49 pre=true) (base:Int):z30 (ze pre base zq)=true:=zdo hp base rfl (by decide)
structure Fr (pre:ByteArray) (D D':DiskA):Prop where
 room:D'.room=D.room
 other:∀ m,(bl (z18 pre)).isPrefixOf (bl m)=false->z03 D'.fs m=z03 D.fs m
theorem Fr.refl (pre:ByteArray) (D:DiskA):Fr pre D D:=⟨rfl,λ_ _=>rfl⟩
theorem Fr.trans {pre:ByteArray} {D D' D'':DiskA} (h1:Fr pre D D') (h2:Fr pre D' D''):Fr pre D D'':=⟨h2.room.trans h1.room,λm hm=>(h2.other m hm).trans (h1.other m hm)⟩
theorem zj1 {D:DiskA} (hok:okA D) (n:ByteArray):okA (z10 D [n]).2/\(z10 D [n]).2.room=D.room/\used (z10 D [n]).2.fs=used D.fs/\(z10 D [n]).2.fs.length=D.fs.length /\
  ∀ m,z03 (z10 D [n]).2.fs m=z03 D.fs m\/(m=n/\(z10 D [n]).1=0/\z03 (z10 D [n]).2.fs m=(z03 D.fs m).map λp=>(p.1,p.1.length)):=by
 by_cases h:(z10 D [n]).1=0
 ·obtain ⟨-,h1,h2,h3,h4,h5⟩:=zd8 hok h
  refine ⟨h1,h2,h3,h4,λm=>?_⟩
  by_cases hm:n=m
  ·subst hm
   refine .inr ⟨rfl,h,?_⟩
   rw [h5]
   simp
  ·refine .inl ?_
   rw [h5]
   simp [hm]
 ·rcases zaz (A:=D) (n:=n) with ⟨h1,-,-,-⟩|⟨-,-,h4⟩|⟨-,-,-,h4⟩
  ·exact absurd h1 h
  ·rw [h4];exact ⟨hok,rfl,rfl,rfl,λm=>.inl rfl⟩
  ·rw [h4];exact ⟨hok,rfl,rfl,rfl,λm=>.inl rfl⟩
theorem Cpl.same {pre:ByteArray} {l:List SegA} {D D':DiskA} (h:Cpl pre l D) (hok:okA D') (hf:∀ m,(bl (z18 pre)).isPrefixOf (bl m)=true->(z03 D'.fs m).map Prod.fst=(z03 D.fs m).map Prod.fst):Cpl pre l D':=by
 refine ⟨hok,h.segs,λs hs=>?_,λn hn hp=>?_⟩
 ·obtain ⟨k,hk⟩:=h.has s hs
  have:=hf _ (z2p pre s.base zq)
  rw [hk] at this
  cases hq:z03 D'.fs (ze pre s.base zq) with
  | none=>rw [hq] at this;cases this
  | some q =>
   rw [hq] at this
   simp only [Option.map_some,Option.some.injEq] at this
   exact ⟨q.2,by rw [<- this]⟩
 ·refine h.only n ?_ hp
  have:=hf n hp
  cases hq:z03 D.fs n with
  | none =>
   rw [hq] at this
   cases hq2:z03 D'.fs n with
   | none=>rw [hq2] at hn;cases hn
   | some q=>rw [hq2] at this;cases this
  | some q=>rfl
theorem z71 {pre:ByteArray} {l:List SegA} {D:DiskA} (h:Cpl pre l D):Cpl pre l (z0m pre l D).2/\Fr pre D (z0m pre l D).2/\used (z0m pre l D).2.fs=used D.fs/\(z0m pre l D).2.fs.length=D.fs.length/\(Calm D->(z0m pre l D).1=0):=by
 unfold z0m
 cases hl:l.getLast? with
 | none=>exact ⟨h,.refl _ _,rfl,rfl,λ_=>rfl⟩
 | some s =>
  simp only
  obtain ⟨h1,h2,h3,h4,h5⟩:=zj1 h.ok (ze pre s.base zq)
  refine ⟨h.same h1 λm hm=>?_,⟨h2,λm hm=>?_⟩,h3,h4,λhc=>?_⟩
  ·rcases h5 m with h6|⟨-,-,h6⟩
   ·rw [h6]
   ·rw [h6,Option.map_map];rfl
  ·rcases h5 m with h6|⟨h6,-,-⟩
   ·exact h6
   ·rw [h6,z2p] at hm;cases hm
  ·rcases zaz (A:=D) (n:=ze pre s.base zq) with ⟨h6,-,-,-⟩|⟨-,h6,-⟩|⟨-,-,h6,-⟩
   ·exact h6
   ·rw [hc.gone] at h6;cases h6
   ·obtain ⟨k,hk⟩:=h.has s (List.mem_of_getLast? hl)
    rw [hk] at h6;cases h6
theorem Cpl.grow {pre:ByteArray} {l0:List SegA} {s s':SegA} {D:DiskA} {x:List UInt8} (hp:z49 pre=true) (h:Cpl pre (l0++[s]) D) (hsegs:z09 0 (l0++[s'])) (hb:s'.base=s.base) (hx:s'.file=s.file++x) (ha:(zu D (ze pre s.base zq) x).1=0) :
  Cpl pre (l0++[s']) (zu D (ze pre s.base zq) x).2/\Fr pre D (zu D (ze pre s.base zq) x).2/\used (zu D (ze pre s.base zq) x).2.fs+z25 (l0++[s])=used D.fs+z25 (l0++[s'])/\(zu D (ze pre s.base zq) x).2.fs.length=D.fs.length:=by
 obtain ⟨h1,h2,h3,h4,h5,h6,h7⟩:=z69 h.ok ha
 obtain ⟨k,hk⟩:=h.has s (by simp)
 obtain ⟨f1,f2,f3,f4⟩:=h.segs.front
 refine ⟨⟨h4,hsegs,λt ht=>?_,λn hn hpn=>?_⟩,⟨h5,λm hm=>?_⟩,?_,(z6j.2 (by rw [hk];rfl))⟩
 ·rcases List.mem_append.1 ht with ht|ht
  ·have hto:=(f1.mem t ht).1
   have hne:ze pre t.base zq≠ze pre s.base zq:=z5d hto f2 (by have:=(f4 t ht).2;omega)
   rw [h7,if_neg hne]
   exact h.has t (by simp [ht])
  ·simp only [List.mem_cons,List.not_mem_nil,or_false] at ht
   subst ht
   rw [hb,h7,if_pos rfl,hk,hx]
   exact ⟨k,rfl⟩
 ·rw [h7] at hn
  by_cases hm:n=ze pre s.base zq
  ·exact ⟨s',by simp,by rw [hb];exact hm⟩
  ·rw [if_neg hm] at hn
   obtain ⟨t,ht,rfl⟩:=h.only n hn hpn
   rcases List.mem_append.1 ht with ht|ht
   ·exact ⟨t,by simp [ht],rfl⟩
   ·simp only [List.mem_cons,List.not_mem_nil,or_false] at ht
    subst ht
    exact absurd rfl hm
 ·rw [h7,if_neg]
  rintro rfl
  rw [z2p] at hm;cases hm
 ·rw [h6,z66,z66,hx,List.length_append];omega
theorem Cpl.begin {pre:ByteArray} {l:List SegA} {s:SegA} {D:DiskA} (h:Cpl pre l D) (hsegs:z09 0 (l++[s])) (ha:(zu D (ze pre s.base zq) s.file).1=0) :
  Cpl pre (l++[s]) (zu D (ze pre s.base zq) s.file).2/\Fr pre D (zu D (ze pre s.base zq) s.file).2/\used (zu D (ze pre s.base zq) s.file).2.fs+z25 l=used D.fs+z25 (l++[s])/\(zu D (ze pre s.base zq) s.file).2.fs.length<=D.fs.length+1:=by
 obtain ⟨h1,h2,h3,h4,h5,h6,h7⟩:=z69 h.ok ha
 obtain ⟨f1,f2,f3,f4⟩:=hsegs.front
 have hnone:z03 D.fs (ze pre s.base zq)=none:=by
  cases hq:z03 D.fs (ze pre s.base zq) with
  | none=>rfl
  | some q =>
   obtain ⟨t,ht,e⟩:=h.only _ (by rw [hq];rfl) (z2p pre s.base zq)
   exact absurd e (z5d f2 (f1.mem t ht).1 (by have:=(f4 t ht).2;omega))
 refine ⟨⟨h4,hsegs,λt ht=>?_,λn hn hpn=>?_⟩,⟨h5,λm hm=>?_⟩,?_,z6j.1⟩
 ·rcases List.mem_append.1 ht with ht|ht
  ·have hto:=(f1.mem t ht).1
   have hne:ze pre t.base zq≠ze pre s.base zq:=z5d hto f2 (by have:=(f4 t ht).2;omega)
   rw [h7,if_neg hne]
   exact h.has t ht
  ·simp only [List.mem_cons,List.not_mem_nil,or_false] at ht
   subst ht
   rw [h7,if_pos rfl,hnone]
   exact ⟨0,rfl⟩
 ·rw [h7] at hn
  by_cases hm:n=ze pre s.base zq
  ·exact ⟨s,by simp,hm⟩
  ·rw [if_neg hm] at hn
   obtain ⟨t,ht,rfl⟩:=h.only n hn hpn
   exact ⟨t,by simp [ht],rfl⟩
 ·rw [h7,if_neg]
  rintro rfl
  rw [z2p] at hm;cases hm
 ·rw [h6,z66];omega
def Stp (pre:ByteArray) (l:List SegA) (D:DiskA) (l':List SegA) (D':DiskA):Prop :=
 Cpl pre l' D'/\Fr pre D D'/\used D'.fs+z25 l=used D.fs+z25 l'/\D'.fs.length+l.length<=D.fs.length+l'.length/\(Calm D->Calm D')
theorem Stp.same {pre:ByteArray} {l:List SegA} {D:DiskA} (h:Cpl pre l D):Stp pre l D l D:=⟨h,.refl _ _,rfl,Nat.le_refl _,id⟩
theorem Stp.trans {pre:ByteArray} {l l' l'':List SegA} {D D' D'':DiskA} (h1:Stp pre l D l' D') (h2:Stp pre l' D' l'' D''):Stp pre l D l'' D'' :=
 ⟨h2.1,h1.2.1.trans h2.2.1,by have:=h1.2.2.1;have:=h2.2.2.1;omega,by have:=h1.2.2.2.1;have:=h2.2.2.2.1;omega,λh=>h2.2.2.2.2 (h1.2.2.2.2 h)⟩
theorem zi3 {pre:ByteArray} {l:List SegA} {D:DiskA} (h:Cpl pre l D):Stp pre l D l (z0m pre l D).2:=by
 obtain ⟨h1,h2,h3,h4,-⟩:=z71 h
 exact ⟨h1,h2,by omega,by omega,λhc=>z8f hc _ _⟩
theorem zev (n:Int) (bs:List BatM):(SegA.add ⟨n,0,[]⟩ bs).file=shL n 0++bs.flatMap frL:=by
 rw [z52];simp [SegA.file]
theorem zeh {pre:ByteArray} (seg:Int) {l:List SegA} {D:DiskA} (bs:List BatM) (hp:z49 pre=true) (h:Cpl pre l D):Stp pre l D (z0s pre seg l D bs).2.1 (z0s pre seg l D bs).2.2:=by
 have hsegs:=z7z (seg:=seg) (bs:=bs) h.segs
 unfold z0s
 unfold z0w at hsegs
 split
 ·exact .same h
 rename_i hb
 rw [if_neg hb] at hsegs
 split
 ·exact .same h
 rename_i hpl
 rw [if_neg hpl] at hsegs
 simp only at hsegs
 split
 ·rename_i hr
  rw [if_pos hr] at hsegs
  have hne:l≠[]:=by rintro rfl;cases hr
  obtain ⟨l0,s,rfl⟩:=z29 hne
  rw [zai]
  rw [z3c] at hsegs
  split
  ·rename_i he
   simp only
   rw [z8k he]
   exact .same h
  ·rename_i he
   have he:=Decidable.not_not.1 he
   simp only
   rw [z3c]
   obtain ⟨c1,c2,c3,c4⟩:=h.grow hp hsegs rfl (z52 _ _) he
   exact ⟨c1,c2,c3,by rw [List.length_append,List.length_append];simp;omega,λhc=>zaw hc _ _⟩
 ·rename_i hr
  rw [if_neg hr] at hsegs
  have hst:=zi3 h
  split
  ·exact hst
  split
  ·rename_i he
   simp only
   rw [z8k he]
   exact hst
  ·rename_i he
   have he:=Decidable.not_not.1 he
   simp only
   rw [<- zev] at he ⊢
   obtain ⟨c1,c2,c3,c4⟩:=hst.1.begin (s:=SegA.add ⟨zp l,0,[]⟩ (zt (zp l) bs).2) hsegs he
   refine hst.trans ⟨c1,c2,c3,?_,λhc=>zaw hc _ _⟩
   rw [List.length_append,List.length_singleton]
   have c4:(zu (z0m pre l D).2 (ze pre (zp l) zq) _).2.fs.length<=_:=c4
   omega
theorem ztj {pre:ByteArray} (seg:Int) {l:List SegA} {D:DiskA} (bs:List BatM) (hp:z49 pre=true) (h:Cpl pre l D) (hc:Calm D) :
  ((z0s pre seg l D bs).1=(z0w seg l bs).1/\(z0s pre seg l D bs).2.1=(z0w seg l bs).2) \/
  ((z0s pre seg l D bs).1=(0,5)/\(z0s pre seg l D bs).2.1=l/\(z0w seg l bs).1.2=0/\(zt (zp l) bs).1=0/\(((zt (zp l) bs).2.flatMap frL).length+(shL (zp l) 0).length>D.free\/D.fs.length>=128)):=by
 unfold z0s z0w
 split
 ·exact .inl ⟨rfl,rfl⟩
 split
 ·exact .inl ⟨rfl,rfl⟩
 rename_i hpl
 have hpl:=Decidable.not_not.1 hpl
 split
 ·rename_i hr
  split
  ·rename_i he
   have hne:l≠[]:=by rintro rfl;cases hr
   obtain ⟨l0,s,rfl⟩:=z29 hne
   rw [zai] at he ⊢
   obtain ⟨k,hk⟩:=h.has s (by simp)
   have h5:(zu D (ze pre s.base zq) ((zt (zp (l0++[s])) bs).2.flatMap frL)).1=5:=by
    rcases zdl (A:=D) (n:=ze pre s.base zq) (bs:=(zt (zp (l0++[s])) bs).2.flatMap frL) (z8q hp _) with h6|⟨-,h6⟩|⟨h6,-⟩
    ·exact absurd h6 he
    ·rw [hc.gone] at h6;cases h6
    ·exact h6
   refine .inr ⟨by rw [h5],rfl,rfl,hpl,.inl ?_⟩
   apply Nat.lt_of_not_le
   intro hle
   exact he (z7s hc.gone (z8q hp _) (by omega) (.inl (by rw [hk];simp)))
  ·exact .inl ⟨rfl,rfl⟩
 ·rename_i hr
  obtain ⟨s1,s2,s3,s4,s5⟩:=z71 h
  have s5:=s5 hc
  have hc2:=z8f hc pre l
  rw [if_neg (by rw [s5];simp)]
  split
  ·rename_i he
   have h5:(zu (z0m pre l D).2 (ze pre (zp l) zq) (shL (zp l) 0++(zt (zp l) bs).2.flatMap frL)).1=5:=by
    rcases zdl (A:=(z0m pre l D).2) (n:=ze pre (zp l) zq) (bs:=shL (zp l) 0++(zt (zp l) bs).2.flatMap frL) (z8q hp _) with h6|⟨-,h6⟩|⟨h6,-⟩
    ·exact absurd h6 he
    ·rw [hc2.gone] at h6;cases h6
    ·exact h6
   refine .inr ⟨by rw [h5],rfl,rfl,hpl,?_⟩
   by_cases hfl:D.fs.length>=128
   ·exact .inr hfl
   refine .inl ?_
   apply Nat.lt_of_not_le
   intro hle
   refine he (z7s hc2.gone (z8q hp _) ?_ (.inr (by omega)))
   have:(z0m pre l D).2.free=D.free:=by unfold DiskA.free;rw [s2.room,s3]
   rw [this,List.length_append]
   omega
  ·exact .inl ⟨rfl,rfl⟩
theorem zd1:∀ {xs ys:List ByteArray},xs.Pairwise (λa b=>ltS a b=true)->ys.Pairwise (λa b=>ltS a b=true)->(∀ n,n ∈ xs↔n ∈ ys)->xs=ys
 | [],[],_,_,_=>rfl
 | [],y::ys,_,_,h=>absurd ((h y).2 (List.mem_cons_self ..)) (by simp)
 | x::xs,[],_,_,h=>absurd ((h x).1 (List.mem_cons_self ..)) (by simp)
 | x::xs,y::ys,hx,hy,h=>by
  rw [List.pairwise_cons] at hx hy
  have hxy:x=y:=by
   rcases List.mem_cons.1 ((h x).1 (List.mem_cons_self ..)) with h1|h1
   ·exact h1
   ·rcases List.mem_cons.1 ((h y).2 (List.mem_cons_self ..)) with h2|h2
    ·exact h2.symm
    ·have h3:=hy.1 x h1
     have h4:=hx.1 y h2
     rw [ztl h3] at h4
     cases h4
  subst hxy
  congr 1
  refine zd1 hx.2 hy.2 λn=>?_
  constructor
  ·intro hn
   rcases List.mem_cons.1 ((h n).1 (List.mem_cons_of_mem _ hn)) with h1|h1
   ·subst h1
    have:=hx.1 n hn
    rw [z8g] at this;cases this
   ·exact h1
  ·intro hn
   rcases List.mem_cons.1 ((h n).2 (List.mem_cons_of_mem _ hn)) with h1|h1
   ·subst h1
    have:=hy.1 n hn
    rw [z8g] at this;cases this
   ·exact h1
theorem zgx (p s:ByteArray):Go.Proofs.YtfnldnodhfkojaaGreat.preF p s=(bl p).isPrefixOf (bl s):=by
 unfold Go.Proofs.YtfnldnodhfkojaaGreat.preF
 rw [ByteArray.toList_eq,ByteArray.toList_eq]
theorem zhm {D:DiskA} {pre n:ByteArray}:n ∈ z15 (z18 pre) D.fs↔(z03 D.fs n).isSome=true/\(bl (z18 pre)).isPrefixOf (bl n)=true:=by
 unfold z15
 rw [List.mem_filter,<- z3z,z63,zgx]
 constructor
 ·rintro ⟨h1,h2⟩
  obtain ⟨f,hf,rfl⟩:=List.mem_map.1 h1
  exact ⟨⟨f,hf,rfl⟩,h2⟩
 ·rintro ⟨⟨f,hf,rfl⟩,h2⟩
  exact ⟨List.mem_map.2 ⟨f,hf,rfl⟩,h2⟩
theorem zcs {D:DiskA} (hok:okA D) (p:ByteArray):(z15 p D.fs).Pairwise λa b=>ltS a b=true:=by
 unfold z15
 exact ((List.pairwise_map.2 hok.sorted).filter _)
theorem z9x (pre:ByteArray):∀ {n:Int} {l:List SegA},z09 n l->(l.map λs=>ze pre s.base zq).Pairwise λa b=>ltS a b=true
 | _,[],_=>List.Pairwise.nil
 | n,s::l,⟨h1,h2,h3⟩=>by
  rw [List.map_cons,List.pairwise_cons]
  refine ⟨λm hm=>?_,z9x pre h3⟩
  obtain ⟨t,ht,rfl⟩:=List.mem_map.1 hm
  have h4:=h3.mem t ht
  have:=h2.base
  have:=h4.1.base
  exact (zs1 pre (by omega) (by omega) zq).2 (by omega)
theorem Cpl.names {pre:ByteArray} {l:List SegA} {D:DiskA} (h:Cpl pre l D):z15 (z18 pre) D.fs=l.map λs=>ze pre s.base zq:=by
 refine zd1 (zcs h.ok _) (z9x pre h.segs) λn=>?_
 rw [zhm]
 constructor
 ·rintro ⟨h1,h2⟩
  obtain ⟨s,hs,rfl⟩:=h.only n h1 h2
  exact List.mem_map.2 ⟨s,hs,rfl⟩
 ·intro hn
  obtain ⟨s,hs,rfl⟩:=List.mem_map.1 hn
  obtain ⟨k,hk⟩:=h.has s hs
  exact ⟨by rw [hk];rfl,z2p pre s.base zq⟩
theorem zbe (pre:ByteArray) (D:DiskA):∀ {l:List SegA},(∀ s ∈ l,SegOk s)->z11 pre (l.map λs=>ze pre s.base zq) D=(0,l.map SegA.base,D)
 | [],_=>rfl
 | s::l,h=>by
  have hb:=(h s (List.mem_cons_self ..)).base
  have h1:z1o pre (ze pre s.base zq) zq=some s.base.toNat:=zdt pre (by omega) zq
  have h2:z1o pre (ze pre s.base zq) z0o=none:=zhw h1 (by decide)
  rw [List.map_cons]
  unfold z11
  rw [h2]
  rw [if_neg (by rintro ⟨h3,-⟩;cases h3)]
  simp only [Option.isSome_none,Bool.false_eq_true,if_false]
  rw [zbe pre D λt ht=>h t (List.mem_cons_of_mem _ ht),h1]
  simp only [List.map_cons]
  have e:((s.base.toNat:Nat):Int)=s.base:=by omega
  rw [e]
  rfl
theorem zg6 {pre:ByteArray} {D:DiskA}:∀ {l l1:List SegA},z09 0 (l1++l)->(∀ s ∈ l,∃ k,z03 D.fs (ze pre s.base zq)=some (s.file,k))->z2o pre (l.map SegA.base) l1 D=(0,l1++l,D)
 | [],l1,_,_=>by unfold z2o;simp
 | s::l,l1,hok,hh=>by
  rw [List.map_cons]
  unfold z2o
  have hok2:z09 0 ((l1++[s])++l):=by rwa [List.append_assoc]
  have hs:SegOk s:=(hok.mem s (by simp)).1
  obtain ⟨k,hk⟩:=hh s (List.mem_cons_self ..)
  have hb:¬ s.base<zp l1:=by
   have:=hs.base
   by_cases h0:l1=[]
   ·subst h0;show ¬ s.base<0;omega
   ·obtain ⟨l0,t,rfl⟩:=z29 h0
    rw [z2k]
    have h1:=hok.skip l0.length (l0.length+1) (by simp) (by omega)
    have e1:(l0++[t]++s::l)[l0.length]'(by simp)=t:=by simp
    have e2:(l0++[t]++s::l)[l0.length+1]'(by simp)=s:=by
     rw [List.getElem_append_right (by simp)];simp
    rw [e1,e2] at h1
    omega
  have hsc:z1w pre l1 D s.base=((true,0),l1++[s],D):=by
   unfold z1w
   rw [hk]
   simp only
   rw [zi5 hs]
   simp only
   rw [if_pos trivial]
  rw [if_neg hb,hsc,if_neg (by simp),if_pos rfl]
  simp only
  rw [zg6 hok2 λt ht=>hh t (List.mem_cons_of_mem _ ht),List.append_assoc]
  rfl
theorem Cpl.opened {pre:ByteArray} {l:List SegA} {D:DiskA} (h:Cpl pre l D):z4s pre D=(0,l,D):=by
 unfold z4s
 rw [h.names,zbe pre D λs hs=>(h.segs.mem s hs).1]
 rw [if_neg (by simp)]
 simp only
 have:=zg6 (pre:=pre) (D:=D) (l:=l) (l1:=[]) h.segs h.has
 rw [this]
 rfl
theorem Cpl.frame {pre q:ByteArray} {l:List SegA} {D D':DiskA} (h:Cpl q l D) (hok:okA D') (hp:z49 pre=true) (hq:z49 q=true) (hne:pre≠q) (hf:Fr pre D D'):Cpl q l D' :=
 h.same hok λm hm=>by
  rw [hf.other m ?_]
  cases hx:(bl (z18 pre)).isPrefixOf (bl m) with
  | false=>rfl
  | true=>exact absurd (zua hp hq hx hm) hne
theorem zsv (pre:ByteArray) (n:Nat) (hn:n<=4194304):Cpl pre [] ⟨n,-1,false,[]⟩ :=
 ⟨⟨hn,by show (0:Nat)<=_;omega,by show (0:Nat)<=_;omega,by show -1<=(-1:Int)/\(-1:Int)<=_;omega,List.Pairwise.nil,(λf h=>by cases h),λf h=>by cases h⟩,trivial,(λs h=>by cases h),λn h=>by cases h⟩
def z4w (t:ByteArray):ByteArray:=if t.size>30 then t.extract 0 30 else t
def z4a (r:RecM):RecM:=⟨z4w r.key,z4w r.value,r.gone,r.time⟩
def z0e (b:BatM):BatM:=⟨b.base,b.pid,b.epoch,b.seq,b.kind,b.time,z6v,(b.rs.take 6).map z4a⟩
theorem z7u (t:ByteArray):(z4w t).size<=30:=by
 unfold z4w
 split
 ·rw [ByteArray.size_extract];omega
 ·omega
theorem zt4 (b:BatM) (n:Int) (z:Sl):2<=(z2e (((z0e b).at z).to n)).length/\(z2e (((z0e b).at z).to n)).length<=668:=by
 have h:=zgf (b:=((z0e b).at z).to n) (n:=60) λr hr=>by
  obtain ⟨q,-,rfl⟩:=List.mem_map.1 (show r ∈ (b.rs.take 6).map z4a from hr)
  have h1:=z7u q.key
  have h2:=z7u q.value
  show (z4w q.key).size+(z4w q.value).size<=60
  omega
 have h3:(((z0e b).at z).to n).rs.length<=6:=by
  show ((b.rs.take 6).map z4a).length<=6
  rw [List.length_map,List.length_take];omega
 omega
abbrev cZ (b:BatM) (z:Sl):Array Value:=#[.int .i64 b.base,.int .i64 b.pid,.int .i64 b.epoch,.int .i64 b.seq,.int .i64 b.kind,.int .i64 b.time,.slice z.a z.len z.cap]
section
variable {w:World} {l r:List HP}
theorem zu6 (seg gap:Int) (hs:Sat w l):Ret P F.a106 #[.int .i64 seg,.int .i64 gap] w λvs w'=>∃ s g:Int,(64<=s/\s<=463)/\(1<=g/\g<=100)/\vs=[.agg #[.int .i64 s,.int .i64 g]]/\Sat w' l :=
 zl6 seg gap <| by
  unfold zwj
  have hm1 : -400<Int.tmod seg 400/\Int.tmod seg 400<400:=⟨by have:=Int.lt_tmod_of_pos seg (b:=400) (by omega);omega,Int.tmod_lt_of_pos seg (by omega)⟩
  have hm2 : -100<Int.tmod gap 100/\Int.tmod gap 100<100:=⟨by have:=Int.lt_tmod_of_pos gap (b:=100) (by omega);omega,Int.tmod_lt_of_pos gap (by omega)⟩
  generalize Int.tmod seg 400=s at *
  generalize Int.tmod gap 100=g at *
  refine zv hs λa0 w' hs=>?_
  refine wp_lt ?_
  refine wp_lt ?_
  refine zn (λq w'=>∃ s:Int,(0<=s/\s<400)/\q=(s,())/\Sat w' (pt a0 (.cells [.int .i64 0,.int .i64 0].toArray T.a29)::l)) ?_ ?_
  ·refine zf (λh=>?_) λh=>?_
   ·rw [w64 (by omega) (by omega)]
    refine wp_lt ?_
    exact zg ⟨0-s,by omega,rfl,hs⟩
   ·exact zg ⟨s,by omega,rfl,hs⟩
  clear hs
  rintro _ w ⟨s,hm1,rfl,hs⟩
  refine zl ?_
  refine zn (λq w'=>∃ g:Int,(0<=g/\g<100)/\q=(g,())/\Sat w' (pt a0 (.cells [.int .i64 0,.int .i64 0].toArray T.a29)::l)) ?_ ?_
  ·refine zf (λh=>?_) λh=>?_
   ·rw [w64 (by omega) (by omega)]
    refine wp_lt ?_
    exact zg ⟨0-g,by omega,rfl,hs⟩
   ·exact zg ⟨g,by omega,rfl,hs⟩
  clear hs
  rintro _ w ⟨g,hm2,rfl,hs⟩
  refine zl ?_
  rw [w64 (by omega) (by omega),w64 (by omega) (by omega)]
  refine zx hs λw' hs=>?_
  refine zr hs ?_
  exact ⟨rfl,64+s,1+g,by omega,by omega,rfl,hs.tail⟩
theorem zz3 (b:BatM) [hb:FocR l b.x 4 (b.rs.flatMap zw)] (hs:Sat w l):Ret P F.a104 #[.agg (zi b).toArray] w λvs w'=>∃ z:Sl,vs=[.agg (zi ((z0e b).at z)).toArray]/\Sat w' (slc T.a3 4 z ((z0e b).rs.flatMap zw)::l) :=
 zm5 b.base b.pid b.epoch b.seq b.kind b.time b.x <| by
  unfold zxx
  have hl:=hs.slen b.x (xs:=b.rs) (enc:=zw)
  refine z02 hs λa0 w' hs=>?_
  refine zv hs λa1 w' hs=>?_
  refine zr hs ?_
  refine zv hs λa9 w' hs=>?_
  refine zx hs λw' hs=>?_
  refine z0d hs λw' hs=>?_
  refine za hs ?_
  have hs:Sat w' (slc T.a3 4 ⟨none,0,0⟩ (([]:List RecM).flatMap zw)::pt a9 (.cells (cZ b ⟨none,0,0⟩) T.a1)::pt a1 (.cells #[.int .i64 0,.int .i64 0,.int .i64 0,.int .i64 0,.int .i64 0,.int .i64 0,.slice none 0 0] T.a1)::l):=by
   have h1:Sat w' (pt a9 (.cells (cZ b ⟨none,0,0⟩) T.a1)::pt a1 (.cells #[.int .i64 0,.int .i64 0,.int .i64 0,.int .i64 0,.int .i64 0,.int .i64 0,.slice none 0 0] T.a1)::l):=hs.sub
   exact h1.slc_nil
  refine zn (λ_ w'=>∃ z:Sl,Sat w' (slc T.a3 4 z ((z0e b).rs.flatMap zw)::pt a9 (.cells (cZ b z) T.a1)::pt a1 (.cells #[.int .i64 0,.int .i64 0,.int .i64 0,.int .i64 0,.int .i64 0,.int .i64 0,.slice none 0 0] T.a1)::l)) ?_ ?_
  rotate_left
  ·rintro _ w2 ⟨z,hs⟩
   refine zl ?_
   refine zr hs ?_
   refine zx hs λw' hs=>?_
   refine zr hs ?_
   exact ⟨rfl,z,rfl,hs.sub⟩
  refine z06 (λm v w=>∃ (i:Nat) (z:Sl),v=((i:Int),())/\i<=b.rs.length/\i<=6/\b.rs.length-i=m/\Sat w (slc T.a3 4 z (((b.rs.take i).map z4a).flatMap zw)::pt a9 (.cells (cZ b z) T.a1)::pt a1 (.cells #[.int .i64 0,.int .i64 0,.int .i64 0,.int .i64 0,.int .i64 0,.int .i64 0,.slice none 0 0] T.a1)::l)) b.rs.length ⟨0,⟨none,0,0⟩,rfl,by omega,by omega,rfl,hs⟩ ?_
  clear hs
  rintro m _ w ⟨i,z,rfl,hi,hi6,hm,hs⟩
  refine zl ?_
  refine zf (λhc=>?_) λhc=>?_
  rotate_left
  ·refine zk (zg ⟨z,?_⟩)
   have e:b.rs.take i=b.rs.take 6:=by rw [List.take_of_length_le (by omega),List.take_of_length_le (by omega)]
   rw [e] at hs
   exact hs
  have hil:i<b.rs.length:=by omega
  refine z1n hs (xs:=b.rs) (enc:=zw) i hil ?_
  refine zv hs λa18 w' hs=>?_
  refine wp_lt ?_
  refine zx hs λw' hs=>?_
  refine zf (λh6=>?_) λh6=>?_
  ·have:i=6:=by omega
   subst this
   exact zk (zg ⟨z,hs.tail⟩)
  have hx:(b.rs.take (i+1)).map z4a=(b.rs.take i).map z4a++[z4a b.rs[i]]:=by rw [List.take_succ_eq_append_getElem hil,List.map_append];rfl
  generalize b.rs[i]=q at hx hs ⊢
  refine za hs ?_
  refine zn (λ_ w'=>Sat w' (pt a18 (.cells #[.string (z4w q.key),.string q.value,.bool q.gone,.int .i64 q.time] T.a3)::slc T.a3 4 z (((b.rs.take i).map z4a).flatMap zw)::pt a9 (.cells (cZ b z) T.a1)::pt a1 (.cells #[.int .i64 0,.int .i64 0,.int .i64 0,.int .i64 0,.int .i64 0,.int .i64 0,.slice none 0 0] T.a1)::l)) ?_ ?_
  ·unfold z4w
   refine zf (λh=>?_) λh=>?_
   ·refine za hs ?_
    refine wp_must (by omega) ?_
    refine z0d hs λw' hs=>?_
    refine zg ?_
    rw [if_pos (by omega)]
    exact hs
   ·refine zg ?_
    rw [if_neg (by omega)]
    exact hs
  clear hs
  rintro _ w hs
  refine zl ?_
  refine za hs ?_
  refine zn (λ_ w'=>Sat w' (pt a18 (.cells #[.string (z4w q.key),.string (z4w q.value),.bool q.gone,.int .i64 q.time] T.a3)::slc T.a3 4 z (((b.rs.take i).map z4a).flatMap zw)::pt a9 (.cells (cZ b z) T.a1)::pt a1 (.cells #[.int .i64 0,.int .i64 0,.int .i64 0,.int .i64 0,.int .i64 0,.int .i64 0,.slice none 0 0] T.a1)::l)) ?_ ?_
  ·generalize z4w q.key=k0 at hs ⊢
   unfold z4w
   refine zf (λh=>?_) λh=>?_
   ·refine za hs ?_
    refine wp_must (by omega) ?_
    refine z0d hs λw' hs=>?_
    refine zg ?_
    rw [if_pos (by omega)]
    exact hs
   ·refine zg ?_
    rw [if_neg (by omega)]
    exact hs
  clear hs
  rintro _ w hs
  refine zl ?_
  refine za hs ?_
  refine zr hs ?_
  refine z1t hs (enc:=zw) (z4a q) λy w' hs=>?_
  refine wp_app' (xs:=(b.rs.take i).map z4a) (ys:=[z4a q]) (enc:=zw) hs (λz' w' hs=>?_) (by simp only [List.length_map,List.length_take,List.length_cons,List.length_nil];omega)
  refine z0d hs λw' hs=>?_
  rw [wS (i:=i) (by omega)]
  refine z0l (b.rs.length-(i+1)) ⟨i+1,z',rfl,by omega,by omega,rfl,?_⟩
  rw [hx]
  have hs:Sat w' (pt a9 (.cells (cZ b z') T.a1)::slc T.a3 4 z' (((b.rs.take i).map z4a++[z4a q]).flatMap zw)::slc T.a3 4 y _::pt a18 _::pt a1 (.cells #[.int .i64 0,.int .i64 0,.int .i64 0,.int .i64 0,.int .i64 0,.int .i64 0,.slice none 0 0] T.a1)::l):=hs
  exact hs.sub
end
theorem zc1 {nm:SegA->ByteArray}:∀ {fs:List FileA} {l:List SegA},fs.map (·.name)=l.map nm->(∀ f ∈ fs,∀ s ∈ l,f.name=nm s->f.b=s.file)->used fs=z25 l
 | [],[],_,_=>rfl
 | [],s::l,h,_=>by simp at h
 | f::fs,[],h,_=>by simp at h
 | f::fs,s::l,h,hh=>by
  rw [List.map_cons,List.map_cons,List.cons.injEq] at h
  have h1:=hh f (List.mem_cons_self ..) s (List.mem_cons_self ..) h.1
  have h2:=zc1 h.2 λf hf s hs=>hh f (List.mem_cons_of_mem _ hf) s (List.mem_cons_of_mem _ hs)
  rw [z13,h2,h1]
  simp [z25]
theorem Cpl.sizes {pre:ByteArray} {l:List SegA} {D:DiskA} (h:Cpl pre l D):l.length<=D.fs.length/\z25 l<=used D.fs:=by
 have hn:=h.names
 have e:(D.fs.filter λf=>(bl (z18 pre)).isPrefixOf (bl f.name)).map (·.name)=l.map λs=>ze pre s.base zq:=by
  rw [<- hn]
  unfold z15
  rw [List.filter_map]
  congr 1
  apply List.filter_congr
  intro f _
  show _=Go.Proofs.YtfnldnodhfkojaaGreat.preF (z18 pre) f.name
  rw [zgx]
 have hs:=zc1 e λf hf s hs hfs=>by
  have h1:=z6c (z23 h.ok.sorted) (List.mem_filter.1 hf).1
  obtain ⟨k,hk⟩:=h.has s hs
  rw [hfs,hk] at h1
  simp only [Option.some.injEq,Prod.mk.injEq] at h1
  exact h1.1.symm
 have hl:=congrArg List.length e
 rw [List.length_map,List.length_map] at hl
 exact ⟨by rw [<- hl];exact List.length_filter_le _ _,by rw [<- hs];exact zb1 List.filter_sublist⟩
theorem zo5:∀ {n:Int} {l:List SegA},z09 n l->(z08 l).length*10<=z25 l
 | _,[],_=>Nat.le_refl _
 | n,s::l,⟨h1,h2,h3⟩=>by
  have h4:=zo5 h3
  have h5:=zgh h2
  have e1:z08 (s::l)=s.bs++z08 l:=by simp [z08]
  have e2:z25 (s::l)=s.file.length+z25 l:=by simp [z25]
  rw [e1,e2,List.length_append]
  omega
theorem Cpl.len {pre:ByteArray} {l:List SegA} {D:DiskA} (h:Cpl pre l D):l.length<=128/\(z08 l).length<=500000/\∀ s ∈ l,s.file.length<=4194304:=by
 obtain ⟨h1,h2⟩:=h.sizes
 have h3:=zo5 h.segs
 have h4:=h.ok.many
 have h5:=h.ok.used
 refine ⟨by omega,by omega,λs hs=>?_⟩
 obtain ⟨k,hk⟩:=h.has s hs
 exact Nat.le_trans (zce hk) h5
theorem zn5 (b:BatM) (z:Sl) (n:Int):((zt n [(z0e b).at z]).2.flatMap frL).length<=676:=by
 unfold zt
 split
 ·exact Nat.zero_le _
 ·rename_i hv
  have hv:=Decidable.not_not.1 hv
  split
  ·exact Nat.zero_le _
  ·show ((((z0e b).at z).to n)::(zt _ []).2 |>.flatMap frL).length<=676
   have h1:=zt4 b n z
   have h2:=z3l hv
   simp only [zt,List.flatMap_cons,List.flatMap_nil,List.append_nil]
   omega
theorem zk5 {seg:Int} {l:List SegA} {bs:List BatM}:z25 (z0w seg l bs).2<=z25 l+((zt (zp l) bs).2.flatMap frL).length+29:=by
 unfold z0w
 split
 ·simp only;omega
 split
 ·simp only;omega
 simp only
 split
 ·rename_i hr
  have hne:l≠[]:=by rintro rfl;cases hr
  obtain ⟨l0,s,rfl⟩:=z29 hne
  rw [z3c,z66,z66,z52,List.length_append]
  omega
 ·have:=z4n (zp l) 0
  rw [z66,zev,List.length_append]
  omega
theorem zqf (seg:Int) (l:List SegA) (b:BatM) (z1 z2:Sl):z0w seg l [(z0e b).at z1]=z0w seg l [(z0e b).at z2]:=by
 rw [<- zki,<- zki seg l [(z0e b).at z2]]
 rfl
end Go.Dec
