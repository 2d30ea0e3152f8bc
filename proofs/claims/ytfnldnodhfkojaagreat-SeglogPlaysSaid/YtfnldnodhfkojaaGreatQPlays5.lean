/- What the claim of this folder leans on: our own texts, joined, without what it does not use. -/
import Derived.Test.YtfnldnodhfkojaaGreatRows
import Derived.WalkKit
import Derived.ProofKit
import Derived.OpenShut
import Derived.RowKit3
import Derived.OrdersHeld
import Derived.Scope
import Derived.KernelRfl
import Derived.Laws.Sem
import Derived.Laws.StructEq
import Derived.Deep.AppendSrc
import Derived.Laws.BytesArg
import Derived.Laws.RangeString
import Derived.Maps.RangeRun
import Derived.Lib.ConvBytes
import Derived.Lib.SlBytesConst
import Derived.ChangeSlices
import Derived.ChangeMaps5
import Derived.ChangeSame
import Derived.Deep.Slices
import Derived.Deep.Fields
import Derived.Test.YtfnldnodhfkojaaGreatProg
import Derived.Laws.MakeOwn
import Derived.Sort.MapsRangeIn
import Derived.Sort.KeysCollected
import Derived.RangeFuncNested
import Derived.RangeFuncBound
import Derived.RangeFuncCalls
import Derived.RangeFuncLeaves
import Derived.RangeFuncBox
import Derived.OwnWalkIn
import Derived.TacticsInMore
import Derived.RegionIn
import Derived.LoopNIn
import Derived.LoopIn
import Derived.Maps.AppendAt
import Derived.Shelf.Abstract
import Derived.Shelf.Sort.Plain
import Derived.Shelf.Slices.In.SortNone
import Derived.Test.YtfnldnodhfkojaaGreatQPlays1
import Derived.Test.YtfnldnodhfkojaaGreatQPlays2
import Derived.Test.YtfnldnodhfkojaaGreatQPlays3
import Derived.Test.YtfnldnodhfkojaaGreatQPlays4
set_option linter.unusedVariables false
set_option linter.unusedSimpArgs false
namespace Go.Proofs.YtfnldnodhfkojaaGreat
open Go.RowKit Go.Maps Go.Sort Go.Proofs
set_option maxRecDepth 100000 in
set_option maxHeartbeats 1000000 in
theorem zu4 {H:Type} (F:Fence) (n:Nat) (h10:F.fn 143) (hro:F.round=none) (hn:1<=n) (l Bm b nn:Nat) (D0:DataW H) {R:Value->Option (DataW H × List MemPlace)} (J Jx:List (List UInt8)->World->Prop)
  (hY:∀ pre x W,J pre W->pre.length<Maps.size D0->YieldAt F (n-1) Tryz.prog l #[encStr x] W λe W'=>(e=.returned (.bool true)/\J (pre++[x]) W'/\KeepsWalks W W')\/(e=.returned (.bool false)/\Jx (pre++[x]) W'))
  (W:World) (hJ:AbidesFrom W.heap.size J) (hm:W.cell? ⟨Bm,0,none⟩=some (.map (some b))) (hown:W.ownsMap Tryz.prog 9 R b nn D0) (h0:J [] W) :
  CallsIn F n Tryz.prog 143 #[.func (.yield l) #[] #[],.pointer (some ⟨Bm,0,none⟩)] W λe W'=>(∃ v,e=.returned v)/\((∃ ss:List (List UInt8),ss.Perm (strKeys D0)/\J ss W')\/(∃ pre,True/\Jx pre W')):=by
 refine callsIn_of_wp Tryz.func143 rfl h10 ?_ hro
 simp only [Tryz.ntmps143,List.size_toArray,List.length_cons,List.length_nil,Nat.reduceAdd,Nat.reduceSub,Array.replicate_succ,Array.replicate_zero,List.push_toArray,List.append_toArray,List.nil_append,List.cons_append]
 gi_wp2_with (first
  | (gi_at_range;refine wpListIn_range_own _ rfl _ 110 rfl 9 157 (string_keyed Tryz.underlying9) Tryz.underlying110 _ b nn _ rfl hown ?_;intro w0 hrg0 hg0 hs0)
  | gi_in)
 go_frame
 gi_loopw [3] (λ_ wr=>∃ (left:Lit->Bool) (cnt:Nat) (ss:List (List UInt8)),wr.ranges Tryz.prog 9 R b W.heap.size nn D0 left cnt/\ss.length+cnt<=Maps.size D0/\Collected D0 left ss/\J ss wr)
  (λ_ wr=>wr.rangeLeft b W.heap.size)
 case atStart =>
  exact ⟨_,_,[],hrg0,by simp,Collected.start D0,hJ [] W w0 none h0 hg0 (λr e=>by cases e)⟩
 case round =>
  obtain ⟨left,cnt,ss,hrg,hcs,hC,hJs⟩:=hrel
  gi_wp2_with (first
   | (gi_at_next;refine wpListIn_next_ranges _ rfl _ rfl 9 (string_keyed Tryz.underlying9) R encStr id (λkey kl hk=>by obtain ⟨x,hx,_⟩:=Maps.keyOf_str Tryz.underlying9 hk;exact ⟨x,hx⟩) (λv _ _=>⟨v,rfl⟩) b W.heap.size nn _ _ _ rfl hrg ?_ ?_)
   | gi_in)
  ·intro hc0 hl0
   gi_wp2
   go_end0
   exact ⟨⟨_,rfl⟩,.inl ⟨ss,hC.perm hown (string_keyed Tryz.underlying9) Tryz.underlying9 hl0,hJs⟩⟩
  ·intro x c kl yd yp w2 cnt2 hkey hlk hv hat hrg2 hlt hg2 hs2 hen
   obtain ⟨x',ex,rfl,_⟩:=Maps.keyOf_str Tryz.underlying9 hkey
   obtain rfl:x=x':=encStr_inj ex
   have hJ2:J ss w2:=hJ ss wr w2 (some W.heap.size) hJs hg2 (λr e=>by cases e;exact ⟨Nat.le_refl _,hrg.iter_walk⟩)
   obtain ⟨fn,tmps,assign,body,hy,hR⟩:=hY ss x w2 hJ2 (by omega)
   clear hs2
   gi_wp2
   refine hR.mono ?_
   rintro e W3 (⟨rfl,hJ3,hk3⟩|⟨rfl,hJx3⟩)
   ·gi_wp2
    have hrg3:=hrg2.of_walks hk3
    go_roundw
    case rel=>exact ⟨_,cnt2,ss++[x],hrg3,by simp;omega,hC.step hlk hat,hJ3⟩
    case measure=>rw [hrg3.left_eq,hrg.left_eq];exact hlt
   ·gi_wp2
    refine bodyPost_ret (results_none rfl _ _ _) rfl ?_
    exact ⟨⟨_,rfl⟩,.inr ⟨ss++[x],trivial,hJx3⟩⟩
theorem zzp (mb:Option Nat) (w:World) :
  Calls Tryz.prog 97 #[.map mb] w λe w'=>e=.returned (.func (.func 143) #[] #[.pointer (some ⟨w.heap.size,0,none⟩)])/\w'=w.alloc (.cells #[.map mb] 110):=by
 refine Calls.mono (Dec.zf37_calls mb (w:=w) (R:=λvs w'=>vs=[.func (.func 143) #[] #[.pointer (some ⟨w.heap.size,0,none⟩)]]/\w'=w.alloc (.cells #[.map mb] 110)) ?_) λe w' ⟨vs,he,hv,hw⟩=>⟨by rw [he,hv];rfl,hw⟩
 unfold Dec.zf37
 refine ⟨(⟨w.heap.size,0,none⟩,()),w.alloc (.cells #[.map mb] 110),?_,trivial,?_⟩
 ·simp only [Instr.box,Sem.run_bind,Dec.run_newVar,Result.andThen_ok,Sem.run_pure];rfl
 ·exact ⟨rfl,rfl,rfl⟩
def preF (p s:ByteArray):Bool:=p.toList.isPrefixOf s.toList
theorem z00n (s p:ByteArray):(decide (((ByteArray.size s:Nat):Int)>=((ByteArray.size p:Nat):Int)) && ByteArray.toList (ByteArray.extract s 0 (Int.toNat (((ByteArray.size p:Nat):Int)))) == ByteArray.toList p)=preF p s:=by
 unfold preF
 rw [Int.toNat_natCast,ByteArray.toList_eq,ByteArray.toList_eq,ByteArray.toList_eq]
 have e1:(ByteArray.extract s 0 p.size).data.toList=s.data.toList.take p.size:=by simp [ByteArray.data_extract]
 have e2:p.size=p.data.toList.length:=by simp
 rw [e1,Bool.eq_iff_iff,Bool.and_eq_true,decide_eq_true_eq,beq_iff_eq,List.isPrefixOf_iff_prefix]
 constructor
 ·rintro ⟨-,h⟩
  rw [<- h];exact List.take_prefix _ _
 ·intro h
  have hl:=h.length_le
  refine ⟨?_,?_⟩
  ·have:s.size=s.data.toList.length:=by simp
   omega
  ·rw [e2];exact (List.prefix_iff_eq_take.1 h).symm
theorem zw3 (s p:ByteArray) (w:World):Calls Tryz.prog 98 #[.string s,.string p] w λe w'=>e=.returned (.bool (preF p s))/\w'=w:=by
 refine Calls.mono (Dec.zf112_calls s p (w:=w) (R:=λvs w'=>vs=[.bool (preF p s)]/\w'=w) ?_) λe w' ⟨vs,he,hv,hw⟩=>⟨by rw [he,hv];rfl,hw⟩
 unfold Dec.zf112
 refine Dec.wp_callS (preF p s,()) (Dec.zf33_calls s p (R:=λvs w'=>vs=[.bool (preF p s)]/\w'=w) ?_) rfl λw' hw=>⟨trivial,?_⟩
 ·unfold Dec.zf33
  refine Dec.wp_must (λh=>?_) (Dec.wp_lt ⟨rfl,by rw [z00n],rfl⟩)
  have h:=of_decide_eq_true h
  omega
 ·exact Dec.wp_lt ⟨rfl,rfl,hw⟩
end Go.Proofs.YtfnldnodhfkojaaGreat
namespace Go.Proofs.YtfnldnodhfkojaaGreat
open Go.RowKit Go.Maps Go.Sort Go.Proofs Go.Shelf
attribute [local go_sem] Oper.semAt_some
def z5c (p:ByteArray) (ss:List (List UInt8)):List (List UInt8):=ss.filter λx=>preF p ⟨x.toArray⟩
theorem zzm (p:ByteArray) (pre:List (List UInt8)) {x:List UInt8} (h:preF p ⟨x.toArray⟩=true):z5c p (pre++[x])=z5c p pre++[x]:=by simp [z5c,h]
theorem zv0 (p:ByteArray) (pre:List (List UInt8)) {x:List UInt8} (h:¬ preF p ⟨x.toArray⟩=true):z5c p (pre++[x])=z5c p pre:=by simp [z5c,h]
theorem z042:(Tryz.prog.info? 9).map (λi=>(i.zero,i.size,i.bytes))=some (some (.string ByteArray.empty),1,16):=by kernel_rfl
set_option maxRecDepth 100000 in
set_option maxHeartbeats 2000000 in
theorem zvx      {H : Type} (n : Nat) (hn : 3 ≤ n) (d b nn : Nat) (p : ByteArray) (w : World) (D0 : DataW H) {R : Value → Option (DataW H × List MemPlace)} (hown : w.ownsMap Tryz.prog 9 R b nn D0) (hd : d < w.heap.size)
    (hc : w.cell? ⟨d, 4, none⟩ = some (.map (some b))) (hmax : Maps.size D0 ≤ 1000) (fin : Value → World → Prop)
    (hsort : ∀ (D : Nat) (ss : List (List UInt8)) (v : Value) (W : World), w.heap.size + 2 ≤ D → ss.Perm (strKeys D0) → Boxed W (w.heap.size + 1) 68 v → W.ownsRow (w.heap.size + 1) 9 1 v (z5c  p ss).length ((z5c  p ss).map encStr) → Below w.heap.size w W →
      W.heap[D]? = some (.deferred (some [])) → CallsIn Fence.wide (n - 1) Tryz.prog 99 #[v] W fun e W' => e = .returned (.tuple #[]) ∧ W'.cell? ⟨w.heap.size + 1, 0, none⟩ = some v ∧ W'.heap[D]? = some (.deferred (some [])) ∧ fin v (W'.putObj D (.deferred none))) :
    CallsIn Fence.wide n Tryz.prog 33 #[.pointer (some ⟨d, 0, none⟩), .string p] w fun e W' => ∃ v, e = .returned v ∧ fin v W' := by
  have h1 : 1 ≤ n := by omega
  obtain ⟨i0, hi, hz0, hz1, hz2⟩ := info_parts z042 
  have hbl := hown.lt
  have hc2 : ((w.alloc (.cells #[.string p] 9)).alloc (.cells #[.slice none 0 0] 68)).cell? ⟨d, 4, none⟩ = some (.map (some b)) := by
    rw [World.cell?_alloc_past _ _ _ (by simp; omega), World.cell?_alloc_past _ _ _ hd]; exact hc
  refine callsIn_of_wp_marks Tryz.func33 rfl trivial ?_ rfl
  simp only [Tryz.ntmps33, List.size_toArray, List.length_cons, List.length_nil, Nat.reduceAdd, Nat.reduceSub, Array.replicate_succ, Array.replicate_zero, List.push_toArray, List.append_toArray, List.nil_append, List.cons_append]
  gi_wp2_with (refine ⟨trivial, ?_⟩; gi_at_call 97; refine (callsIn_wide.2 (zzp     _ _)).mono ?_; rintro e w' ⟨rfl, rfl⟩)
  have bP := Boxed.new w 9 (.string p)
  have bO := Boxed.new (w.alloc (.cells #[.string p] 9)) 68 (.slice none 0 0)
  have bM := Boxed.new ((w.alloc (.cells #[.string p] 9)).alloc (.cells #[.slice none 0 0] 68)) 110 (.map (some b))
  rw [World.size_alloc] at bO bM
  rw [World.size_alloc] at bM
  have hB0 : Below w.heap.size w (((w.alloc (.cells #[.string p] 9)).alloc (.cells #[.slice none 0 0] 68)).alloc (.cells #[.map (some b)] 110)) := (((Below.refl _ w).alloc (Nat.le_refl _) _).alloc (by simp) _).alloc (by simp; omega) _
  have hown0 : (((w.alloc (.cells #[.string p] 9)).alloc (.cells #[.slice none 0 0] 68)).alloc (.cells #[.map (some b)] 110)).ownsMap Tryz.prog 9 R b nn D0 := by
    obtain ⟨es, clock, hb, Ft, hs, hD⟩ := hown
    exact ⟨es, clock, (hB0.block b hbl).trans hb, Ft, hs, hD⟩
  have hseq : SeqStops Fence.wide (n - 1) Tryz.prog 143 #[.pointer (some ⟨w.heap.size + 1 + 1, 0, none⟩)] encStr (fun ss => ss.Perm (strKeys D0)) (fun _ => True) (Maps.size D0) (((w.alloc (.cells #[.string p] 9)).alloc (.cells #[.slice none 0 0] 68)).alloc (.cells #[.map (some b)] 110)) := fun l J Jx W hW hJ hJx hY h0 => by
    have hown' : W.ownsMap Tryz.prog 9 R b nn D0 := by
      obtain ⟨es, clock, hb, Ft, hs, hD⟩ := hown0
      exact ⟨es, clock, (hW.block b (by simp; omega)).trans hb, Ft, hs, hD⟩
    exact zu4      Fence.wide (n - 1) trivial rfl (by omega) l (w.heap.size + 1 + 1) b nn D0 J Jx hY W hJ ((hW.cell (p := ⟨w.heap.size + 1 + 1, 0, none⟩) (by simp)).trans bM.cell) hown' h0
  refine wpIn_rangeFunc_ownG rfl h1 (gf := 143) (lb := #[.pointer (some ⟨w.heap.size + 1 + 1, 0, none⟩)]) rfl trivial (enters_of Tryz.func143 (by kernel_rfl) rfl)
    (encs := fun x => #[encStr x]) (Kp := KeepsWalks) (S := fun ss => ss.Perm (strKeys D0)) (Sp := fun _ => True) (N := Maps.size D0) hseq walksK_t (fun W l o o' _ h _ hw => KeepsWalks.putObj _ h hw) (Below.refl _ _) (fun _ => rfl)
    (fun pre W => ((∃ v, Boxed W (w.heap.size + 1) 68 v ∧ W.ownsRow (w.heap.size + 1) 9 1 v (z5c  p pre).length ((z5c  p pre).map encStr) ∧ True) ∧ Boxed W w.heap.size 9 (.string p)) ∧ Below w.heap.size w W)
    (fun _ _ _ => False)
    (OwnFrom.and (OwnFrom.and (Own.from (holdsRow_own (w.heap.size + 1) (w.heap.size + 1) 68 9 1 (fun pre => (z5c  p pre).length) (fun pre => (z5c  p pre).map encStr) (fun _ _ => True)) _) (Own.from (boxed_own w.heap.size 9 (fun _ => .string p)) _)) (ownFrom_below (Nat.le_refl _) (by simp; omega)))
    (fun _ _ _ _ _ hs _ _ => hs)
    ⟨⟨⟨_, bO.alloc _, World.ownsRow_nil _ _ _ _, trivial⟩, (bP.alloc _).alloc _⟩, hB0⟩
    (fun x => { tmps := #[Value.pointer (some { block := d, off := 0 }), Value.string p, undef,
                Value.pointer (some { block := w.heap.size, off := 0 }), Value.slice none 0 0,
                Value.pointer (some { block := w.heap.size + 1, off := 0 }), encStr x,
                Value.pointer (some { block := d, off := 0 }), Value.bool false,
                Value.pointer (some { block := d, off := 0 }), Value.pointer (some { block := d, off := 0 }),
                Value.pointer (some { block := d, off := 4 }), Value.map (some b), .func (.func 143) #[] #[.pointer (some ⟨w.heap.size + 1 + 1, 0, none⟩)], encStr x, undef, undef, undef, undef, undef,
                undef, undef, undef, undef, undef], defers := [] }) ?assign ?body ?done ?stop
  case assign =>
    intro l x W K hK
    gi_wp2
    exact hK
  case body =>
    rintro l pre x W ⟨⟨⟨v, hv, hrow, -⟩, hbp⟩, hB⟩ hlt
    have hcv := hv.cell
    have hcp := hbp.cell
    have hpl : (z5c  p pre).length ≤ pre.length := List.length_filter_le _ _
    have hml : 1000 ≤ maxLen := by decide
    have hvl := hv.lt
    gi_wp2_with (first
      | (refine ⟨trivial, fun _ => by omega, ?_⟩; gi_at_call 98; refine (CallsIn.inRound l (callsIn_wide.2 (zw3      ⟨x.toArray⟩ p W))).mono ?_; rintro e w' ⟨rfl, he⟩; have he := he.symm; subst he)
      | (gi_at_builtin; refine wpListIn_append_own _ rfl _ _ 68 rfl (w.heap.size + 1) 9 i0 (.string ByteArray.empty) 1 16 Tryz.underlying68 hi hz0 hz1 hz2 rfl (by decide) _ _ _ rfl (hrow.alloc _) ⟨W.heap.size, 0, none⟩ 1 1 [encStr x] rfl rfl (cell_one_new _ _ _) (by simp [Value.oneCell', encStr]) (by omega) (by omega) (by simp; omega) ?_; intro v' w1 hown' hgrow _; obtain ⟨g', cap', rfl⟩ := ownsRow_succ hown'; obtain ⟨hv1, hv2, hr2, hk2, hb2⟩ := hv.appended (by decide) hrow (by omega) (by omega) hown' hgrow; have hc1 := hv1.cell; have hf1 := hv1.frozen))
    · have hx : preF p ⟨x.toArray⟩ = true := by assumption
      exact ⟨hk2.from _, hk2.walks, ⟨⟨⟨_, hv2, by rw [zzm     p pre hx]; simpa using hr2, trivial⟩, (hb2.block w.heap.size (by omega)).trans hbp⟩, hB.trans (hb2.mono (by omega))⟩⟩
    · have hx : ¬ preF p ⟨x.toArray⟩ = true := by rename_i hx; rw [hx]; simp
      exact ⟨KeepsFrom.refl _ _, (KeepsOthers.refl _).walks, ⟨⟨⟨v, hv, by rw [zv0      p pre hx]; exact hrow, trivial⟩, hbp⟩, hB⟩⟩
  case done =>
    rintro D ys W hD hS ⟨⟨⟨v, hv, hrow, -⟩, hbp⟩, hB⟩ hK
    have hcv := hv.cell
    have hvl := hv.lt
    have hD2 : w.heap.size + 2 ≤ D := by simp at hD; omega
    gi_wp2_with (refine ⟨trivial, ?_⟩; gi_at_call 99; refine (hsort D ys v W hD2 hS hv hrow hB hK).mono ?_; rintro e w' ⟨rfl, hc1, hK1, hfin⟩)
    refine ⟨by simp, .inl ⟨_, _, rfl, run_takeDeferred hK1, ?_⟩⟩
    exact ⟨_, results_tmp rfl _ _ _, v, rfl, hfin⟩
  case stop =>
    rintro D c pre W _ _ h _
    exact h.elim
end Go.Proofs.YtfnldnodhfkojaaGreat
namespace Go.Dec
open Go.Shelf Go.Proofs
def z04f:Ren:=⟨fun|190=>99|125=>146|258=>145|128=>186|129=>187|302=>177|303=>178|304=>179|305=>180|306=>181|307=>182|308=>183|309=>184|310=>185|333=>198|329=>199|330=>200|334=>201|335=>202|336=>203|344=>205|n=>n,fun|31=>68|9=>9|3=>3|46=>187|0=>0|51=>201|53=>173|4=>4|183=>234|182=>233|131=>238|5=>5|218=>251|222=>254|228=>257|229=>258|n=>n,λn=>n⟩
theorem zwc:Lays.n190 P z04f where
 mixed:=by kernel_rfl
 f125:=Tryz.func146.trans (congrArg some (by kernel_rfl))
 f128:=Tryz.func186.trans (congrArg some (by kernel_rfl))
 f129:=Tryz.func187.trans (congrArg some (by kernel_rfl))
 f190:=Tryz.func99.trans (congrArg some (by kernel_rfl))
 f258:=Tryz.func145.trans (congrArg some (by kernel_rfl))
 f302:=Tryz.func177.trans (congrArg some (by kernel_rfl))
 f303:=Tryz.func178.trans (congrArg some (by kernel_rfl))
 f304:=Tryz.func179.trans (congrArg some (by kernel_rfl))
 f305:=Tryz.func180.trans (congrArg some (by kernel_rfl))
 f306:=Tryz.func181.trans (congrArg some (by kernel_rfl))
 f307:=Tryz.func182.trans (congrArg some (by kernel_rfl))
 f308:=Tryz.func183.trans (congrArg some (by kernel_rfl))
 f309:=Tryz.func184.trans (congrArg some (by kernel_rfl))
 f310:=Tryz.func185.trans (congrArg some (by kernel_rfl))
 f329:=Tryz.func199.trans (congrArg some (by kernel_rfl))
 f330:=Tryz.func200.trans (congrArg some (by kernel_rfl))
 f333:=Tryz.func198.trans (congrArg some (by kernel_rfl))
 f334:=Tryz.func201.trans (congrArg some (by kernel_rfl))
 f335:=Tryz.func202.trans (congrArg some (by kernel_rfl))
 f336:=Tryz.func203.trans (congrArg some (by kernel_rfl))
 f344:=Tryz.func205.trans (congrArg some (by kernel_rfl))
 t0:=Tryz.underlying0
 a0:=Tryz.isAgg0
 z0:=Tryz.sizeOf0
 v0:=Tryz.zeroValue0
 t3:=Tryz.underlying3
 a3:=Tryz.isAgg3
 z3:=Tryz.sizeOf3
 v3:=Tryz.zeroValue3
 t4:=Tryz.underlying4
 a4:=Tryz.isAgg4
 z4:=Tryz.sizeOf4
 v4:=Tryz.zeroValue4
 t5:=Tryz.underlying5
 a5:=Tryz.isAgg5
 z5:=Tryz.sizeOf5
 v5:=Tryz.zeroValue5
 t9:=Tryz.underlying9
 a9:=Tryz.isAgg9
 z9:=Tryz.sizeOf9
 v9:=Tryz.zeroValue9
 t31:=Tryz.underlying68
 a31:=Tryz.isAgg68
 z31:=Tryz.sizeOf68
 v31:=Tryz.zeroValue68
 t46:=Tryz.underlying187
 a46:=Tryz.isAgg187
 z46:=Tryz.sizeOf187
 v46:=Tryz.zeroValue187
 t51:=Tryz.underlying201
 a51:=Tryz.isAgg201
 z51:=Tryz.sizeOf201
 v51:=Tryz.zeroValue201
 t53:=Tryz.underlying173
 a53:=Tryz.isAgg173
 z53:=Tryz.sizeOf173
 v53:=Tryz.zeroValue173
 t131:=Tryz.underlying238
 a131:=Tryz.isAgg238
 z131:=Tryz.sizeOf238
 v131:=Tryz.zeroValue238
 t182:=Tryz.underlying233
 a182:=Tryz.isAgg233
 z182:=Tryz.sizeOf233
 v182:=Tryz.zeroValue233
 t183:=Tryz.underlying234
 a183:=Tryz.isAgg234
 z183:=Tryz.sizeOf234
 v183:=Tryz.zeroValue234
 t218:=Tryz.underlying251
 a218:=Tryz.isAgg251
 z218:=Tryz.sizeOf251
 v218:=Tryz.zeroValue251
 t222:=Tryz.underlying254
 a222:=Tryz.isAgg254
 z222:=Tryz.sizeOf254
 v222:=Tryz.zeroValue254
 t228:=Tryz.underlying257
 a228:=Tryz.isAgg257
 z228:=Tryz.sizeOf257
 v228:=Tryz.zeroValue257
 t229:=Tryz.underlying258
 a229:=Tryz.isAgg258
 z229:=Tryz.sizeOf258
 v229:=Tryz.zeroValue258
theorem znr:∀ x y:List UInt8,Op.bytesLess x y=true↔x<y
 | [],[]=>by simp [Op.bytesLess]
 | [],y::ys=>by simp [Op.bytesLess]
 | x::xs,[]=>by simp [Op.bytesLess]
 | x::xs,y::ys=>by
  rw [Op.bytesLess,List.cons_lt_cons_iff,<- znr xs ys]
  simp
def toK (s:ByteArray):List UInt8:=s.data.toList
def ofK (x:List UInt8):ByteArray:=⟨x.toArray⟩
theorem z02x (s:ByteArray):ofK (toK s)=s:=by unfold ofK toK;simp
theorem zjq (s:ByteArray):ByteArray.toList s=toK s:=ByteArray.toList_eq s
theorem z005 (s:ByteArray):encStr (toK s)=.string s:=by unfold encStr toK;simp
section
variable {w:World} {l:List HP}
theorem zvq {w':World} {os:Array Obj} (h:Sat w l) (he:w'.heap=w.heap++os) (h2:w'.os=w.os) (h3:w'.output=w.output):Sat w' l:=by
 refine z98 ⟨λb o hb=>?_,?_⟩ h
 ·have hb:w.heap[b]? = some o:=hb
  show w'.heap[b]? = some o
  rw [he,Array.getElem?_append_left (Array.getElem?_eq_some_iff.1 hb).1]
  exact hb
 ·show World.env' w=World.env' w'
  unfold World.env';rw [h2,h3]
theorem zir (x:Sl) (xs:List ByteArray) (h63:xs.length<4611686018427387904) (hs:Sat w (slc T.a33 1 x (xs.flatMap z2s)::l)) :
  Ret P F.a85 #[x.v] w λvs w'=>vs=[]/\∃ ys:List ByteArray,ys.Perm xs/\ys.Pairwise (λa b=>Op.bytesLess (ByteArray.toList b) (ByteArray.toList a)=false)/\Sat w' (slc T.a33 1 x (ys.flatMap z2s)::l):=by
 have hl:x.len=xs.length:=hs.rd.len (enc:=z2s) (λ_=>rfl) (by decide)
 obtain ⟨xa,xl,xc⟩:=x
 simp only at hl
 subst hl
 by_cases h0:xs.length=0
 ·have e:xs=[]:=List.length_eq_zero_iff.1 h0
  subst e
  refine Calls.mono (Any.slices_Sort_string_none zwc xa xc w) λe w' h=>?_
  obtain ⟨he,hw⟩:=h
  subst hw
  exact ⟨[],he,rfl,[],.refl _,.nil,hs⟩
 have hnd:=hs
 obtain ⟨p1,p2,h1,h2,hd,hA,hl⟩:=hnd
 rcases hA with ⟨ha,hl0,hc0,-⟩|⟨b,off,arr,fr,ha,hb,hlen,hle,hsz,hcs,hf⟩
 ·exact absurd hl0 h0
 have ha:xa=some ⟨b,off,none⟩:=ha
 subst ha
 have hle:xs.length<=xc:=hle
 have hsz:off+xc*1<=arr.size:=hsz
 have hP:Sat w (pt b (.cells arr T.a33 fr)::l):=⟨p1,p2,h1,h2,hd,hb,hl⟩
 have z3w:=hP.get
 have hblt:b<w.heap.size:=(Array.getElem?_eq_some_iff.1 z3w).1
 have henc:∀ (zs:List ByteArray) (i:Nat),(zs.flatMap z2s)[i]? = (zs[i]?).map λs=>.string s:=λzs i=>by
  have:zs.flatMap z2s=zs.map λs=>Value.string s:=by
   induction zs with
   | nil=>rfl
   | cons z zs ih=>rw [List.flatMap_cons,List.map_cons,ih];rfl
  rw [this,List.getElem?_map]
 have hH:Go.Sort.Holds encStr w b off (xs.map toK).toArray:=λj hj=>by
  have hj:j<xs.length:=by simpa using hj
  have h3:=hcs j (by rw [hlen];show j<xs.length*1;omega)
  rw [henc,List.getElem?_eq_getElem hj] at h3
  have h4:((xs.map toK).toArray)[j]! = toK xs[j]:=by
   rw [getElem!_pos _ j (by simpa using hj)];simp
  refine ⟨?_,?_⟩
  ·rw [h4,z005]
   unfold World.cell?
   rw [z3w]
   exact h3
  ·rw [zcw,z3w]
   have:=hf (off+j) (by omega) (by show off+j<off+xc*1;omega)
   simp only [zrs]
   rw [Bool.and_eq_false_iff]
   by_cases hq:fr.1<=off+j
   ·right;exact decide_eq_false λh=>this ⟨hq,h⟩
   ·left;exact decide_eq_false hq
 have hll:(xs.map toK).length=xs.length:=List.length_map ..
 have hc:=Any.slices_Sort_string zwc b off xc (xs.map toK) w hH hblt (by rw [hll];exact h63)
 rw [hll] at hc
 refine Calls.mono hc λe w' h=>?_
 obtain ⟨he,n,os,hw⟩:=h
 generalize hmq:(xs.map toK).mergeSort (λx y=>decide (x<=y))=ms at hw
 have hperm:ms.Perm (xs.map toK):=by rw [<- hmq];exact List.mergeSort_perm _ _
 have hpw:ms.Pairwise λx y=>decide (x<=y)=true:=by
  rw [<- hmq]
  refine List.pairwise_mergeSort (λa b c h1 h2=>?_) (λa b=>?_) _
  ·simp only [decide_eq_true_eq] at *;exact List.le_trans h1 h2
  ·simp only [Bool.or_eq_true,decide_eq_true_eq];exact List.le_total a b
 have hml:ms.length=xs.length:=by rw [hperm.length_eq,hll]
 have hofK:(xs.map toK).map ofK=xs:=by
  rw [List.map_map]
  conv=>rhs;rw [<- List.map_id xs]
  exact List.map_congr_left λs _=>z02x s
 refine ⟨[],he,rfl,ms.map ofK,?_,?_,?_⟩
 ·have:=hperm.map ofK
  rwa [hofK] at this
 ·rw [List.pairwise_map]
  refine hpw.imp λ{a c} h=>?_
  have h:a<=c:=of_decide_eq_true h
  rw [zjq,zjq]
  have e:∀ z,toK (ofK z)=z:=λz=>by unfold toK ofK;simp
  rw [e,e]
  cases hq:Op.bytesLess c a with
  | false=>rfl
  | true=>exact absurd h (List.not_le.2 ((znr c a).1 hq))
 ·have hset:=hP.set (o':=.cells (Go.Sort.putCells encStr off ms.toArray arr) T.a33 fr)
  have hheap:w'.heap=(z3k w b (.cells (Go.Sort.putCells encStr off ms.toArray arr) T.a33 fr)).heap++os:=by
   rw [hw]
   show (w.heap.modify b (Go.Sort.onCells _))++os=w.heap.setIfInBounds b _++os
   congr 1
   apply Array.ext_getElem?
   intro i
   rw [Array.getElem?_modify,Array.getElem?_setIfInBounds]
   by_cases hib:b=i
   ·subst hib
    rw [if_pos rfl,if_pos rfl,z3w,if_pos hblt]
    rfl
   ·rw [if_neg hib,if_neg hib]
  have hs2:=zvq hset hheap (by rw [hw];rfl) (by rw [hw];rfl)
  refine hs2.imp λq hq=>.inr ⟨b,off,_,fr,rfl,hq,?_,hle,?_,λi hi=>?_,hf⟩
  ·show ((ms.map ofK).flatMap z2s).length=xs.length*1
   have:∀ zs:List ByteArray,(zs.flatMap z2s).length=zs.length:=λzs=>by
    induction zs with
    | nil=>rfl
    | cons z zs ih=>rw [List.flatMap_cons,List.length_append,ih];simp [z2s];omega
   rw [this,List.length_map,hml];omega
  ·show off+xc*1<=(Go.Sort.putCells encStr off ms.toArray arr).size
   unfold Go.Sort.putCells
   rw [Array.size_mapIdx];exact hsz
  ·have him:i<ms.length:=by
    have:∀ zs:List ByteArray,(zs.flatMap z2s).length=zs.length:=λzs=>by
     induction zs with
     | nil=>rfl
     | cons z zs ih=>rw [List.flatMap_cons,List.length_append,ih];simp [z2s];omega
    rw [this,List.length_map] at hi;exact hi
   rw [henc,List.getElem?_map,List.getElem?_eq_getElem him]
   unfold Go.Sort.putCells
   rw [Array.getElem?_mapIdx]
   have ha2:off+i<arr.size:=by omega
   rw [Array.getElem?_eq_getElem ha2]
   simp only [Option.map_some]
   rw [if_pos ⟨by omega,by rw [List.size_toArray];omega⟩]
   congr 1
   rw [Nat.add_sub_cancel_left,getElem!_pos _ i (by simpa using him)]
   simp [encStr,ofK]
end
open Go.Proofs Go.Proofs.YtfnldnodhfkojaaGreat
def z15 (p:ByteArray) (fs:List FileA):List ByteArray:=(fs.map (·.name)).filter (preF p)
def zdc (W:World) (X:Nat->Bool):PH:=⟨λb=>if X b then W.heap[b]? else none,World.env' W⟩
section
variable {w W:World} {l:List HP} {X:Nat->Bool}
theorem zur (hs:Sat w l) (hB:RowKit.Below w.heap.size w W):z6x l (zdc W λb=>decide (b<w.heap.size)):=by
 refine z98 ⟨λb o h=>?_,?_⟩ hs
 ·have h:w.heap[b]? = some o:=h
  have hlt:b<w.heap.size:=(Array.getElem?_eq_some_iff.1 h).1
  show (if decide (b<w.heap.size)=true then W.heap[b]? else none)=some o
  rw [if_pos (decide_eq_true hlt),hB.block b hlt,h]
 ·show World.env' w=World.env' W
  unfold World.env'
  rw [hB.os,hB.output]
theorem zek {b:Nat} {o:Obj} (hs:z6x l (zdc W X)) (hX:X b=false) (hb:W.heap[b]? = some o):z6x (pt b o::l) (zdc W λc=>X c || decide (c=b)):=by
 refine ⟨⟨λc=>if c=b then some o else none,World.env' W⟩,zdc W X,⟨λc u h=>?_,rfl⟩,⟨λc u h=>?_,rfl⟩,λc=>?_,by simp [pt],hs⟩
 ·simp only at h
  split at h
  ·rename_i hc;subst hc
   obtain rfl:=Option.some.inj h
   show (if (X c || decide (c=c))=true then W.heap[c]? else none)=some o
   rw [if_pos (by simp),hb]
  ·cases h
 ·have h:(if X c=true then W.heap[c]? else none)=some u:=h
  split at h
  ·rename_i hc
   show (if (X c || decide (c=b))=true then W.heap[c]? else none)=some u
   rw [if_pos (by rw [hc];rfl),h]
  ·cases h
 ·by_cases hc:c=b
  ·subst hc;right
   show (if X c=true then W.heap[c]? else none)=none
   rw [if_neg (by rw [hX];simp)]
  ·left;simp [hc]
theorem zht (hs:z6x l (zdc W X)):Sat W l:=by
 refine z98 (p:=zdc W X) ⟨λb o h=>?_,rfl⟩ hs
 have h:(if X b=true then W.heap[b]? else none)=some o:=h
 split at h
 ·exact h
 ·cases h
end
theorem zbn:∀ {a b:List ByteArray},a.Perm b->(a.Pairwise λx y=>ltS y x=false)->(b.Pairwise λx y=>ltS x y=true)->a=b
 | a,[],hp,_,_=>hp.eq_nil
 | [],y::b,hp,_,_=>absurd hp.symm.eq_nil (by simp)
 | x::a,y::b,hp,ha,hb=>by
  rw [List.pairwise_cons] at ha hb
  have hxy:x=y:=by
   by_cases h:x=y
   ·exact h
   ·have hx:x ∈ b:=(List.mem_cons.1 (hp.mem_iff.1 (List.mem_cons_self ..))).resolve_left h
    have hy:y ∈ a:=(List.mem_cons.1 (hp.mem_iff.2 (List.mem_cons_self ..))).resolve_left (λe=>h e.symm)
    have h1:=hb.1 x hx
    rw [ha.1 y hy] at h1;cases h1
  subst hxy
  rw [zbn (List.Perm.cons_inv hp) ha.2 hb.2]
def z4k (x:List UInt8):ByteArray:=⟨x.toArray⟩
theorem zte (xs:List ByteArray):xs.flatMap z2s=xs.map Value.string:=by
 induction xs with
 | nil=>rfl
 | cons x r ih=>rw [List.flatMap_cons,ih];rfl
theorem zh0 {fs:List FileA} (h:fs.Pairwise λa b=>ltS a.name b.name=true) (p:ByteArray):(z15 p fs).Pairwise λx y=>ltS x y=true:=by
 unfold z15
 refine List.Pairwise.filter _ ?_
 rw [List.pairwise_map];exact h
theorem zys {w:World} {m:Nat} {es:List (ByteArray × Nat)} {l:List HP} (hs:Sat w (z3q ekS evF m es::l)) (hlen:es.length<=1000) (hn:∀ x ∈ es,x.1.size<=24) :
  ∃ D0:DataW Unit,w.ownsMap Tryz.prog 9 (λ_=>some (.lit (.bool true),[])) m 1000 D0/\Maps.size D0<=1000/\((strKeys D0).map z4k).Perm (es.map Prod.fst):=by
 obtain ⟨E,c,hm,hs⟩:=hs.mapOpen
 have hsz:=hm.size
 obtain ⟨xs,h1,h2,h3,h4,h5⟩:=hm
 have hE:E.size<=1000:=by omega
 have hml:1000<=maxLen:=by decide
 have hkeys:∀ e ∈ E.toList,∃ x ∈ xs,e.key=.string x.1:=λe he=>by
  have:(e.key,e.val) ∈ E.toList.map (λe=>(e.key,e.val)):=List.mem_map.2 ⟨e,he,rfl⟩
  rw [h3] at this
  obtain ⟨x,hx,hxe⟩:=List.mem_map.1 this
  exact ⟨x,hx,(Prod.mk.inj hxe).1.symm⟩
 have hrd:∀ e ∈ E.toList,∀ s,e.key=.string s->WideElems.rd (H:=Unit) Tryz.prog 9 (λ_=>some (.lit (.bool true),[])) e=some (.string s.data.toList,.lit (.bool true)):=λe he s hk=>by
  obtain ⟨x,hx,hxe⟩:=hkeys e he
  rw [hk] at hxe
  obtain rfl:s=x.1:=by cases hxe;rfl
  have h24:=hn x (h1.mem_iff.1 hx)
  have:keyOf Tryz.prog 9 (.string x.1)=some (.string x.1.data.toList):=WideMaps.keyOf_string_mk (by kernel_rfl) (by omega)
  unfold WideElems.rd
  rw [hk,this];rfl
 refine ⟨.map ((E.toList.map (WideElems.rg Tryz.prog 9 λ_=>some (.lit (.bool true),[]))).foldr DataW.insert []),⟨E,c,hs.get,⟨by omega,⟨h5,?_,?_⟩,λe he=>?_⟩,hE,rfl⟩,?_,?_⟩
 ·rw [List.Nodup,List.pairwise_map]
  exact h4.imp λh=>Nat.ne_of_lt h
 ·have hk:E.toList.map (·.key)=xs.map λx=>Value.string x.1:=by
   have:=congrArg (List.map Prod.fst) h3
   rw [List.map_map,List.map_map] at this
   exact this
  rw [hk,List.Nodup,List.pairwise_map]
  rw [List.Nodup,List.pairwise_map] at h2
  exact h2.imp λh e=>h (Value.string.inj e)
 ·obtain ⟨x,hx,hxe⟩:=hkeys e he
  exact ⟨_,hrd e he x.1 hxe⟩
 ·show ((E.toList.map _).foldr DataW.insert []).length<=1000
  rw [length_sorted,List.length_map,Array.length_toList];exact hE
 ·have hp:=(WideShapes.sorted_perm (E.toList.map (WideElems.rg (H:=Unit) Tryz.prog 9 λ_=>some (.lit (.bool true),[])))).map (λp:Lit × DataW Unit=>z4k (Go.strOf p.1))
  have e1:(strKeys (DataW.map ((E.toList.map (WideElems.rg (H:=Unit) Tryz.prog 9 λ_=>some (.lit (.bool true),[]))).foldr DataW.insert []))).map z4k=((E.toList.map (WideElems.rg (H:=Unit) Tryz.prog 9 λ_=>some (.lit (.bool true),[]))).foldr DataW.insert []).map (λp:Lit × DataW Unit=>z4k (Go.strOf p.1)):=by
   simp only [strKeys,List.map_map];rfl
  rw [e1]
  refine hp.trans ?_
  rw [List.map_map]
  have e2:E.toList.map ((λp:Lit × DataW Unit=>z4k (Go.strOf p.1))∘WideElems.rg Tryz.prog 9 λ_=>some (.lit (.bool true),[]))=xs.map Prod.fst:=by
   have h6:E.toList.map (λe=>match e.key with | .string s=>s|_=>⟨#[]⟩)=xs.map Prod.fst:=by
    have:=congrArg (List.map λx:Value × Value=>match x.1 with | .string s=>s|_=>⟨#[]⟩) h3
    rw [List.map_map,List.map_map] at this
    exact this
   rw [<- h6]
   refine List.map_congr_left λe he=>?_
   obtain ⟨x,hx,hxe⟩:=hkeys e he
   show z4k (Go.strOf (WideElems.rg (H:=Unit) Tryz.prog 9 (λ_=>some (.lit (.bool true),[])) e).1)=_
   rw [WideElems.rg_of (hrd e he x.1 hxe),hxe]
   show z4k x.1.data.toList=x.1
   exact zto rfl
  rw [e2]
  exact h1.map _
section
variable {w:World} {l r:List HP} {d:Nat} {A:DiskA}
theorem znf (p:ByteArray) [hf:Fo l dk d A r] (hs:Sat w l):Ret P F.a7 #[.pointer (some ⟨d,0,none⟩),.string p] w λvs w'=>∃ x:Sl,vs=[x.v]/\Sat w' (slc T.a33 1 x ((z15 p A.fs).flatMap z2s)::dk d A::r):=by
 have hs0:=hs.perm hf.perm
 obtain ⟨m,FS,hp,hok,hs1⟩:=z2m hs0
 have hkv:(FS.map λt=>(t.f.name,t.at_)).map Prod.fst=(FS.map FileM.f).map (·.name):=by rw [List.map_map,List.map_map];rfl
 have hlen:(FS.map λt=>(t.f.name,t.at_)).length<=1000:=by
  have:=hp.length_eq;have:=hok.many;simp at *;omega
 obtain ⟨D0,hown,hsz,hkeys⟩:=zys (hs1.pick [1]) hlen λx hx=>by
  obtain ⟨t,ht,rfl⟩:=List.mem_map.1 hx
  exact hok.names _ (hp.mem_iff.1 (List.mem_map.2 ⟨t,ht,rfl⟩))
 rw [hkv] at hkeys
 have hkeys:=hkeys.trans (hp.map (·.name))
 have hb:=hs1.get
 have hd:d<w.heap.size:=(Array.getElem?_eq_some_iff.1 hb).1
 have hc:w.cell? ⟨d,4,none⟩=some (.map (some m)):=by rw [z5e hb];rfl
 have hfin:=callsIn_wide.1 (zvx (n:=3) (Nat.le_refl _) d m 1000 p w D0 hown hd hc hsz (λv W=>∃ x:Sl,v=x.v/\Sat W (slc T.a33 1 x ((z15 p A.fs).flatMap z2s)::dk d A::r)) ?_)
 ·exact Calls.mono hfin λe w' ⟨v,he,x,hv,hs⟩=>⟨[x.v],by rw [he,hv];rfl,x,rfl,hs⟩
 intro D ss v W hD hS hbox hrow hB hK
 have hsR:=zur hs0 hB
 have hsR:=zek hsR (b:=w.heap.size+1) (by simp) hbox
 have hDB:D≠w.heap.size+1:=by omega
 have hsR:=zek hsR (b:=D) (by simp;omega) hK
 have hpS:((z5c p ss).map z4k).Perm (z15 p A.fs):=by
  have h1:=((hS.map z4k).trans hkeys).filter (preF p)
  rw [List.filter_map] at h1
  exact h1
 have hflat:((z5c p ss).map z4k).flatMap z2s=(z5c p ss).map encStr:=by
  rw [zte,List.map_map];rfl
 have hlen2:((z5c p ss).map z4k).length<576460752303423488:=by
  rw [hpS.length_eq]
  have h1:(z15 p A.fs).length<=A.fs.length:=by unfold z15;exact Nat.le_trans (List.length_filter_le _ _) (by simp)
  have:=hok.many
  omega
 obtain ⟨x,rfl,hsx⟩:∃ x:Sl,v=x.v/\Sat W (slc T.a33 1 x (((z5c p ss).map z4k).flatMap z2s)::pt D (.deferred (some []))::pt (w.heap.size+1) (.cells #[v] 68)::dk d A::r):=by
  rw [hflat]
  obtain ⟨hxl,h|⟨g,cap,cur,rfl,hg,hgb,hcap,-,hcur,htk⟩⟩:=hrow
  ·obtain ⟨rfl,hn0⟩:=h
   have:z5c p ss=[]:=List.length_eq_zero_iff.1 hn0
   rw [this]
   exact ⟨⟨none,0,0⟩,rfl,(zht hsR).slc_nil⟩
  ·have hgB:g≠w.heap.size+1:=λe=>by
    subst e
    have hbox:W.heap[w.heap.size+1]? = some (.cells #[_] 68 (0,0)):=hbox
    rw [hbox] at hgb
    cases hgb
   have hgD:g≠D:=λe=>by subst e;rw [hK] at hgb;cases hgb
   have hsR:=zht (zek hsR (b:=g) (by simp;omega) hgb)
   refine ⟨⟨some ⟨g,0,none⟩,(z5c p ss).length,cap⟩,rfl,hsR.imp λq hq=>.inr ⟨g,0,cur,(0,0),rfl,hq,by simp,hcap,by simp [hcur],λi hi=>?_,z32 _ _⟩⟩
   rw [<- htk,List.length_take] at hi
   rw [<- htk,Nat.zero_add,List.getElem?_take,if_pos (by omega)]
   simp
 refine callsIn_wide.2 (Calls.mono (zir x _ (Nat.lt_trans hlen2 (by omega)) hsx) ?_)
 rintro e w' ⟨vs,rfl,rfl,ys,hys,hso,hs'⟩
 have hB1:=(hs'.pick [2]).get
 have hD1:=(hs'.pick [1]).get
 refine ⟨rfl,by rw [z5e hB1];rfl,hD1,x,rfl,?_⟩
 have hset:Sat (z3k w' D (.deferred none)) _:=(hs'.pick [1]).set (o':=.deferred none)
 rw [zbn (hys.trans hpS) hso (zh0 hok.sorted p)] at hset
 exact hset.sub
end
def zbb (x:Sl):List Value:=[x.v]
instance:Enc1 zbb .slc (λx=>x):=⟨λ_=>rfl⟩
instance:EncN zbb 1:=⟨λ_=>rfl,by decide,by simp [zbb,Value.oneCell']⟩
def z9g (l:List HP):List Sl->List (List UInt8)->Prop
 | [],[]=>True
 | x::xs,b::bs=>(∀ w,Sat w l->Rd w 1 x (b.flatMap zh))/\z9g l xs bs
 | _,_=>False
theorem z9g.length {l:List HP}:∀ {xs:List Sl} {bs:List (List UInt8)},z9g l xs bs->xs.length=bs.length
 | [],[],_=>rfl
 | _::_,_::_,h=>by rw [List.length_cons,List.length_cons,h.2.length]
theorem z9g.get {l:List HP}:∀ {xs:List Sl} {bs:List (List UInt8)} (h:z9g l xs bs) (i:Nat) (h1:i<xs.length) (h2:i<bs.length),∀ w,Sat w l->Rd w 1 xs[i] (bs[i].flatMap zh)
 | _::_,_::_,h,0,_,_=>h.1
 | _::_,_::_,h,i+1,h1,h2=>h.2.get i (by simpa using h1) (by simpa using h2)
theorem z3x {bs:List (List UInt8)} {i:Nat} (hi:i<bs.length):(bs.take (i+1)).flatten=(bs.take i).flatten++bs[i]:=by
 rw [List.take_add_one,List.getElem?_eq_getElem hi,List.flatten_append];simp
section
variable {w:World} {l r r0:List HP} {d:Nat} {A:DiskA}
theorem zff (hok:okA A) {n:ByteArray} (hn:z30 n=true) {bs:List UInt8} (hb:bs.length<=A.free) (hm:¬ (z2j A.fs n=false/\A.fs.length>=128)) :
  okA { A with fs:=if z2j A.fs n then A.fs.map (z22 n λf=>{ f with b:=f.b++bs }) else z34 ⟨n,bs,0⟩ A.fs }:=by
 have hr:=hok.room
 have hu:=hok.used
 unfold DiskA.free at hb
 by_cases h:z2j A.fs n=true
 ·rw [if_pos h]
  obtain ⟨f,hf,rfl⟩:=z63.1 h
  obtain ⟨s,u,hsu⟩:=List.append_of_mem hf
  have hpm:A.fs.Perm (f::(s++u)):=by rw [hsu];exact List.perm_middle
  have hnd:=(hpm.map (·.name)).nodup_iff.1 (z23 hok.sorted)
  rw [List.map_cons,List.nodup_cons] at hnd
  have hne:∀ g ∈ s++u,g.name≠f.name:=λg hg e=>hnd.1 (List.mem_map.2 ⟨g,hg,e⟩)
  have h1:=zao (g:=λf=>{ f with b:=f.b++bs }) hpm hne
  have h2:used A.fs=f.b.length+used (s++u):=by rw [z1x hpm,z13]
  refine ⟨hok.room,?_,by show (A.fs.map _).length<=_;rw [List.length_map];exact hok.many,hok.left,z8e (z62 λ_=>rfl) hok.sorted,λg hg=>?_,λg hg=>?_⟩
  ·show used (A.fs.map _)<=_
   rw [h1]
   show (f.b++bs).length+_<=_
   rw [List.length_append];omega
  ·obtain ⟨g,hg',rfl⟩:=List.mem_map.1 hg
   have:=hok.kept g hg'
   unfold z22
   split
   ·show g.kept<=(g.b++bs).length;rw [List.length_append];omega
   ·exact this
  ·obtain ⟨g,hg',rfl⟩:=List.mem_map.1 hg
   rw [z62 (by intro _;rfl)];exact hok.names g hg'
 ·have h:z2j A.fs n=false:=by simpa using h
  rw [if_neg (by rw [h];simp)]
  have hne:=z65.1 h
  have hp:=z3f ⟨n,bs,0⟩ A.fs
  refine ⟨hok.room,?_,?_,hok.left,z9t _ hne hok.sorted,λg hg=>?_,λg hg=>?_⟩
  ·show used (z34 _ _)<=_
   rw [z1x hp,z13];show bs.length+_<=_;omega
  ·show (z34 _ _).length<=_
   rw [hp.length_eq,List.length_cons]
   have:=hok.many
   have:A.fs.length≠128:=λe=>hm ⟨h,by omega⟩
   omega
  ·rcases z97.1 hg with rfl|hg
   ·exact Nat.zero_le _
   ·exact hok.kept g hg
  ·rcases z97.1 hg with rfl|hg
   ·exact zb2 hn
   ·exact hok.names g hg
theorem zj8 (x:FileA) (g:FileA->FileA) (hg:(g x).name=x.name):∀ {fs:List FileA},(∀ f ∈ fs,f.name≠x.name)->(z34 x fs).map (z22 x.name g)=z34 (g x) fs
 | [],_=>by simp [z34,z22]
 | f::r,h=>by
  have hf:z22 x.name g f=f:=by rw [z22,if_neg (h f (List.mem_cons_self ..))]
  have hr:r.map (z22 x.name g)=r:=by
   conv=>rhs;rw [<- List.map_id r]
   exact List.map_congr_left λy hy=>by rw [z22,if_neg (h y (List.mem_cons_of_mem _ hy))];rfl
  rw [z34,z34,hg]
  split
  ·rw [List.map_cons,List.map_cons,hf,hr,z22,if_pos rfl]
  ·rw [List.map_cons,hf,zj8 x g hg λy hy=>h y (List.mem_cons_of_mem _ hy)]
theorem zb6 (n:ByteArray) (ps:Sl) (xs:List Sl) (bs:List (List UInt8)) [hps:FocR r ps 1 (xs.flatMap zbb)] (hbs:z9g r xs bs) (hlen:bs.length<=1000) (hsum:∀ b ∈ bs,b.length<=100000000) [hf:Fo l dk d A r] (hs:Sat w l) :
  Ret P F.a3 #[.pointer (some ⟨d,0,none⟩),.string n,ps.v] w λvs w'=>vs=[.int .i64 (zu A n bs.flatten).1]/\Sat w' (dk d (zu A n bs.flatten).2::r) :=
 zsw _ n ps <| by
  unfold zf4 zu
  have hxl:=hbs.length
  have hok0:okA A:=by obtain ⟨m,FS,hp,hok,hs⟩:=z2m (hs.perm hf.perm);exact hok
  have hfr:A.free<=4194304:=by have:=hok0.room;unfold DiskA.free;omega
  refine zck hs (λhg w' hs=>?_) λhg w' hs=>?_
  ·rw [if_pos hg];exact ⟨rfl,hs⟩
  rw [if_neg (by rw [hg];simp)]
  have hpl:=hs.slen ps (xs:=xs) (enc:=zbb)
  refine zb (ztc n hs) λ_ _ hs=>?_
  obtain ⟨rfl,hs⟩:=hs
  refine zd ?_
  refine zf (λh=>?_) λh=>?_
  ·have h:z30 n=false:=by simpa using h
   rw [if_pos h];exact ⟨rfl,rfl,hs⟩
  have hn:z30 n=true:=by simpa using h
  rw [if_neg (by rw [hn];simp)]
  refine zn (λv w'=>bs.flatten.length<=A.free/\v=(((bs.flatten.length:Nat):Int),())/\Sat w' (dk d A::r)) ?_ ?_
  ·refine z06 (λk v w=>∃ i:Nat,v=((((bs.take i).flatten.length:Nat):Int),(i:Int),())/\i<=xs.length/\xs.length-i=k/\(bs.take i).flatten.length<=A.free/\Sat w (dk d A::r)) xs.length ⟨0,rfl,by omega,rfl,by simp,hs⟩ ?_
   clear hs
   rintro k _ w ⟨i,rfl,hi,hk,hsm,hs⟩
   refine zl ?_
   refine zf (λhc=>?_) λhc=>?_
   ·have hil:i<xs.length:=by omega
    have hib:i<bs.length:=by omega
    refine z1z hs i hil ?_
    have hrl:xs[i].len=bs[i].length:=(hbs.get i hil hib _ hs.tail).len (enc:=zh) (λ_=>rfl) (by decide)
    have hbi:=hsum _ (List.getElem_mem hib)
    refine zb (z01i hs) λ_ _ hs=>?_
    obtain ⟨rfl,hs⟩:=hs
    refine zd ?_
    have ew:IntKind.wrap .i64 ((A.free:Int)-((bs.take i).flatten.length:Nat))=(A.free:Int)-((bs.take i).flatten.length:Nat):=zuf
    rw [ew]
    refine zf (λh3=>?_) λh3=>?_
    ·refine zk (zk ?_)
     rw [if_pos]
     ·exact ⟨rfl,rfl,hs⟩
     ·left
      have h4:(bs.take (i+1)).flatten.length<=bs.flatten.length:=by
       have:=congrArg (λl:List (List UInt8)=>l.flatten.length) (List.take_append_drop (i+1) bs)
       simp only [List.flatten_append,List.length_append] at this
       omega
      rw [z3x hib,List.length_append] at h4
      omega
    ·refine z1k (y:=(((bs.take (i+1)).flatten.length:Nat):Int)) ?_ ?_
     ·refine z4x (us':=[.int .i64 (((bs.take (i+1)).flatten.length:Nat):Int),.int .i64 ((i+1:Nat):Int)]) (by (try simp (disch:=omega) only [w64]);first|rfl|(congr;omega)) ?_
      refine z0l (xs.length-(i+1)) ?_
      refine ⟨i+1,rfl,by omega,rfl,?_,hs⟩
      rw [z3x hib,List.length_append];omega
     ·rw [z3x hib,List.length_append,w64 (by omega) (by omega)];omega
   ·refine zk (zg ?_)
    rw [List.take_of_length_le (by omega)] at hsm ⊢
    exact ⟨hsm,rfl,hs⟩
  clear hs
  rintro _ w ⟨hfit,rfl,hs⟩
  refine zl ?_
  obtain ⟨m,FS,hp,hok,hs⟩:=z2m hs
  have hou:=hok.used
  have hor:=hok.room
  have hfit':=hfit
  unfold DiskA.free at hfit'
  (repeat (first|with_reducible (first|refine zl ?_|refine zm ?_|refine z0h ?_|refine za hs ?_|refine zr hs ?_|refine zj ?_|refine z0a hs λ_ hs=>?_|refine zv hs λ_ _ hs=>?_|refine z02 hs λ_ _ hs=>?_|refine z0d hs λ_ hs=>?_|refine zx hs λ_ hs=>?_)|(apply wp_must;(focus first|trivial|omega|assumption))|refine z1i ?_|refine wp_lt ?_))
  have hnot:∀ (g:Bool),z2j A.fs n=g->¬ (g=false/\A.fs.length>=128)->(if bs.flatten.length>A.free\/(z2j A.fs n=false/\A.fs.length>=128) then ((5:Int),A) else
    (0,z2q { A with fs:=if z2j A.fs n then A.fs.map (z22 n λf=>{ f with b:=f.b++bs.flatten }) else z34 ⟨n,bs.flatten,0⟩ A.fs })) =
    (0,z2q { A with fs:=if z2j A.fs n then A.fs.map (z22 n λf=>{ f with b:=f.b++bs.flatten }) else z34 ⟨n,bs.flatten,0⟩ A.fs }):=λg hg h=>by
   rw [if_neg]
   rintro (h1|⟨h1,h2⟩)
   ·omega
   ·exact h ⟨by rw [<- hg,h1],h2⟩
  refine ztb hs (λb hb=>?_) λhb=>?_
  all_goals refine wp_lt ?_
  all_goals refine zn (λv w'=>∃ (t:FileM) (FS':List FileM) (fs1:List FileA),v=(some ⟨t.at_,0,none⟩,())/\t.f.name=n/\fs1.Perm (t.f::FS'.map FileM.f)/\(∀ g ∈ FS'.map FileM.f,g.name≠t.f.name)/\used fs1=used A.fs/\¬ (z2j A.fs n=false/\A.fs.length>=128) /\
    fs1.map (z22 n λf=>{ f with b:=f.b++bs.flatten })=(if z2j A.fs n then A.fs.map (z22 n λf=>{ f with b:=f.b++bs.flatten }) else z34 ⟨n,bs.flatten,0⟩ A.fs) /\
    Sat w' (pt t.at_ (.cells #[t.x.v,.int .i64 t.f.kept] T.a6)::slc T.a39 1 t.x (t.f.b.flatMap zh)::HP.all (FS'.map z44)::pt d (.cells #[.int .i64 A.left,.bool A.gone,.int .i64 A.room,.int .i64 (used A.fs),.map (some m)] T.a5)::z3q ekS evF m ((t::FS').map λt=>(t.f.name,t.at_))::r)) ?_ ?_
  ·obtain ⟨t,ht,rfl,rfl,hA⟩:=z9e hp hb
   have hhas:z2j A.fs t.f.name=true:=z63.2 ⟨_,hA,rfl⟩
   refine z0g ?_ (by simp)
   obtain ⟨FS',hpm,hs⟩:=z73 hs ht
   obtain ⟨h1,h2,-⟩:=apart hp hok hpm
   refine zg ?_
   refine ⟨t,FS',A.fs,rfl,rfl,h1,h2,rfl,by rw [hhas];simp,by rw [if_pos hhas],?_⟩
   have hs:=(hs.pick [4]).mapPerm (hpm.map λt=>(t.f.name,t.at_))
   exact hs.sub
  rotate_left
  ·have hno:=z83 hp hb
   have hhas:=z65.2 hno
   refine z1b ?_ (by simp)
   (repeat (first|with_reducible (first|refine zl ?_|refine zm ?_|refine z0h ?_|refine za hs ?_|refine zr hs ?_|refine zj ?_|refine z0a hs λ_ hs=>?_|refine zv hs λ_ _ hs=>?_|refine z02 hs λ_ _ hs=>?_|refine z0d hs λ_ hs=>?_|refine zx hs λ_ hs=>?_)|(apply wp_must;(focus first|trivial|omega|assumption))|refine z1i ?_|refine wp_lt ?_))
   refine zya hs ?_
   have hml:(FS.map λt=>(t.f.name,t.at_)).length=A.fs.length:=by rw [List.length_map,<- hp.length_eq,List.length_map]
   rw [hml]
   refine zf (λh3=>?_) λh3=>?_
   ·refine zk ?_
    rw [if_pos (.inr ⟨hhas,by omega⟩)]
    exact ⟨rfl,rfl,z2v m hp hok hs⟩
   refine z02 hs λa w' hs=>?_
   (repeat (first|with_reducible (first|refine zl ?_|refine zm ?_|refine z0h ?_|refine za hs ?_|refine zr hs ?_|refine zj ?_|refine z0a hs λ_ hs=>?_|refine zv hs λ_ _ hs=>?_|refine z02 hs λ_ _ hs=>?_|refine z0d hs λ_ hs=>?_|refine zx hs λ_ hs=>?_)|(apply wp_must;(focus first|trivial|omega|assumption))|refine z1i ?_|refine wp_lt ?_))
   refine zo8 hs (FS.map λt=>(t.f.name,t.at_)) (.inr ⟨hb,rfl⟩) a λw' hs=>?_
   refine zg ?_
   refine ⟨⟨a,⟨none,0,0⟩,⟨n,[],0⟩⟩,FS,z34 ⟨n,[],0⟩ A.fs,rfl,rfl,(z3f _ _).trans (.cons _ hp.symm),λg hg=>hno g (hp.mem_iff.1 hg),?_,by omega,?_,?_⟩
   ·rw [z1x (z3f _ _),z13];exact Nat.zero_add _
   ·rw [if_neg (by rw [hhas];simp)]
    exact zj8 ⟨n,[],0⟩ (λf=>{ f with b:=f.b++bs.flatten }) rfl hno
   ·exact (hs.slc_nil (T:=T.a39) (sz:=1)).pick [2,0,2,1,0]
  all_goals clear hs
  all_goals rintro _ w ⟨t,FS',fs1,rfl,htn,h1,h2,hus,hno,hfin,hs⟩
  all_goals refine zl ?_
  all_goals rw [hnot _ rfl hno,<- hfin]
  all_goals subst htn
  all_goals refine zn (λ_ w'=>∃ x1:Sl,Sat w' (pt t.at_ (.cells #[x1.v,.int .i64 t.f.kept] T.a6)::slc T.a39 1 x1 ((t.f.b++bs.flatten).flatMap zh)::HP.all (FS'.map z44)::pt d (.cells #[.int .i64 A.left,.bool A.gone,.int .i64 A.room,.int .i64 (used A.fs),.map (some m)] T.a5)::z3q ekS evF m ((t::FS').map λt=>(t.f.name,t.at_))::r)) ?_ ?_
  ·refine z06 (λk v w=>∃ (i:Nat) (x1:Sl),v=((i:Int),())/\i<=xs.length/\xs.length-i=k/\Sat w (pt t.at_ (.cells #[x1.v,.int .i64 t.f.kept] T.a6)::slc T.a39 1 x1 ((t.f.b++(bs.take i).flatten).flatMap zh)::HP.all (FS'.map z44)::pt d (.cells #[.int .i64 A.left,.bool A.gone,.int .i64 A.room,.int .i64 (used A.fs),.map (some m)] T.a5)::z3q ekS evF m ((t::FS').map λt=>(t.f.name,t.at_))::r)) xs.length ⟨0,t.x,rfl,by omega,rfl,by simpa using hs⟩ ?_
   clear hs
   rintro k _ w ⟨i,x1,rfl,hi,hk,hs⟩
   refine zl ?_
   refine zf (λhc=>?_) λhc=>?_
   ·have hil:i<xs.length:=by omega
    have hib:i<bs.length:=by omega
    refine z1z hs i hil ?_
    have hrd:FocR r xs[i] 1 (bs[i].flatMap zh):=⟨hbs.get i hil hib⟩
    have hbi:=hsum _ (List.getElem_mem hib)
    have hsm:(bs.take i).flatten.length<=bs.flatten.length:=by
     have:=congrArg (λl:List (List UInt8)=>l.flatten.length) (List.take_append_drop i bs)
     simp only [List.flatten_append,List.length_append] at this
     omega
    have htb:t.f.b.length<=used fs1:=z7h (h1.mem_iff.2 (List.mem_cons_self ..))
    (repeat (first|with_reducible (first|refine zl ?_|refine zm ?_|refine z0h ?_|refine za hs ?_|refine zr hs ?_|refine zj ?_|refine z0a hs λ_ hs=>?_|refine zv hs λ_ _ hs=>?_|refine z02 hs λ_ _ hs=>?_|refine z0d hs λ_ hs=>?_|refine zx hs λ_ hs=>?_)|(apply wp_must;(focus first|trivial|omega|assumption))|refine z1i ?_|refine wp_lt ?_))
    refine wp_app' hs (xs:=t.f.b++(bs.take i).flatten) (ys:=bs[i]) (enc:=zh) (λz w' hs=>?_) (by rw [List.length_append];omega)
    (repeat (first|with_reducible (first|refine zl ?_|refine zm ?_|refine z0h ?_|refine za hs ?_|refine zr hs ?_|refine zj ?_|refine z0a hs λ_ hs=>?_|refine zv hs λ_ _ hs=>?_|refine z02 hs λ_ _ hs=>?_|refine z0d hs λ_ hs=>?_|refine zx hs λ_ hs=>?_)|(apply wp_must;(focus first|trivial|omega|assumption))|refine z1i ?_|refine wp_lt ?_))
    refine z4x (us':=[.int .i64 ((i+1:Nat):Int)]) (by (try simp (disch:=omega) only [w64]);first|rfl|(congr;omega)) ?_
    refine z0l (xs.length-(i+1)) ?_
    refine ⟨i+1,z,rfl,by omega,rfl,?_⟩
    rw [z3x hib,<- List.append_assoc]
    exact hs.sub
   ·refine zk (zg ⟨x1,?_⟩)
    rwa [List.take_of_length_le (l:=bs) (by omega)] at hs
  rotate_left
  ·refine z06 (λk v w=>∃ (i:Nat) (x1:Sl),v=((i:Int),())/\i<=xs.length/\xs.length-i=k/\Sat w (pt t.at_ (.cells #[x1.v,.int .i64 t.f.kept] T.a6)::slc T.a39 1 x1 ((t.f.b++(bs.take i).flatten).flatMap zh)::HP.all (FS'.map z44)::pt d (.cells #[.int .i64 A.left,.bool A.gone,.int .i64 A.room,.int .i64 (used A.fs),.map (some m)] T.a5)::z3q ekS evF m ((t::FS').map λt=>(t.f.name,t.at_))::r)) xs.length ⟨0,t.x,rfl,by omega,rfl,by simpa using hs⟩ ?_
   clear hs
   rintro k _ w ⟨i,x1,rfl,hi,hk,hs⟩
   refine zl ?_
   refine zf (λhc=>?_) λhc=>?_
   ·have hil:i<xs.length:=by omega
    have hib:i<bs.length:=by omega
    refine z1z hs i hil ?_
    have hrd:FocR r xs[i] 1 (bs[i].flatMap zh):=⟨hbs.get i hil hib⟩
    have hbi:=hsum _ (List.getElem_mem hib)
    have hsm:(bs.take i).flatten.length<=bs.flatten.length:=by
     have:=congrArg (λl:List (List UInt8)=>l.flatten.length) (List.take_append_drop i bs)
     simp only [List.flatten_append,List.length_append] at this
     omega
    have htb:t.f.b.length<=used fs1:=z7h (h1.mem_iff.2 (List.mem_cons_self ..))
    (repeat (first|with_reducible (first|refine zl ?_|refine zm ?_|refine z0h ?_|refine za hs ?_|refine zr hs ?_|refine zj ?_|refine z0a hs λ_ hs=>?_|refine zv hs λ_ _ hs=>?_|refine z02 hs λ_ _ hs=>?_|refine z0d hs λ_ hs=>?_|refine zx hs λ_ hs=>?_)|(apply wp_must;(focus first|trivial|omega|assumption))|refine z1i ?_|refine wp_lt ?_))
    refine wp_app' hs (xs:=t.f.b++(bs.take i).flatten) (ys:=bs[i]) (enc:=zh) (λz w' hs=>?_) (by rw [List.length_append];omega)
    (repeat (first|with_reducible (first|refine zl ?_|refine zm ?_|refine z0h ?_|refine za hs ?_|refine zr hs ?_|refine zj ?_|refine z0a hs λ_ hs=>?_|refine zv hs λ_ _ hs=>?_|refine z02 hs λ_ _ hs=>?_|refine z0d hs λ_ hs=>?_|refine zx hs λ_ hs=>?_)|(apply wp_must;(focus first|trivial|omega|assumption))|refine z1i ?_|refine wp_lt ?_))
    refine z4x (us':=[.int .i64 ((i+1:Nat):Int)]) (by (try simp (disch:=omega) only [w64]);first|rfl|(congr;omega)) ?_
    refine z0l (xs.length-(i+1)) ?_
    refine ⟨i+1,z,rfl,by omega,rfl,?_⟩
    rw [z3x hib,<- List.append_assoc]
    exact hs.sub
   ·refine zk (zg ⟨x1,?_⟩)
    rwa [List.take_of_length_le (l:=bs) (by omega)] at hs
  all_goals clear hs
  all_goals rintro _ w ⟨x1,hs⟩
  all_goals refine zl ?_
  all_goals have hu3:=zao (g:=λf=>{ f with b:=f.b++bs.flatten }) h1 h2
  all_goals have hu4:used fs1=t.f.b.length+used (FS'.map FileM.f):=by rw [z1x h1,z13]
  all_goals have hu5:used (fs1.map (z22 t.f.name λf=>{ f with b:=f.b++bs.flatten }))=used A.fs+bs.flatten.length:=by (rw [hu3];show (t.f.b++bs.flatten).length+_=_;rw [List.length_append];omega)
  all_goals have ew:IntKind.wrap .i64 (((used A.fs:Nat):Int)+((bs.flatten.length:Nat):Int))=((used (fs1.map (z22 t.f.name λf=>{ f with b:=f.b++bs.flatten })):Nat):Int):=by rw [hu5,w64 (by omega) (by omega)];omega
  all_goals refine zm ?_
  all_goals refine za hs ?_
  all_goals rw [ew]
  all_goals (repeat (first|with_reducible (first|refine zl ?_|refine zm ?_|refine z0h ?_|refine za hs ?_|refine zr hs ?_|refine zj ?_|refine z0a hs λ_ hs=>?_|refine zv hs λ_ _ hs=>?_|refine z02 hs λ_ _ hs=>?_|refine z0d hs λ_ hs=>?_|refine zx hs λ_ hs=>?_)|(apply wp_must;(focus first|trivial|omega|assumption))|refine z1i ?_|refine wp_lt ?_))
  all_goals have hs:=z6f (FS:=FS') ⟨t.at_,x1,{ t.f with b:=t.f.b++bs.flatten }⟩ hs
  all_goals have hp':(((⟨t.at_,x1,{ t.f with b:=t.f.b++bs.flatten }⟩:FileM)::FS').map FileM.f).Perm (fs1.map (z22 t.f.name λf=>{ f with b:=f.b++bs.flatten })):=(z6r (g:=λf=>{ f with b:=f.b++bs.flatten }) h1 h2).symm
  all_goals have hok':=zff hok hn hfit hno
  all_goals rw [<- hfin] at hok'
  all_goals have hs:Sat _ (z3q ekS evF m (((⟨t.at_,x1,{ t.f with b:=t.f.b++bs.flatten }⟩:FileM)::FS').map λt=>(t.f.name,t.at_))::_):=hs.pick [2]
  all_goals rw [hg] at hs
  all_goals refine zb (z7q (l':=r) hg hok' hp' hs) λ_ _ hs=>?_
  all_goals obtain ⟨rfl,hs⟩:=hs
  all_goals refine zd ?_
  all_goals exact ⟨rfl,rfl,hs⟩
end
theorem zay {fs:List FileA} {g:FileA->FileA} (hb:∀ f,(g f).b=f.b):used (fs.map g)=used fs:=by
 unfold used
 rw [List.map_map]
 congr 1
 exact List.map_congr_left λf _=>by show (g f).b.length=_;rw [hb]
theorem znb {A:DiskA} (hok:okA A) {g:FileA->FileA} (hn:∀ f,(g f).name=f.name) (hb:∀ f,(g f).b=f.b) (hk:∀ f,f.kept<=f.b.length->(g f).kept<=f.b.length):okA { A with fs:=A.fs.map g }:=by
 refine ⟨hok.room,by show used (A.fs.map g)<=_;rw [zay hb];exact hok.used,by show (A.fs.map g).length<=_;rw [List.length_map];exact hok.many,hok.left,z8e hn hok.sorted,λf hf=>?_,λf hf=>?_⟩
 ·obtain ⟨f,hf',rfl⟩:=List.mem_map.1 hf
  rw [hb];exact hk f (hok.kept f hf')
 ·obtain ⟨f,hf',rfl⟩:=List.mem_map.1 hf
  rw [hn];exact hok.names f hf'
def z86 (f:FileA):FileA:={ f with kept:=f.b.length }
def z3a (ns:List ByteArray) (f:FileA):FileA:=if ns.any (λm=>decide (m=f.name)) then z86 f else f
theorem zax (ns:List ByteArray) (f:FileA):(z3a ns f).name=f.name:=by unfold z3a;split <;> rfl
theorem zgm (ns:List ByteArray) (f:FileA):(z3a ns f).b=f.b:=by unfold z3a;split <;> rfl
theorem zpb (ns:List ByteArray) (f:FileA) (h:f.kept<=f.b.length):(z3a ns f).kept<=f.b.length:=by
 unfold z3a;split
 ·exact Nat.le_refl _
 ·exact h
theorem zso:z3a []=id:=by funext f;simp [z3a]
theorem zry (ns:List ByteArray) (n:ByteArray) (f:FileA):z22 n z86 (z3a ns f)=z3a (ns++[n]) f:=by
 unfold z22
 rw [zax]
 unfold z3a
 rw [List.any_append]
 by_cases h1:f.name=n
 ·rw [if_pos h1]
  have:(ns.any (λm=>decide (m=f.name)) || [n].any (λm=>decide (m=f.name)))=true:=by simp [h1]
  rw [if_pos this]
  split <;> rfl
 ·rw [if_neg h1]
  have:(ns.any (λm=>decide (m=f.name)) || [n].any (λm=>decide (m=f.name)))=ns.any (λm=>decide (m=f.name)):=by simp [Ne.symm h1]
  rw [this]
theorem zv8 (s:ByteArray):Go.Proofs.YtfnldnodhfkojaaGreat.preF (ByteArray.mk #[]) s=true:=by
 unfold Go.Proofs.YtfnldnodhfkojaaGreat.preF
 rw [show (ByteArray.mk #[]).toList=[] from by rw [ByteArray.toList_eq]]
 rfl
theorem zbg (fs:List FileA):z15 (ByteArray.mk #[]) fs=fs.map (·.name):=List.filter_eq_self.2 λs _=>zv8 s
theorem zvs (fs:List FileA):fs.map (z3a (fs.map (·.name)))=fs.map (z4g []):=by
 refine List.map_congr_left λf hf=>?_
 unfold z3a z4g
 rw [if_pos (show ((fs.map (·.name)).any λm=>decide (m=f.name))=true by simp;exact ⟨f,hf,rfl⟩),if_pos (show zbi [] f.name=true from rfl)]
 rfl
theorem zs9 {ns:List ByteArray} (h:ns≠[]) (fs:List FileA):fs.map (z3a ns)=fs.map (z4g ns):=by
 refine List.map_congr_left λf hf=>?_
 have e:zbi ns f.name=ns.any (λm=>decide (m=f.name)):=by
  unfold zbi
  cases ns with
  | nil=>exact absurd rfl h
  | cons _ _=>rfl
 unfold z3a z4g
 rw [e];rfl
theorem zuj {fs:List FileA} {g:FileA->FileA} (hn:∀ f,(g f).name=f.name) (n:ByteArray):z2j (fs.map g) n=z2j fs n:=by
 unfold z2j
 rw [List.any_map]
 congr 1
 funext f
 show decide ((g f).name=n)=_
 rw [hn]
section
variable {w:World} {l r r0:List HP} {d:Nat} {A:DiskA}
theorem zsr (nx:Sl) (ns:List ByteArray) [hns:FocR r nx 1 (ns.flatMap z2s)] (hlen:ns.length<=100000) [hf:Fo l dk d A r] (hs:Sat w l) :
  Ret P F.a11 #[.pointer (some ⟨d,0,none⟩),nx.v] w λvs w'=>vs=[.int .i64 (z10 A ns).1]/\Sat w' (dk d (z10 A ns).2::r) :=
 zq3 _ nx <| by
  unfold z00u z10
  refine zck hs (λhg w' hs=>?_) λhg w' hs=>?_
  ·rw [if_pos hg];exact ⟨rfl,hs⟩
  rw [if_neg (by rw [hg];simp)]
  have hpl:=hs.slen nx (xs:=ns) (enc:=z2s)
  have hok0:okA A:=by obtain ⟨m,FS,hp,hok,hs⟩:=z2m hs;exact hok
  refine zn (λv w'=>ns.all (z2j A.fs)=true/\Sat w' (dk d A::r)) ?_ ?_
  ·refine z06 (λk v w=>∃ i:Nat,v=((i:Int),())/\i<=ns.length/\ns.length-i=k/\(ns.take i).all (z2j A.fs)=true/\Sat w (dk d A::r)) ns.length ⟨0,rfl,by omega,rfl,rfl,hs⟩ ?_
   clear hs
   rintro k _ w ⟨i,rfl,hi,hk,hall,hs⟩
   refine zl ?_
   refine zf (λhc=>?_) λhc=>?_
   ·have hil:i<ns.length:=by omega
    refine z1z hs i hil ?_
    have htk:(ns.take (i+1)).all (z2j A.fs)=z2j A.fs ns[i]:=by
     rw [List.take_add_one,List.getElem?_eq_getElem hil,List.all_append,hall];simp
    obtain ⟨m,FS,hp,hok,hs⟩:=z2m hs
    (repeat (first|with_reducible (first|refine zl ?_|refine zm ?_|refine z0h ?_|refine za hs ?_|refine zr hs ?_|refine zj ?_|refine z0a hs λ_ hs=>?_|refine zv hs λ_ _ hs=>?_|refine z02 hs λ_ _ hs=>?_|refine z0d hs λ_ hs=>?_|refine zx hs λ_ hs=>?_)|(apply wp_must;(focus first|trivial|omega|assumption))|refine z1i ?_|refine wp_lt ?_))
    refine z7k hs (λb hb=>?_) λhb=>?_
    ·obtain ⟨t,ht,rfl,hnm,hA⟩:=z9e hp hb
     refine z0g ?_ (by simp)
     refine z4x (us':=[.int .i64 ((i+1:Nat):Int)]) (by (try simp (disch:=omega) only [w64]);first|rfl|(congr;omega)) ?_
     refine z0l (ns.length-(i+1)) ?_
     exact ⟨i+1,rfl,by omega,rfl,by rw [htk];exact z63.2 ⟨_,hA,hnm⟩,z2v m hp hok hs⟩
    ·refine z1b ?_ (by rfl)
     refine zk (zk ?_)
     have:ns.all (z2j A.fs)=false:=by
      rw [<- List.take_append_drop (i+1) ns,List.all_append,htk,z65.2 (z83 hp hb)];rfl
     rw [if_pos this]
     exact ⟨rfl,rfl,z2v m hp hok hs⟩
   ·refine zk (zg ⟨?_,hs⟩)
    rwa [List.take_of_length_le (by omega)] at hall
  clear hs
  rintro _ w ⟨hall,hs⟩
  refine zl ?_
  rw [if_neg (by rw [hall];simp)]
  refine zn (λv w'=>∃ (nx1:Sl) (ns1:List ByteArray) (r1:List HP),v=(nx1,())/\ns1.length<=100000/\ns1.all (z2j A.fs)=true/\A.fs.map (z3a ns1)=A.fs.map (z4g ns)/\(∃ h:FocR (slc T.a33 1 nx1 (ns1.flatMap z2s)::r) nx1 1 (ns1.flatMap z2s),True) /\
    (Sat w' (dk d A::r1))/\(r1=r/\(∃ _h:FocR r nx1 1 (ns1.flatMap z2s),True)\/r1=slc T.a33 1 nx1 (ns1.flatMap z2s)::r)) ?_ ?_
  ·refine zf (λh=>?_) λh=>?_
   ·have hnil:ns=[]:=List.length_eq_zero_iff.1 (by omega)
    subst hnil
    refine zb (znf (ByteArray.mk #[]) hs) λ_ _ hs=>?_
    obtain ⟨x,rfl,hs⟩:=hs
    refine zd ?_
    refine zg ?_
    refine ⟨x,z15 (ByteArray.mk #[]) A.fs,_,rfl,?_,?_,?_,⟨inferInstance,trivial⟩,(hs.pick [1]),.inr rfl⟩
    ·rw [zbg,List.length_map];have:=hok0.many;omega
    ·rw [zbg,List.all_map,List.all_eq_true]
     exact λf hf=>z63.2 ⟨f,hf,rfl⟩
    ·rw [zbg];exact zvs A.fs
   ·refine zg ?_
    refine ⟨nx,ns,r,rfl,hlen,hall,zs9 (λe=>by subst e;simp at hpl;omega) A.fs,⟨inferInstance,trivial⟩,hs,.inl ⟨rfl,hns,trivial⟩⟩
  clear hs
  rintro _ w ⟨nx1,ns1,r1,rfl,hlen1,hall1,hmark,-,hs,hr1⟩
  refine zl ?_
  have hR1:FocR r1 nx1 1 (ns1.flatMap z2s):=by
   rcases hr1 with ⟨rfl,h,-⟩|rfl
   ·exact h
   ·infer_instance
  have hsub:∀ {H:HP} {w:World},Sat w (H::r1)->Sat w (H::r):=λ{H w} h=>by
   rcases hr1 with ⟨rfl,-⟩|rfl
   ·exact h
   ·exact h.sub
  have hpl1:=hs.slen nx1 (xs:=ns1) (enc:=z2s)
  refine zn (λv w'=>Sat w' (dk d { A with fs:=A.fs.map (z3a ns1) }::r1)) ?_ ?_
  ·refine z06 (λk v w=>∃ i:Nat,v=((i:Int),())/\i<=ns1.length/\ns1.length-i=k/\Sat w (dk d { A with fs:=A.fs.map (z3a (ns1.take i)) }::r1)) ns1.length ⟨0,rfl,by omega,rfl,by rw [List.take_zero,zso,List.map_id];exact hs⟩ ?_
   clear hs
   rintro k _ w ⟨i,rfl,hi,hk,hs⟩
   refine zl ?_
   refine zf (λhc=>?_) λhc=>?_
   ·have hil:i<ns1.length:=by omega
    refine z1z hs i hil ?_
    obtain ⟨m,FS,hp,hok,hs⟩:=z2m hs
    (repeat (first|with_reducible (first|refine zl ?_|refine zm ?_|refine z0h ?_|refine za hs ?_|refine zr hs ?_|refine zj ?_|refine z0a hs λ_ hs=>?_|refine zv hs λ_ _ hs=>?_|refine z02 hs λ_ _ hs=>?_|refine z0d hs λ_ hs=>?_|refine zx hs λ_ hs=>?_)|(apply wp_must;(focus first|trivial|omega|assumption))|refine z1i ?_|refine wp_lt ?_))
    refine z7k hs (λb hb=>?_) λhb=>?_
    ·obtain ⟨t,ht,rfl,hnm,hA⟩:=z9e hp hb
     obtain ⟨FS',hpm,hs⟩:=z73 hs ht
     obtain ⟨h1,h2,-⟩:=apart hp hok hpm
     (repeat (first|with_reducible (first|refine zl ?_|refine zm ?_|refine z0h ?_|refine za hs ?_|refine zr hs ?_|refine zj ?_|refine z0a hs λ_ hs=>?_|refine zv hs λ_ _ hs=>?_|refine z02 hs λ_ _ hs=>?_|refine z0d hs λ_ hs=>?_|refine zx hs λ_ hs=>?_)|(apply wp_must;(focus first|trivial|omega|assumption))|refine z1i ?_|refine wp_lt ?_))
     rw [hs.slen t.x (xs:=t.f.b) (enc:=zh)] at hs
     have hs:=z6f (FS:=FS') ⟨t.at_,t.x,z86 t.f⟩ hs
     have hs:Sat _ (z3q ekS evF m (((⟨t.at_,t.x,z86 t.f⟩:FileM)::FS').map λt=>(t.f.name,t.at_))::_):=(hs.pick [2]).mapPerm (hpm.map λt=>(t.f.name,t.at_))
     have hstep:(A.fs.map (z3a (ns1.take i))).map (z22 t.f.name z86)=A.fs.map (z3a (ns1.take (i+1))):=by
      rw [List.map_map,List.take_add_one,List.getElem?_eq_getElem hil]
      refine List.map_congr_left λf _=>?_
      show z22 t.f.name z86 (z3a _ f)=_
      rw [zry,hnm];rfl
     have hp':(((⟨t.at_,t.x,z86 t.f⟩:FileM)::FS').map FileM.f).Perm (A.fs.map (z3a (ns1.take (i+1)))):=by
      rw [<- hstep]
      exact (z6r (g:=z86) h1 h2).symm
     refine z4x (us':=[.int .i64 ((i+1:Nat):Int)]) (by (try simp (disch:=omega) only [w64]);first|rfl|(congr;omega)) ?_
     refine z0l (ns1.length-(i+1)) ?_
     refine ⟨i+1,rfl,by omega,rfl,?_⟩
     exact z2v m (A:={ A with fs:=A.fs.map (z3a (ns1.take (i+1))) }) hp' (znb hok0 (zax _) (zgm _) (zpb _)) hs (by rw [zay (zgm _),zay (zgm _)])
    ·exfalso
     have h3:=z65.2 (z83 hp hb)
     have h4:z2j A.fs ns1[i]=true:=List.all_eq_true.1 hall1 _ (List.getElem_mem hil)
     rw [zuj (zax _),h4] at h3
     cases h3
   ·refine zk (zg ?_)
    rwa [List.take_of_length_le (by omega)] at hs
  clear hs
  rintro _ w hs
  refine zl ?_
  rw [hmark] at hs
  obtain ⟨m,FS,hp,hok,hs⟩:=z2m (hsub hs)
  have hs:Sat w (pt d (.cells #[.int .i64 A.left,.bool A.gone,.int .i64 A.room,.int .i64 (used (A.fs.map (z4g ns))),.map (some m)] T.a5)::_):=hs
  (repeat (first|with_reducible (first|refine zl ?_|refine zm ?_|refine z0h ?_|refine za hs ?_|refine zr hs ?_|refine zj ?_|refine z0a hs λ_ hs=>?_|refine zv hs λ_ _ hs=>?_|refine z02 hs λ_ _ hs=>?_|refine z0d hs λ_ hs=>?_|refine zx hs λ_ hs=>?_)|(apply wp_must;(focus first|trivial|omega|assumption))|refine z1i ?_|refine wp_lt ?_))
  rw [hg] at hs
  refine zb (z7q (l':=r) (A:=A) hg hok hp hs) λ_ _ hs=>?_
  obtain ⟨rfl,hs⟩:=hs
  refine zd ?_
  exact ⟨rfl,rfl,hs⟩
end
theorem zb1 {a b:List FileA} (h:a.Sublist b):used a<=used b:=by
 induction h with
 | slnil=>exact Nat.le_refl _
 | cons x _ ih=>rw [z13];omega
 | cons_cons x _ ih=>rw [z13,z13];omega
theorem zyd {A:DiskA} (hok:okA A) {fs:List FileA} (h:fs.Sublist A.fs):okA { A with fs:=fs } :=
 ⟨hok.room,Nat.le_trans (zb1 h) hok.used,Nat.le_trans h.length_le hok.many,hok.left,hok.sorted.sublist h,λf hf=>hok.kept f (h.mem hf),λf hf=>hok.names f (h.mem hf)⟩
def z03 (fs:List FileA) (n:ByteArray):Option (List UInt8 × Nat):=(fs.find? λf=>decide (f.name=n)).map λf=>(f.b,f.kept)
theorem zhe (n:ByteArray):z03 [] n=none:=rfl
theorem z2z (f:FileA) (fs:List FileA) (n:ByteArray):z03 (f::fs) n=if f.name=n then some (f.b,f.kept) else z03 fs n:=by
 unfold z03
 rw [List.find?_cons]
 by_cases h:f.name=n
 ·simp [h]
 ·simp [h]
theorem z8j {fs:List FileA} {n:ByteArray}:z03 fs n=none↔∀ f ∈ fs,f.name≠n:=by
 unfold z03
 rw [Option.map_eq_none_iff,List.find?_eq_none]
 simp
theorem z6c {fs:List FileA} {f:FileA} (hn:(fs.map (·.name)).Nodup) (h:f ∈ fs):z03 fs f.name=some (f.b,f.kept):=by
 unfold z03
 rw [zbs hn h rfl]
 rfl
theorem zq2 {fs:List FileA} {n:ByteArray} {p:List UInt8 × Nat} (h:z03 fs n=some p):(⟨n,p.1,p.2⟩:FileA) ∈ fs:=by
 unfold z03 at h
 rw [Option.map_eq_some_iff] at h
 obtain ⟨f,hf,rfl⟩:=h
 have h1:=List.mem_of_find?_eq_some hf
 have h2:=List.find?_some hf
 have h2:f.name=n:=by simpa using h2
 subst h2
 exact h1
theorem z3z {fs:List FileA} {n:ByteArray}:z2j fs n=(z03 fs n).isSome:=by
 unfold z2j z03
 rw [Option.isSome_map,Bool.eq_iff_iff,List.any_eq_true,List.find?_isSome]
theorem zoz {fs:List FileA} {n:ByteArray} {p:List UInt8 × Nat} (h:z03 fs n=some p):zkw fs n=p.1.length:=by
 unfold z03 at h
 unfold zkw
 cases hf:fs.find? λf=>decide (f.name=n) with
 | none=>rw [hf] at h;cases h
 | some f=>rw [hf] at h;simp only [Option.map_some,Option.some.injEq] at h;subst h;rfl
theorem zcv (n:ByteArray) (g:FileA->FileA) (hg:∀ f,(g f).name=f.name) (m:ByteArray):∀ fs:List FileA,
  z03 (fs.map (z22 n g)) m=if m=n then (z03 fs n).map λp=>((g ⟨n,p.1,p.2⟩).b,(g ⟨n,p.1,p.2⟩).kept) else z03 fs m
 | []=>by simp [zhe]
 | f::fs=>by
  rw [List.map_cons,z2z,zcv n g hg m fs,z2z,z2z,z62 hg]
  by_cases h1:m=n
  ·subst h1
   rw [if_pos rfl,if_pos rfl]
   by_cases h2:f.name=m
   ·rw [if_pos h2,if_pos h2]
    subst h2
    unfold z22
    rw [if_pos rfl]
    rfl
   ·rw [if_neg h2,if_neg h2]
  ·rw [if_neg h1,if_neg h1]
   by_cases h2:f.name=m
   ·rw [if_pos h2,if_pos h2]
    unfold z22
    rw [if_neg (by rw [h2];exact h1)]
   ·rw [if_neg h2,if_neg h2]
theorem zch (x:FileA) (m:ByteArray):∀ {fs:List FileA},(∀ f ∈ fs,f.name≠x.name)->z03 (z34 x fs) m=if m=x.name then some (x.b,x.kept) else z03 fs m
 | [],_=>by
  show z03 [x] m=_
  rw [z2z]
  by_cases h:m=x.name
  ·rw [if_pos h.symm,if_pos h]
  ·rw [if_neg h,if_neg λe=>h e.symm]
 | f::fs,h=>by
  have hf:=h f (List.mem_cons_self ..)
  have ih:=zch x m (fs:=fs) λg hg=>h g (List.mem_cons_of_mem _ hg)
  unfold z34
  split
  ·rw [z2z]
   by_cases h:m=x.name
   ·rw [if_pos h.symm,if_pos h]
   ·rw [if_neg h,if_neg λe=>h e.symm]
  ·rw [z2z,ih,z2z]
   by_cases h:m=x.name
   ·subst h;simp [hf]
   ·rw [if_neg h,if_neg h]
theorem z8i (n m:ByteArray):∀ fs:List FileA,z03 (z16 n fs) m=if m=n then none else z03 fs m
 | []=>by simp [z16,zhe]
 | f::fs=>by
  have ih:=z8i n m fs
  unfold z16 at ih ⊢
  rw [List.filter_cons]
  by_cases h:f.name=n
  ·rw [if_neg (by simp [h]),ih,z2z]
   by_cases h2:m=n
   ·rw [if_pos h2,if_pos h2]
   ·rw [if_neg h2,if_neg h2,if_neg (by rw [h];exact λe=>h2 e.symm)]
  ·rw [if_pos (by simp [h]),z2z,ih,z2z]
   by_cases h2:m=n
   ·subst h2;simp [h]
   ·rw [if_neg h2,if_neg h2]
theorem zg4 (ns:List ByteArray) (m:ByteArray):∀ fs:List FileA,z03 (fs.map (z4g ns)) m=(z03 fs m).map λp=>if zbi ns m then (p.1,p.1.length) else p
 | []=>rfl
 | f::fs=>by
  have hn:(z4g ns f).name=f.name:=by unfold z4g;split <;> rfl
  rw [List.map_cons,z2z,zg4 ns m fs,z2z,hn]
  by_cases h:f.name=m
  ·subst h
   rw [if_pos rfl,if_pos rfl]
   unfold z4g
   split
   ·rename_i h;simp [h]
   ·rename_i h;simp [h]
  ·rw [if_neg h,if_neg h]
theorem z8k {A:DiskA} {n:ByteArray} {bs:List UInt8} (h:(zu A n bs).1≠0):(zu A n bs).2=A:=by
 unfold zu at h ⊢
 split
 ·rfl
 ·split
  ·rfl
  ·split
   ·rfl
   ·rename_i h1 h2 h3
    rw [if_neg h1,if_neg h2,if_neg h3] at h
    exact absurd rfl h
theorem z69 {A:DiskA} {n:ByteArray} {bs:List UInt8} (hok:okA A) (h:(zu A n bs).1=0):A.gone=false/\z30 n=true/\bs.length<=A.free/\okA (zu A n bs).2 /\
  (zu A n bs).2.room=A.room/\used (zu A n bs).2.fs=used A.fs+bs.length /\
  ∀ m,z03 (zu A n bs).2.fs m=if m=n then some (((z03 A.fs n).map Prod.fst).getD []++bs,((z03 A.fs n).map Prod.snd).getD 0) else z03 A.fs m:=by
 unfold zu at h ⊢
 split at h
 ·cases h
 rename_i h1
 split at h
 ·cases h
 rename_i h2
 split at h
 ·cases h
 rename_i h3
 rw [if_neg h1,if_neg h2,if_neg h3]
 have hn:z30 n=true:=by simpa using h2
 have h4:=zff hok hn (bs:=bs) (by omega) (λhh=>h3 (.inr hh))
 refine ⟨by simpa using h1,hn,by omega,z7n h4,by rw [z7g],?_,λm=>?_⟩
 ·rw [z33]
  show used (if z2j A.fs n=true then _ else _)=_
  have hnd:=z23 hok.sorted
  split
  ·rename_i hh
   obtain ⟨f,hf,rfl⟩:=z63.1 hh
   obtain ⟨s,u,hsu⟩:=List.append_of_mem hf
   have hp:A.fs.Perm (f::(s++u)):=by rw [hsu];exact List.perm_middle
   have hne:∀ g ∈ s++u,g.name≠f.name:=λg hg e=>by
    have h5:=(hp.map (·.name)).nodup_iff.1 hnd
    rw [List.map_cons,List.nodup_cons] at h5
    exact h5.1 (List.mem_map.2 ⟨g,hg,e⟩)
   rw [zao hp hne,z1x hp,z13,List.length_append]
   omega
  ·rw [z1x (z3f _ _),z13]
   show bs.length+_=_
   omega
 ·rw [z33]
  show z03 (if z2j A.fs n=true then _ else _) m=_
  split
  ·rename_i hh
   rw [zcv n (λf=>{ f with b:=f.b++bs }) (λf=>rfl)]
   by_cases hm:m=n
   ·rw [if_pos hm,if_pos hm]
    rw [z3z] at hh
    obtain ⟨p,hp⟩:=Option.isSome_iff_exists.1 hh
    rw [hp]
    rfl
   ·rw [if_neg hm,if_neg hm]
  ·rename_i hh
   have hh:z2j A.fs n=false:=by simpa using hh
   rw [zch _ _ (z65.1 hh)]
   by_cases hm:m=n
   ·rw [if_pos hm,if_pos hm,z8j.2 (z65.1 hh)]
    rfl
   ·rw [if_neg hm,if_neg hm]
theorem z7s {A:DiskA} {n:ByteArray} {bs:List UInt8} (hg:A.gone=false) (hn:z30 n=true) (hb:bs.length<=A.free) (hf:z03 A.fs n≠none\/A.fs.length<128):(zu A n bs).1=0:=by
 unfold zu
 rw [if_neg (by rw [hg];simp),if_neg (by rw [hn];simp),if_neg]
 rintro (h|⟨h1,h2⟩)
 ·omega
 ·rcases hf with hf|hf
  ·rw [z3z] at h1
   cases hq:z03 A.fs n with
   | none=>exact hf hq
   | some q=>rw [hq] at h1;cases h1
  ·omega
theorem zdl {A:DiskA} {n:ByteArray} {bs:List UInt8} (hn:z30 n=true):(zu A n bs).1=0\/((zu A n bs).1=9/\A.gone=true)\/((zu A n bs).1=5/\A.gone=false):=by
 unfold zu
 split
 ·exact .inr (.inl ⟨rfl,by assumption⟩)
 ·rename_i h
  rw [if_neg (by rw [hn];simp)]
  split
  ·exact .inr (.inr ⟨rfl,by simpa using h⟩)
  ·exact .inl rfl
theorem zaz {A:DiskA} {n:ByteArray}:((z10 A [n]).1=0/\A.gone=false/\(z03 A.fs n).isSome=true/\(z10 A [n]).2=z2q { A with fs:=A.fs.map (z4g [n]) })\/((z10 A [n]).1=9/\A.gone=true/\(z10 A [n]).2=A)\/((z10 A [n]).1=3/\A.gone=false/\z03 A.fs n=none/\(z10 A [n]).2=A):=by
 unfold z10
 split
 ·exact .inr (.inl ⟨rfl,by assumption,rfl⟩)
 ·rename_i h
  have hg:A.gone=false:=by simpa using h
  split
  ·rename_i h2
   refine .inr (.inr ⟨rfl,hg,?_,rfl⟩)
   simp only [List.all_cons,List.all_nil,Bool.and_true] at h2
   rw [z3z] at h2
   cases hq:z03 A.fs n with
   | none=>rfl
   | some q=>rw [hq] at h2;cases h2
  ·rename_i h2
   refine .inl ⟨rfl,hg,?_,rfl⟩
   simp only [List.all_cons,List.all_nil,Bool.and_true] at h2
   rw [z3z] at h2
   cases hq:z03 A.fs n with
   | none=>rw [hq] at h2;exact absurd rfl h2
   | some q=>rfl
theorem zvg {A:DiskA} (hok:okA A) (ns:List ByteArray):okA { A with fs:=A.fs.map (z4g ns) } :=
 znb hok (λf=>by unfold z4g;split <;> rfl) (λf=>by unfold z4g;split <;> rfl) (λf h=>by unfold z4g;split;exact Nat.le_refl _;exact h)
theorem zse (n m:ByteArray):zbi [n] m=decide (n=m):=by
 unfold zbi
 simp
theorem zd8 {A:DiskA} {n:ByteArray} (hok:okA A) (h:(z10 A [n]).1=0):A.gone=false/\okA (z10 A [n]).2/\(z10 A [n]).2.room=A.room/\used (z10 A [n]).2.fs=used A.fs/\(z10 A [n]).2.fs.length=A.fs.length /\
  ∀ m,z03 (z10 A [n]).2.fs m=(z03 A.fs m).map λp=>if n=m then (p.1,p.1.length) else p:=by
 rcases zaz (A:=A) (n:=n) with ⟨h1,h2,h3,h4⟩|⟨h1,-,-⟩|⟨h1,-,-,-⟩
 ·rw [h4]
  refine ⟨h2,z7n (zvg hok _),by rw [z7g],?_,?_,λm=>?_⟩
  ·rw [z33]
   exact zay λf=>by unfold z4g;split <;> rfl
  ·rw [z33]
   exact List.length_map ..
  ·rw [z33]
   show z03 (A.fs.map (z4g [n])) m=_
   rw [zg4]
   congr 1
   funext p
   rw [zse]
   by_cases hm:n=m <;> simp [hm]
 ·rw [h1] at h;cases h
 ·rw [h1] at h;cases h
theorem zsb {A:DiskA} {n:ByteArray} (hok:okA A) (h:(z0p A n).1=0):A.gone=false/\okA (z0p A n).2/\(z0p A n).2.room=A.room/\used (z0p A n).2.fs<=used A.fs/\(z0p A n).2.fs.length<=A.fs.length/\(z03 A.fs n).isSome=true /\
  ∀ m,z03 (z0p A n).2.fs m=if m=n then none else z03 A.fs m:=by
 unfold z0p at h ⊢
 split at h
 ·cases h
 rename_i h1
 split at h
 ·cases h
 rename_i h2
 rw [if_neg h1,if_neg h2]
 refine ⟨by simpa using h1,z7n (zyd hok (List.filter_sublist ..)),by rw [z7g],?_,?_,?_,λm=>?_⟩
 ·rw [z33];exact zb1 (List.filter_sublist ..)
 ·rw [z33];exact zhz _ _
 ·rw [<- z3z];simpa using h2
 ·rw [z33];exact z8i n m A.fs
theorem zc7 {A:DiskA} {n:ByteArray} (hf:(z03 A.fs n).isSome=true):((z0p A n).1=0/\A.gone=false)\/((z0p A n).1=9/\A.gone=true/\(z0p A n).2=A):=by
 unfold z0p
 split
 ·exact .inr ⟨rfl,by assumption,rfl⟩
 ·rename_i h
  rw [if_neg (by rw [z3z,hf];simp)]
  exact .inl ⟨rfl,by simpa using h⟩
theorem z008 {A:DiskA} {n:ByteArray} {k:Int} (hok:okA A) (h:(cutA' A n k).1=0):A.gone=false/\okA (cutA' A n k).2/\(cutA' A n k).2.room=A.room/\(cutA' A n k).2.fs.length=A.fs.length /\
  ∀ m,z03 (cutA' A n k).2.fs m=if m=n then (z03 A.fs n).map (λp=>(p.1.take k.toNat,min p.2 k.toNat)) else z03 A.fs m:=by
 unfold cutA' at h ⊢
 split at h
 ·cases h
 rename_i h1
 split at h
 ·cases h
 rename_i h2
 split at h
 ·cases h
 rename_i h3
 rw [if_neg h1,if_neg h2,if_neg h3]
 have hnd:=z23 hok.sorted
 have hup:okA { A with fs:=A.fs.map (z22 n λf=>{ f with b:=f.b.take k.toNat,kept:=min f.kept k.toNat }) }:=by
  refine ⟨hok.room,?_,?_,hok.left,z8e (λf=>z62 (g:=λf=>{ f with b:=f.b.take k.toNat,kept:=min f.kept k.toNat }) (λ_=>rfl) f) hok.sorted,λf hf=>?_,λf hf=>?_⟩
  ·refine Nat.le_trans ?_ hok.used
   show used (A.fs.map _)<=used A.fs
   generalize A.fs=fs
   induction fs with
   | nil=>exact Nat.le_refl _
   | cons f fs ih =>
    rw [List.map_cons,z13,z13]
    have:(z22 n (λf=>{ f with b:=f.b.take k.toNat,kept:=min f.kept k.toNat }) f).b.length<=f.b.length:=by
     unfold z22
     split
     ·show (f.b.take _).length<=_;rw [List.length_take];omega
     ·exact Nat.le_refl _
    omega
  ·show (A.fs.map _).length<=_;rw [List.length_map];exact hok.many
  ·obtain ⟨g,hg,rfl⟩:=List.mem_map.1 hf
   have:=hok.kept g hg
   unfold z22
   split
   ·show min g.kept _<=(g.b.take _).length;rw [List.length_take];omega
   ·exact this
  ·obtain ⟨g,hg,rfl⟩:=List.mem_map.1 hf
   rw [z62 (g:=λf=>{ f with b:=f.b.take k.toNat,kept:=min f.kept k.toNat }) (λ_=>rfl)]
   exact hok.names g hg
 refine ⟨by simpa using h1,z7n hup,by rw [z7g],by rw [z33];exact List.length_map ..,λm=>?_⟩
 rw [z33]
 show z03 (A.fs.map _) m=_
 rw [zcv n (λf=>{ f with b:=f.b.take k.toNat,kept:=min f.kept k.toNat }) (λf=>rfl)]
theorem zth {A:DiskA} {n:ByteArray} {k:Int} {p:List UInt8 × Nat} (hf:z03 A.fs n=some p) (hk:0<=k/\k<=p.1.length):((cutA' A n k).1=0/\A.gone=false)\/((cutA' A n k).1=9/\A.gone=true/\(cutA' A n k).2=A):=by
 unfold cutA'
 split
 ·exact .inr ⟨rfl,by assumption,rfl⟩
 ·rename_i h
  rw [if_neg (by rw [z3z,hf];simp),if_neg (by rw [zoz hf];omega)]
  exact .inl ⟨rfl,by simpa using h⟩
theorem z02p {A:DiskA} {a b:ByteArray} (hok:okA A) (hab:a≠b) (h:(z3b A a b).1=0):A.gone=false/\okA (z3b A a b).2/\(z3b A a b).2.room=A.room/\used (z3b A a b).2.fs<=used A.fs/\(z3b A a b).2.fs.length<=A.fs.length/\(z03 A.fs a).isSome=true /\
  ∀ m,z03 (z3b A a b).2.fs m=if m=b then z03 A.fs a else if m=a then none else z03 A.fs m:=by
 unfold z3b at h ⊢
 split at h
 ·cases h
 rename_i h1
 rw [if_neg h1]
 cases hf:A.fs.find? λf=>decide (f.name=a) with
 | none=>rw [hf] at h;cases h
 | some f =>
  rw [hf] at h
  simp only at h ⊢
  split at h
  ·cases h
  rename_i h2
  have h2:z30 b=true:=by simpa using h2
  rw [if_neg (by rw [h2];simp),if_neg hab]
  have hm:=List.mem_of_find?_eq_some hf
  have hn:f.name=a:=by simpa using List.find?_some hf
  subst hn
  have hfd:z03 A.fs f.name=some (f.b,f.kept):=z6c (z23 hok.sorted) hm
  obtain ⟨s,u,hsu⟩:=List.append_of_mem hm
  have hp:A.fs.Perm (f::(s++u)):=by rw [hsu];exact List.perm_middle
  have hne:∀ g ∈ s++u,g.name≠f.name:=λg hg e=>by
   have h5:=(hp.map (·.name)).nodup_iff.1 (z23 hok.sorted)
   rw [List.map_cons,List.nodup_cons] at h5
   exact h5.1 (List.mem_map.2 ⟨g,hg,e⟩)
  have hd:=z8h hp hne
  have hsub:(z16 b (z16 f.name A.fs)).Sublist (z16 f.name A.fs):=List.filter_sublist ..
  refine ⟨by simpa using h1,z7n (zni hok hm b hab (zb2 h2)),by rw [z7g],?_,?_,by rw [hfd];rfl,λm=>?_⟩
  ·rw [z33]
   show used (z34 _ _)<=_
   rw [z1x (z3f _ _),z13,z1x hp,z13,<- z1x hd]
   have:=zb1 hsub
   show f.b.length+_<=_
   omega
  ·rw [z33]
   show (z34 _ _).length<=_
   rw [(z3f _ _).length_eq,List.length_cons,hp.length_eq,List.length_cons,<- hd.length_eq]
   have:=hsub.length_le
   omega
  ·rw [z33]
   show z03 (z34 _ _) m=_
   rw [zch _ _ (λg hg=>(z9k.1 hg).2),hfd,z8i,z8i]
   by_cases h3:m=b
   ·subst h3;rw [if_pos rfl,if_pos rfl]
   ·rw [if_neg (show ¬ m=({ f with name:=b }:FileA).name from h3),if_neg h3,if_neg h3]
def z20 (e:EntA):List Value:=[.int .i64 e.offset,.int .i64 e.place,.int .i64 e.before]
instance:EncA z20 [.int .i64,.int .i64,.int .i64] (λe=>(e.offset,e.place,e.before,())):=⟨λ_=>rfl⟩
instance:EncN z20 3:=⟨λ_=>rfl,by decide,by simp [z20,Value.oneCell']⟩
instance:EncF z20 0 (.int .i64) (λe=>e.offset):=⟨λ_=>rfl⟩
instance:EncF z20 1 (.int .i64) (λe=>e.place):=⟨λ_=>rfl⟩
instance:EncF z20 2 (.int .i64) (λe=>e.before):=⟨λ_=>rfl⟩
structure okX (X:IdxA):Prop where
 gap:1<=X.gap/\X.gap<=4194304
 place : -1<=X.place/\X.place<=4194304
 ent:∀ e ∈ X.l,0<=e.place/\e.place<=X.place
 len:(X.l.length:Int)<=X.place+1
def z1y (b:Nat) (X:IdxA):HP:=HP.ex λz:Sl=>HP.and (okX X) (HP.star (pt b (.cells #[.int .i64 X.offset,.int .i64 X.place,.int .i64 X.late,.int .i64 X.gap,.slice z.a z.len z.cap] T.a8)) (slc T.a7 3 z (X.l.flatMap z20)))
section
variable {w:World} {l r:List HP} {b:Nat} {X:IdxA}
theorem zar (hs:Sat w (z1y b X::l)):∃ z:Sl,okX X/\Sat w (pt b (.cells #[.int .i64 X.offset,.int .i64 X.place,.int .i64 X.late,.int .i64 X.gap,.slice z.a z.len z.cap] T.a8)::slc T.a7 3 z (X.l.flatMap z20)::l):=by
 obtain ⟨z,hs⟩:=hs.ex
 obtain ⟨h,hs⟩:=hs.and
 exact ⟨z,h,hs.star⟩
theorem z6y (X:IdxA) {z:Sl} (h:okX X) (hs:Sat w (pt b (.cells #[.int .i64 X.offset,.int .i64 X.place,.int .i64 X.late,.int .i64 X.gap,.slice z.a z.len z.cap] T.a8)::slc T.a7 3 z (X.l.flatMap z20)::l)):Sat w (z1y b X::l) :=
 .ex_mk z (.and_mk h (.star_mk hs))
theorem z017 {gap:Int} (h:1<=gap/\gap<=4194304):okX (z6k gap):=⟨h,by show -1<=(-1:Int)/\(-1:Int)<=4194304;omega,(λ_ h=>by cases h),by show (0:Int) <= -1+1;omega⟩
theorem z011 (gap:Int) (h:1<=gap/\gap<=4194304) (hs:Sat w l):Ret P F.a29 #[.int .i64 gap] w λvs w'=>∃ b,vs=[.pointer (some ⟨b,0,none⟩),.int .i64 0]/\Sat w' (z1y b (z6k gap)::l) :=
 zr2 gap <| by
  unfold z023
  refine z0g ?_
  refine z02 hs λa w' hs=>?_
  refine ⟨rfl,a,rfl,?_⟩
  have h0:Sat w' (slc T.a7 3 ⟨none,0,0⟩ ((z6k gap).l.flatMap z20)::_):=hs.slc_nil
  exact z6y (z6k gap) (z:=⟨none,0,0⟩) (z017 h) (h0.pick [1])
theorem z020 (o p t:Int) (hs:Sat w l):Ret P F.a30 #[.int .i64 o,.int .i64 p,.int .i64 t] w λvs w'=>vs=[.bool (decide (z89 o p t))]/\Sat w' l :=
 zqc o p t <| by
  unfold z03p
  refine wp_lt ?_
  refine ⟨rfl,?_,hs⟩
  congr 2
  rw [Bool.eq_iff_iff,decide_eq_true_iff (p:=z89 o p t)]
  unfold z89
  simp only [Bool.and_eq_true,decide_eq_true_eq]
  constructor
  ·rintro ⟨⟨⟨⟨⟨h1,h2⟩,h3⟩,h4⟩,h5⟩,h6⟩
   exact ⟨⟨h1,h2⟩,⟨h3,h4⟩,h5,h6⟩
  ·rintro ⟨⟨h1,h2⟩,⟨h3,h4⟩,h5,h6⟩
   exact ⟨⟨⟨⟨⟨h1,h2⟩,h3⟩,h4⟩,h5⟩,h6⟩
theorem zkt {X:IdxA} (h:okX X) {o p t:Int} (hm:z89 o p t) (h2:¬ (o<=X.offset\/p<=X.place)):okX ⟨o,p,max X.late t,X.gap,z3n X o p⟩:=by
 obtain ⟨h3,h4,h5,h6⟩:=h
 obtain ⟨-,hp,-⟩:=hm
 refine ⟨h3,by show -1<=p/\p<=4194304;omega,λe he=>?_,?_⟩
 ·show 0<=e.place/\e.place<=p
  have he:e ∈ z3n X o p:=he
  unfold z3n at he
  split at he
  ·rcases List.mem_append.1 he with he|he
   ·have:=h5 e he;omega
   ·simp at he;subst he;simp only;omega
  ·have:=h5 e he;omega
 ·show ((z3n X o p).length:Int)<=p+1
  unfold z3n
  split
  ·rw [List.length_append];simp only [List.length_cons,List.length_nil];omega
  ·omega
theorem z034 (o p t:Int) (ho : -9223372036854775808<=o/\o<9223372036854775808) (hp : -9223372036854775808<=p/\p<9223372036854775808) [hf:Fo l z1y b X r] (hs:Sat w l) :
  Ret P F.a27 #[.pointer (some ⟨b,0,none⟩),.int .i64 o,.int .i64 p,.int .i64 t] w λvs w'=>vs=[.int .i64 (z6q X o p t).1]/\Sat w' (z1y b (z6q X o p t).2::r) :=
 zpy _ o p t <| by
  unfold z00f
  have hs:=hs.perm hf.perm
  refine wp_lt ?_
  refine z0g ?_ (by simp)
  refine zb (z020 o p t hs) λ_ w' hs=>?_
  obtain ⟨rfl,hs⟩:=hs
  refine zd ?_
  refine wp_lt ?_
  unfold z6q
  refine zf (λh=>?_) λh=>?_
  ·have h:¬ z89 o p t:=by simpa using h
   rw [if_pos h]
   exact ⟨rfl,rfl,hs⟩
  have h:z89 o p t:=by simpa using h
  rw [if_neg (λhh=>hh h)]
  obtain ⟨z,hok,hs⟩:=zar hs
  have hl:=hs.slen z (xs:=X.l) (enc:=z20)
  refine zm ?_
  refine za hs ?_
  refine z0h ?_
  refine za hs ?_
  refine wp_lt ?_
  refine zf (λh2=>?_) λh2=>?_
  ·rw [if_pos h2]
   exact ⟨rfl,rfl,z6y X hok hs⟩
  rw [if_neg h2]
  have hok2:=zkt hok h h2
  have hlen:=hok.len
  have hpl:=hok.place
  refine zm ?_
  refine za hs ?_
  refine wp_lt ?_
  refine z0a hs λw' hs=>?_
  refine z0h ?_
  refine za hs ?_
  have hgl:∀ (h0:X.l≠[]),X.l.getLast? = some (X.l[X.l.length-1]'(by have:=List.length_pos_iff.2 h0;omega)):=λh0=>by
   have:=List.length_pos_iff.2 h0
   rw [List.getLast?_eq_getElem?,List.getElem?_eq_getElem (by omega)]
  refine zbd (xs:=X.l) (enc:=z20) hs (match X.l.getLast? with|none=>0|some e=>e.place) (λhg=>?_) ?_
  ·have h0:X.l≠[]:=by
    rintro h0
    rw [h0] at hl
    rw [hl] at hg
    cases hg
   have:=List.length_pos_iff.2 h0
   refine ⟨X.l.length-1,by omega,?_,?_⟩
   ·rw [w64 (by omega) (by omega)];omega
   ·rw [hgl h0]
  refine z0h ?_
  refine za hs ?_
  refine zj ?_
  refine zn (λ_ w'=>∃ z':Sl,Sat w' (pt b (.cells #[.int .i64 X.offset,.int .i64 X.place,.int .i64 X.late,.int .i64 X.gap,.slice z'.a z'.len z'.cap] T.a8)::slc T.a7 3 z' ((z3n X o p).flatMap z20)::r)) ?_ ?_
  ·have hnew:zjf X p=true↔(((z.len:Nat):Int)=0\/IntKind.wrap .i64 (p-match X.l.getLast? with|none=>0|some e=>e.place)>=X.gap):=by
    unfold zjf
    by_cases h0:X.l=[]
    ·rw [h0]
     simp only [List.getLast?_nil,true_iff]
     left
     rw [hl,h0];rfl
    ·rw [hgl h0]
     have hlp:=List.length_pos_iff.2 h0
     have hb:=hok.ent _ (List.getElem_mem (show X.l.length-1<X.l.length by omega))
     simp only [decide_eq_true_eq]
     rw [w64 (by omega) (by omega)]
     omega
   unfold z3n
   refine zf (λh3=>?_) λh3=>?_
   ·rw [if_pos (hnew.2 h3)]
    refine zn (λq w'=>∃ z':Sl,q=(z',())/\Sat w' (slc T.a7 3 z' ((X.l++[(⟨o,p,X.late⟩:EntA)]).flatMap z20)::pt b (.cells #[.int .i64 X.offset,.int .i64 X.place,.int .i64 X.late,.int .i64 X.gap,.slice z.a z.len z.cap] T.a8)::r)) ?_ ?_
    ·refine z0a hs λw' hs=>?_
     refine zm ?_
     refine z1e hs ?_
     refine zm ?_
     refine za hs ?_
     refine z74 hs (enc:=z20) [(⟨o,p,X.late⟩:EntA)] λy w' hs=>⟨(by first|trivial|(repeat (first|exact trivial|exact λ_=>z0i hs|exact λ_=>z0n hs|refine And.intro ?_ ?_))),?_⟩
     refine zj ?_
     refine wp_app' (xs:=X.l) (ys:=[(⟨o,p,X.late⟩:EntA)]) (enc:=z20) hs (λz' w' hs=>?_) (by simp only [List.length_cons,List.length_nil];omega)
     refine zj ?_
     exact zg ⟨z',rfl,hs.sub⟩
    ·rintro _ w2 ⟨z',rfl,hs⟩
     refine zm ?_
     refine z0d hs λw' hs=>?_
     exact zg ⟨z',hs.sub⟩
   ·rw [if_neg λhh=>h3 (hnew.1 hh)]
    exact zg ⟨z,hs⟩
  rintro _ w2 ⟨z',hs⟩
  refine zm ?_
  refine za hs ?_
  refine zm ?_
  have e:(if t>X.late then t else X.late)=max X.late t:=by split <;> omega
  rw [e]
  have hA:(Addr.add ⟨b,0,none⟩ 0)=⟨b,0,none⟩:=rfl
  rw [hA]
  refine z01x hs (by rfl) (by rfl) (by simp [Value.oneCell']) λw' hs=>⟨trivial,?_⟩
  refine ⟨rfl,rfl,?_⟩
  exact z6y ⟨o,p,max X.late t,X.gap,z3n X o p⟩ (z:=z') hok2 hs
theorem zn7 (i:Int) (hi:i<X.l.length) [hf:Fo l z1y b X r] (hs:Sat w l) :
  Ret P F.a28 #[.pointer (some ⟨b,0,none⟩),.int .i64 i] w λvs w'=>vs=[.agg (z20 (if i<0 then ⟨0,0,0⟩ else X.l.getD i.toNat ⟨0,0,0⟩)).toArray,.bool (decide (0<=i))]/\Sat w' (z1y b X::r) :=
 zpi _ i <| by
  unfold z01s
  have hs:=hs.perm hf.perm
  refine zv hs λa w' hs=>?_
  refine zf (λh=>?_) λh=>?_
  ·refine zx hs λw' hs=>?_
   refine zr hs ?_
   rw [if_pos h]
   refine ⟨rfl,?_,hs.tail⟩
   rw [decide_eq_false (by omega)]
   rfl
  ·refine zm ?_
   obtain ⟨z,hok,hs⟩:=zar (hs.pick [1])
   refine za hs ?_
   refine z1n hs (xs:=X.l) (enc:=z20) i.toNat (by omega) ?_
   refine zx hs λw' hs=>?_
   refine zr hs ?_
   rw [if_neg h]
   refine ⟨rfl,?_,z6y X (z:=z) hok hs.sub⟩
   rw [decide_eq_true (by omega),List.getD_eq_getElem?_getD,List.getElem?_eq_getElem (by omega)]
   rfl
theorem zeq (n : Nat) (hn : n < 4611686018427387904) (f : FuncId) (cap : Array Value) (p : Nat → Bool) (hok : (P.funcs[f]?).any (fun fn => fn.body.isSome && fn.name != "runtime.NumGoroutine") = true)
  (hp:∀ (i:Nat) (w:World),i<n->Sat w l->Ret P f (#[.int .i64 (i:Int)]++cap) w λvs w'=>vs=[.bool (p i)]/\Sat w' l) (hs:Sat w l) :
  Ret P F.a101 #[.int .i64 (n:Int),.func (.func f) #[] cap] w λvs w'=>∃ i:Nat,i<=n/\(0<i->p (i-1)=false)/\(i<n->p i=true)/\vs=[.int .i64 (i:Int)]/\Sat w' l :=
 zlo _ _ <| by
  unfold zxa
  refine wp_lt ?_
  refine zn (λq w'=>∃ i:Nat,i<=n/\(0<i->p (i-1)=false)/\(i<n->p i=true)/\q=((i:Int),())/\Sat w' l) ?_ ?_
  rotate_left
  ·rintro _ w' ⟨i,h1,h2,h3,rfl,hs⟩
   refine wp_lt ?_
   exact ⟨rfl,i,h1,h2,h3,rfl,hs⟩
  refine z06 (λm v w=>∃ i j:Nat,v=((i:Int),((j:Int),()))/\i<=j/\j<=n/\j-i=m/\(0<i->p (i-1)=false)/\(j<n->p j=true)/\Sat w l) n ⟨0,n,rfl,by omega,by omega,rfl,(λh=>by omega),(λh=>by omega),hs⟩ ?_
  clear hs
  rintro m _ w ⟨i,j,rfl,hij,hjn,hm,h1,h2,hs⟩
  refine zl ?_
  refine zf (λhc=>?_) λhc=>?_
  rotate_left
  ·have:i=j:=by omega
   subst this
   exact zk (zg ⟨i,hjn,h1,h2,rfl,hs⟩)
  have hc:i<j:=by omega
  have e:IntKind.wrap .i64 (Int.fdiv (IntKind.wrap .u64 (IntKind.wrap .i64 ((i:Int)+j))) 2)=(((i+j) / 2:Nat):Int):=by
   rw [w64 (x:=(i:Int)+j) (by omega) (by omega),zk6 (by omega) (by omega)]
   have:Int.fdiv ((i:Int)+j) 2=(((i+j) / 2:Nat):Int):=by
    rw [Int.fdiv_eq_ediv_of_nonneg _ (by omega)]
    omega
   rw [this,w64 (by omega) (by omega)]
  refine z1k (y:=(((i+j) / 2:Nat):Int)) ?_ e
  refine zs7 hok (p ((i+j) / 2),()) (hp ((i+j) / 2) w (by omega) hs) rfl λw' hs=>⟨trivial,?_⟩
  refine zl ?_
  refine z4l ?_
  refine zf (λh3=>?_) λh3=>?_
  ·have h3:p ((i+j) / 2)=false:=by simpa using h3
   refine z1k (y:=(((i+j) / 2+1:Nat):Int)) ?_ (by rw [w64 (by omega) (by omega)];omega)
   refine z3t ?_
   refine z0l (j-((i+j) / 2+1)) ⟨(i+j) / 2+1,j,rfl,by omega,hjn,rfl,λ_=>by rw [Nat.add_sub_cancel];exact h3,h2,hs⟩
  ·have h3:p ((i+j) / 2)=true:=by simpa using h3
   refine wp_lt ?_
   refine z3t ?_
   refine z0l ((i+j) / 2-i) ⟨i,(i+j) / 2,rfl,by omega,by omega,rfl,h1,λ_=>h3,hs⟩
theorem zzb (i:Nat) (a0 a1:Nat) (o:Int) {r1 r2:List HP} {z:Sl} (hi:i<X.l.length) [h0:FocB l a0 (.cells [.pointer (some ⟨b,0,none⟩)].toArray T.a15) r1] [h1:FocB l a1 (.cells [.int .i64 o].toArray T.a11) r2]
  [h2:FocB l b (.cells [.int .i64 X.offset,.int .i64 X.place,.int .i64 X.late,.int .i64 X.gap,.slice z.a z.len z.cap].toArray T.a8) r] [h3:FocR l z 3 (X.l.flatMap z20)] (hs:Sat w l) :
  Ret P F.a26 #[.int .i64 (i:Int),.pointer (some ⟨a0,0,none⟩),.pointer (some ⟨a1,0,none⟩)] w λvs w'=>vs=[.bool (decide (X.l[i].offset>o))]/\Sat w' l :=
 zrt _ _ _ <| by
  unfold z02i
  refine z0a hs λw' hs=>?_
  refine za hs ?_
  refine zm ?_
  refine za hs ?_
  refine z92 hs (xs:=X.l) (enc:=z20) i hi ?_
  refine za hs ?_
  refine wp_lt ?_
  refine zj ?_
  exact ⟨rfl,rfl,hs⟩
theorem zuv (i:Nat) (a0 a1:Nat) (o:Int) {r1 r2:List HP} {z:Sl} (hi:i<X.l.length) [h0:FocB l a0 (.cells [.pointer (some ⟨b,0,none⟩)].toArray T.a15) r1] [h1:FocB l a1 (.cells [.int .i64 o].toArray T.a11) r2]
  [h2:FocB l b (.cells [.int .i64 X.offset,.int .i64 X.place,.int .i64 X.late,.int .i64 X.gap,.slice z.a z.len z.cap].toArray T.a8) r] [h3:FocR l z 3 (X.l.flatMap z20)] (hs:Sat w l) :
  Ret P F.a24 #[.int .i64 (i:Int),.pointer (some ⟨a0,0,none⟩),.pointer (some ⟨a1,0,none⟩)] w λvs w'=>vs=[.bool (decide (X.l[i].before>=o))]/\Sat w' l :=
 zqs _ _ _ <| by
  unfold z03i
  refine z0a hs λw' hs=>?_
  refine za hs ?_
  refine zm ?_
  refine za hs ?_
  refine z92 hs (xs:=X.l) (enc:=z20) i hi ?_
  refine za hs ?_
  refine wp_lt ?_
  refine zj ?_
  exact ⟨rfl,rfl,hs⟩
def orE (o:Option EntA):EntA:=o.getD ⟨0,0,0⟩
theorem zi1 {l:List EntA} {i:Nat} (hi:i<=l.length):(if ((i:Int)-1)<0 then (⟨0,0,0⟩:EntA) else l.getD ((i:Int)-1).toNat ⟨0,0,0⟩)=orE (l.take i).getLast? /\ decide (0<=(i:Int)-1)=(l.take i).getLast?.isSome:=by
 rw [zi4 hi]
 by_cases h:i=0
 ·subst h;exact ⟨rfl,rfl⟩
 ·rw [if_neg h,if_neg (by omega),List.getD_eq_getElem?_getD,show ((i:Int)-1).toNat=i-1 by omega,List.getElem?_eq_getElem (by omega)]
  exact ⟨rfl,decide_eq_true (by omega)⟩
theorem z00e (o:Int) (hm:X.l.Pairwise λa b=>a.offset<b.offset) [hf:Fo l z1y b X r] (hs:Sat w l) :
  Ret P F.a25 #[.pointer (some ⟨b,0,none⟩),.int .i64 o] w λvs w'=>vs=[.agg (z20 (orE (z3o X.l o))).toArray,.bool (z3o X.l o).isSome]/\Sat w' (z1y b X::r) :=
 zp7 _ o <| by
  unfold z03g
  have hs:=hs.perm hf.perm
  refine z02 hs λa0 w' hs=>?_
  refine z02 hs λa1 w' hs=>?_
  refine zv hs λa2 w' hs=>?_
  refine za hs ?_
  refine z0g ?_ (by simp)
  refine zn (λq w'=>q=((z3o X.l o).isSome,())/\Sat w' (pt a2 (.cells [.int .i64 (orE (z3o X.l o)).offset,.int .i64 (orE (z3o X.l o)).place,.int .i64 (orE (z3o X.l o)).before].toArray T.a7)::z1y b X::r)) ?_ ?_
  rotate_left
  ·rintro _ w2 ⟨rfl,hs⟩
   refine zr hs ?_
   exact ⟨rfl,rfl,hs.tail⟩
  obtain ⟨z,hok,hs⟩:=zar (hs.pick [3])
  have hl:=hs.slen z (xs:=X.l) (enc:=z20)
  have hlen:=hok.len
  have hpl:=hok.place
  refine z0a hs λw' hs=>?_
  refine z1e hs ?_
  refine za hs ?_
  refine zm ?_
  refine za hs ?_
  rw [hl]
  refine zb (zeq X.l.length (by omega) F.a26 #[.pointer (some ⟨a0,0,none⟩),.pointer (some ⟨a1,0,none⟩)] (λi=>decide ((X.l.getD i ⟨0,0,0⟩).offset>o)) (by kernel_rfl) (λi w hi hs=>?_) hs) λ_ w' hs=>?_
  ·have e:X.l.getD i ⟨0,0,0⟩=X.l[i]:=by rw [List.getD_eq_getElem?_getD,List.getElem?_eq_getElem hi];rfl
   simp only [e]
   exact zzb (X:=X) i a0 a1 o hi hs
  obtain ⟨i,hi,h1,h2,rfl,hs⟩:=hs
  refine zd ?_ (by first|trivial|(repeat (first|exact trivial|exact λ_=>z0i hs|exact λ_=>z0n hs|refine And.intro ?_ ?_)))
  refine zj ?_
  rw [w64 (by omega) (by omega)]
  replace hs:Sat _ (z1y b X::pt a2 (.cells [.int .i64 0,.int .i64 0,.int .i64 0].toArray T.a7)::pt a0 (.cells [.pointer (some ⟨b,0,none⟩)].toArray T.a15)::r):=z6y X (z:=z) hok hs.sub
  refine zb (zn7 (b:=b) ((i:Int)-1) (by omega) hs) λ_ w' hs=>?_
  obtain ⟨rfl,hs⟩:=hs
  have hcut:z3o X.l o=(X.l.take i).getLast? := by
   unfold z3o
   rw [zfe hi (hm.imp λ{a b} hab=>by simp only [decide_eq_true_eq];omega)]
   ·intro h h0
    have:=h1 h0
    rw [List.getD_eq_getElem?_getD,List.getElem?_eq_getElem h] at this
    have:decide (X.l[i-1].offset>o)=false:=this
    simpa using this
   ·intro h
    have:=h2 h
    rw [List.getD_eq_getElem?_getD,List.getElem?_eq_getElem h] at this
    have:decide (X.l[i].offset>o)=true:=this
    simpa using this
  obtain ⟨c1_,c2_⟩:=zi1 (l:=X.l) hi
  rw [c1_,c2_,<- hcut]
  refine ⟨((orE (z3o X.l o)).offset,(orE (z3o X.l o)).place,(orE (z3o X.l o)).before,(z3o X.l o).isSome,()),rfl,(by first|trivial|(repeat (first|exact trivial|exact λ_=>z0i hs|exact λ_=>z0n hs|refine And.intro ?_ ?_))),zg0 _ _ _ _ ?_⟩
  refine zx hs λw' hs=>?_
  refine wp_lt ?_
  refine zj ?_
  exact zg ⟨rfl,hs.sub⟩
theorem zyj (o:Int) (hm:X.l.Pairwise λa b=>a.before<=b.before) [hf:Fo l z1y b X r] (hs:Sat w l) :
  Ret P F.a23 #[.pointer (some ⟨b,0,none⟩),.int .i64 o] w λvs w'=>vs=[.agg (z20 (orE (z1f X.l o))).toArray,.bool (z1f X.l o).isSome]/\Sat w' (z1y b X::r) :=
 zpv _ o <| by
  unfold z026
  have hs:=hs.perm hf.perm
  refine z02 hs λa0 w' hs=>?_
  refine z02 hs λa1 w' hs=>?_
  refine zv hs λa2 w' hs=>?_
  refine za hs ?_
  refine z0g ?_ (by simp)
  refine zn (λq w'=>q=((z1f X.l o).isSome,())/\Sat w' (pt a2 (.cells [.int .i64 (orE (z1f X.l o)).offset,.int .i64 (orE (z1f X.l o)).place,.int .i64 (orE (z1f X.l o)).before].toArray T.a7)::z1y b X::r)) ?_ ?_
  rotate_left
  ·rintro _ w2 ⟨rfl,hs⟩
   refine zr hs ?_
   exact ⟨rfl,rfl,hs.tail⟩
  obtain ⟨z,hok,hs⟩:=zar (hs.pick [3])
  have hl:=hs.slen z (xs:=X.l) (enc:=z20)
  have hlen:=hok.len
  have hpl:=hok.place
  refine z0a hs λw' hs=>?_
  refine z1e hs ?_
  refine za hs ?_
  refine zm ?_
  refine za hs ?_
  rw [hl]
  refine zb (zeq X.l.length (by omega) F.a24 #[.pointer (some ⟨a0,0,none⟩),.pointer (some ⟨a1,0,none⟩)] (λi=>decide ((X.l.getD i ⟨0,0,0⟩).before>=o)) (by kernel_rfl) (λi w hi hs=>?_) hs) λ_ w' hs=>?_
  ·have e:X.l.getD i ⟨0,0,0⟩=X.l[i]:=by rw [List.getD_eq_getElem?_getD,List.getElem?_eq_getElem hi];rfl
   simp only [e]
   exact zuv (X:=X) i a0 a1 o hi hs
  obtain ⟨i,hi,h1,h2,rfl,hs⟩:=hs
  refine zd ?_ (by first|trivial|(repeat (first|exact trivial|exact λ_=>z0i hs|exact λ_=>z0n hs|refine And.intro ?_ ?_)))
  refine zj ?_
  rw [w64 (by omega) (by omega)]
  replace hs:Sat _ (z1y b X::pt a2 (.cells [.int .i64 0,.int .i64 0,.int .i64 0].toArray T.a7)::pt a0 (.cells [.pointer (some ⟨b,0,none⟩)].toArray T.a15)::r):=z6y X (z:=z) hok hs.sub
  refine zb (zn7 (b:=b) ((i:Int)-1) (by omega) hs) λ_ w' hs=>?_
  obtain ⟨rfl,hs⟩:=hs
  have hcut:z1f X.l o=(X.l.take i).getLast? := by
   unfold z1f
   rw [zfe hi (hm.imp λ{a b} hab=>by simp only [decide_eq_true_eq];omega)]
   ·intro h h0
    have:=h1 h0
    rw [List.getD_eq_getElem?_getD,List.getElem?_eq_getElem h] at this
    have:decide (X.l[i-1].before>=o)=false:=this
    simpa using this
   ·intro h
    have:=h2 h
    rw [List.getD_eq_getElem?_getD,List.getElem?_eq_getElem h] at this
    have:decide (X.l[i].before>=o)=true:=this
    simpa using this
  obtain ⟨c1_,c2_⟩:=zi1 (l:=X.l) hi
  rw [c1_,c2_,<- hcut]
  refine ⟨((orE (z1f X.l o)).offset,(orE (z1f X.l o)).place,(orE (z1f X.l o)).before,(z1f X.l o).isSome,()),rfl,(by first|trivial|(repeat (first|exact trivial|exact λ_=>z0i hs|exact λ_=>z0n hs|refine And.intro ?_ ?_))),zg0 _ _ _ _ ?_⟩
  refine zx hs λw' hs=>?_
  refine wp_lt ?_
  refine zj ?_
  exact zg ⟨rfl,hs.sub⟩
end
structure SegM where
 ix:Nat
 s:SegA
structure LogM where
 d:Nat
 pre:ByteArray
 seg:Int
 gap:Int
 z:Sl
 SM:List (Nat × SegM)
structure LogA where
 d:Nat
 pre:ByteArray
 seg:Int
 gap:Int
 l:List SegA
def LogM.l (M:LogM):List SegA:=M.SM.map λt=>t.2.s
def LogM.A (M:LogM):LogA:=⟨M.d,M.pre,M.seg,M.gap,M.l⟩
def z0f (b:Nat):List Value:=[.pointer (some ⟨b,0,none⟩)]
instance:Enc1 z0f .ptr (λb=>some ⟨b,0,none⟩):=⟨λ_=>rfl⟩
instance:EncN z0f 1:=⟨λ_=>rfl,by decide,by simp [z0f,Value.oneCell']⟩
def zy (gap:Int) (a:Nat) (t:SegM):HP:=HP.star (pt a (.cells #[.pointer (some ⟨t.ix,0,none⟩),.int .i64 t.s.base,.int .i64 t.s.fin,.int .i64 (z05 t.s.bs),.int .i64 (z0y (-1) t.s.bs),.int .i64 (t.s.file.length:Nat)] T.a31)) (z1y t.ix (t.s.idx gap))
structure okM (gap seg:Int) (pre:ByteArray):Prop where
 gap:1<=gap/\gap<=4194304
 seg:64<=seg/\seg<=4194304
 pre:z49 pre=true
def lgQ (lg:Nat) (M:LogM):HP:=HP.and (okM M.gap M.seg M.pre) (HP.star (pt lg (.cells #[.pointer (some ⟨M.d,0,none⟩),.string M.pre,.int .i64 M.seg,.int .i64 M.gap,.slice M.z.a M.z.len M.z.cap] T.a30))
 (HP.star (slc T.a17 1 M.z ((M.SM.map Prod.fst).flatMap z0f)) (HP.all (M.SM.map λt=>zy M.gap t.1 t.2))))
def lgP (lg:Nat) (A:LogA):HP:=HP.ex λM:LogM=>HP.and (M.A=A) (lgQ lg M)
def zvk:Option Nat->Option Addr
 | none=>none
 | some b=>some ⟨b,0,none⟩
section
variable {w:World} {l r:List HP} {lg:Nat} {M:LogM} {A:LogA} {gap:Int} {a:Nat} {t:SegM}
theorem z1s (hs:Sat w (zy gap a t::l)):Sat w (pt a (.cells #[.pointer (some ⟨t.ix,0,none⟩),.int .i64 t.s.base,.int .i64 t.s.fin,.int .i64 (z05 t.s.bs),.int .i64 (z0y (-1) t.s.bs),.int .i64 (t.s.file.length:Nat)] T.a31)::z1y t.ix (t.s.idx gap)::l):=hs.star
theorem z1c (t:SegM) (hs:Sat w (pt a (.cells #[.pointer (some ⟨t.ix,0,none⟩),.int .i64 t.s.base,.int .i64 t.s.fin,.int .i64 (z05 t.s.bs),.int .i64 (z0y (-1) t.s.bs),.int .i64 (t.s.file.length:Nat)] T.a31)::z1y t.ix (t.s.idx gap)::l)):Sat w (zy gap a t::l):=.star_mk hs
theorem z26 (hs:Sat w (lgQ lg M::l)):okM M.gap M.seg M.pre/\Sat w (pt lg (.cells #[.pointer (some ⟨M.d,0,none⟩),.string M.pre,.int .i64 M.seg,.int .i64 M.gap,.slice M.z.a M.z.len M.z.cap] T.a30)::slc T.a17 1 M.z ((M.SM.map Prod.fst).flatMap z0f)::HP.all (M.SM.map λt=>zy M.gap t.1 t.2)::l):=by
 obtain ⟨h,hs⟩:=hs.and
 have hs:=hs.star
 exact ⟨h,((hs.pick [1]).star).pick [2]⟩
theorem z0v (M:LogM) (h:okM M.gap M.seg M.pre) (hs:Sat w (pt lg (.cells #[.pointer (some ⟨M.d,0,none⟩),.string M.pre,.int .i64 M.seg,.int .i64 M.gap,.slice M.z.a M.z.len M.z.cap] T.a30)::slc T.a17 1 M.z ((M.SM.map Prod.fst).flatMap z0f)::HP.all (M.SM.map λt=>zy M.gap t.1 t.2)::l)):Sat w (lgQ lg M::l):=by
 refine .and_mk h (.star_mk ?_)
 exact ((hs.pick [1,1]).star_mk).pick [1]
theorem z4b (hs:Sat w (lgP lg A::l)):∃ M:LogM,M.A=A/\Sat w (lgQ lg M::l):=by
 obtain ⟨M,hs⟩:=hs.ex
 obtain ⟨h,hs⟩:=hs.and
 exact ⟨M,h,hs⟩
theorem z2i (M:LogM) (hs:Sat w (lgQ lg M::l)):Sat w (lgP lg M.A::l):=.ex_mk M (.and_mk rfl hs)
theorem zhy:∀ (j n:Nat),z37 (j+1) n=z5g (n / 16 ^ j % 16)::z37 j n
 | 0,n=>by simp [z37]
 | j+1,n=>by
  show z37 (j+1) (n / 16)++[z5g (n % 16)]=_
  rw [zhy j (n / 16)]
  have e:n / 16 / 16 ^ j=n / 16 ^ (j+1):=by rw [Nat.div_div_eq_div_mul,Nat.pow_succ,Nat.mul_comm]
  rw [e]
  rfl
theorem zz2 (k:Nat) (c:UInt8):∀ (xs:List UInt8),(List.replicate (k+1) (0:UInt8)++xs).set k c=List.replicate k 0++c::xs:=by
 induction k with
 | zero=>intro xs;rfl
 | succ k ih=>intro xs;rw [List.replicate_succ,List.cons_append,List.set_cons_succ,ih,List.replicate_succ,List.cons_append]
theorem z03z (n:Nat) (h:n<18446744073709551616):BitVec.toNat (BitVec.ofInt 64 (n:Int) &&& BitVec.ofInt 64 15)=n % 16:=by
 rw [BitVec.ofInt_natCast,BitVec.toNat_and,BitVec.toNat_ofNat,Nat.mod_eq_of_lt h]
 show n &&& 15=n % 16
 exact Nat.and_two_pow_sub_one_eq_mod n 4
theorem z01y {k:Nat} (h:k<16):bt (ByteArray.mk #[48,49,50,51,52,53,54,55,56,57,97,98,99,100,101,102]) (k:Int)=(((z5g k).toNat:Nat):Int):=by
 have:∀ k:Fin 16,bt (ByteArray.mk #[48,49,50,51,52,53,54,55,56,57,97,98,99,100,101,102]) (k.val:Int)=(((z5g k.val).toNat:Nat):Int):=by decide +kernel
 exact this ⟨k,h⟩
theorem z012 {P:Program} {t el:TypeId} {bytes:Nat} {Q:Post} {S:World->Prop} {k:Sl->Prog} [ht:SlT P t el 1 bytes] [hz:Zer P el (.int .u8 0)] (n:Nat) (hs:Sat w l) (h:∀ x w',Sat w' (slc el 1 x ((List.replicate n (0:UInt8)).flatMap zh)::l)->(k x).wp P S w' Q) (hb:n*bytes<=281474976710656/\n<=9223372036854775807) (hS:∀ w',S w':=by exact λ_=>trivial) :
  (Prog.act (Instr.makeSlice t (.int .i64 (n:Int)) (.int .i64 (n:Int))) sL (u1 k)).wp P S w Q:=by
 obtain ⟨i,z,hi,h2,h3,h4,h5⟩:=ht.parts
 have hz':z=.int .u8 0:=by
  have:=hz.ok
  unfold z96 at this
  rw [hi] at this
  simp only at this
  rw [h4] at this
  exact Option.some.inj this
 have hrun:=run_make (P:=P) w t el i z ht.ok.1 hi h4 .i64 .i64 n n (by omega) (Int.le_refl _) (by rw [h3,<- Int.natCast_mul,Nat.mul_comm];omega) (by omega)
 simp only [Int.toNat_natCast] at hrun
 have hp:=hs.push (o:=.cells (madeCells z.cells (n*i.size)) el) (w':=w.alloc (.cells (madeCells z.cells (n*i.size)) el)) rfl
 refine ⟨(⟨some ⟨w.heap.size,0,none⟩,n,n⟩,()),_,hrun,hS _,h ⟨some ⟨w.heap.size,0,none⟩,n,n⟩ _ ?_⟩
 refine hp.imp λp hp=>.inr ⟨w.heap.size,0,_,_,rfl,hp,by rw [z4d,List.length_replicate],Nat.le_refl _,by rw [size_madeCells,h2];simp,λj hj=>?_,z32 _ _⟩
 rw [z4d,List.length_replicate,Nat.mul_one] at hj
 rw [h2,Nat.mul_one,Nat.zero_add,z9p,hz']
 have e1:(madeCells (Value.int .u8 0).cells n)[j]? = some (.int .u8 0):=by
  rw [Array.getElem?_eq_getElem (by rw [size_madeCells];exact hj)]
  simp [madeCells,Value.cells,Nat.mod_one]
 rw [e1,List.getElem?_map,List.getElem?_replicate,if_pos hj]
 rfl
theorem z4m (base:Int) (h:0<=base/\base<17592186044416) (x:ByteArray) (hx:x.size<=100) {d_:Value} {seg gp:Value} {zz:Value} (pre:ByteArray) (hp:pre.size<=100) [hf:FocB l lg (.cells [d_,.string pre,seg,gp,zz].toArray T.a30) r] (hs:Sat w l) :
  Ret P F.a70 #[.pointer (some ⟨lg,0,none⟩),.int .i64 base,.string x] w λvs w'=>vs=[.string (ze pre base (bl x))]/\Sat w' l :=
 zow _ base x <| by
  unfold z025
  refine z012 11 hs (λz w' hs=>?_) (by omega)
  refine zn (λ_ w'=>Sat w' (slc T.a39 1 z ((z37 11 base.toNat).flatMap zh)::l)) ?_ ?_
  ·refine z06 (λm v w=>∃ j:Nat,v=(((base.toNat / 16 ^ j:Nat):Int),((10-(j:Int)),()))/\j<=11/\11-j=m/\Sat w (slc T.a39 1 z ((List.replicate (11-j) 0++z37 j base.toNat).flatMap zh)::l)) 11 ⟨0,by rw [Nat.pow_zero,Nat.div_one,Int.toNat_of_nonneg h.1];rfl,by omega,rfl,by simpa [z37] using hs⟩ ?_
   clear hs
   rintro m _ w ⟨j,rfl,hj,hm,hs⟩
   refine zl ?_
   refine zf (λhc=>?_) λhc=>?_
   rotate_left
   ·have:j=11:=by omega
    subst this
    exact zk (zg (by simpa using hs))
   have hj2:j<=10:=by omega
   have hb:base.toNat / 16 ^ j<18446744073709551616:=by
    have:=Nat.div_le_self base.toNat (16 ^ j)
    omega
   have hmod:=Nat.mod_lt (base.toNat / 16 ^ j) (show 0<16 by omega)
   rw [z03z _ hb,w64 (by omega) (by omega)]
   refine wp_must (by omega) ?_
   rw [z01y hmod]
   refine z02e hs (xs:=List.replicate (11-j) 0++z37 j base.toNat) (enc:=zh) (10-j) (by rw [List.length_append,List.length_replicate];omega) (z5g (base.toNat / 16 ^ j % 16)) λw' hs=>?_
   refine z1k (y:=((base.toNat / 16 ^ (j+1):Nat):Int)) ?_ ?_
   ·refine z1k (y:=10-((j+1:Nat):Int)) ?_ (by rw [w64 (by omega) (by omega)];omega)
    refine z0l (11-(j+1)) ⟨j+1,rfl,by omega,rfl,?_⟩
    have e:=zz2 (10-j) (z5g (base.toNat / 16 ^ j % 16)) (z37 j base.toNat)
    rw [show 10-j+1=11-j by omega] at e
    rw [e,<- zhy] at hs
    rw [show 11-(j+1)=10-j by omega]
    exact hs
   ·rw [z6w _ (by omega)]
    show ((base.toNat / 16 ^ j / 16:Nat):Int)=_
    rw [Nat.div_div_eq_div_mul,<- Nat.pow_succ]
  clear hs
  rintro _ w hs
  refine zl ?_
  refine z0a hs λw' hs=>?_
  refine zm ?_
  refine za hs ?_
  refine wp_must (by omega) ?_
  refine zsx (bs:=z37 11 base.toNat) hs ?_
  have h11:=z6d 11 base.toNat
  have s1:(pre++ByteArray.mk #[45]).size=pre.size+1:=ByteArray.size_append ..
  have s2:(ByteArray.mk (z37 11 base.toNat).toArray).size=11:=h11
  refine wp_must (by omega) ?_
  have s3:(pre++ByteArray.mk #[45]++ByteArray.mk (z37 11 base.toNat).toArray).size=pre.size+12:=by rw [ByteArray.size_append,s1,s2]
  refine wp_must (by omega) ?_
  refine wp_lt ?_
  refine zj ?_
  refine ⟨rfl,?_,hs.tail⟩
  congr 2
  apply zcf
  rw [z5u]
  unfold bl
  simp only [ByteArray.data_append,Array.toList_append,List.append_assoc]
  rfl
theorem z047 {a d:Nat} (hd:d<16) (ha:a<576460752303423488):BitVec.toNat (BitVec.ofInt 64 ((a:Int)*16) ||| BitVec.ofInt 64 (d:Int))=16*a+d:=by
 have e:(a:Int)*16=((16*a:Nat):Int):=by omega
 rw [e,BitVec.ofInt_natCast,BitVec.ofInt_natCast,BitVec.toNat_or,BitVec.toNat_ofNat,BitVec.toNat_ofNat,Nat.mod_eq_of_lt (show 16*a<2 ^ 64 by omega),Nat.mod_eq_of_lt (show d<2 ^ 64 by omega)]
 exact (Nat.two_pow_add_eq_or_of_lt (i:=4) hd a).symm
theorem zgj:∀ {r:List UInt8} {x v k:Nat},z41 x r=some v->x<16 ^ k->v<16 ^ (k+r.length)
 | [],x,v,k,h,hx=>by simp [z41] at h;subst h;simpa using hx
 | c::r,x,v,k,h,hx=>by
  unfold z41 at h
  cases hd:z5t c with
  | none=>rw [hd] at h;cases h
  | some d =>
   rw [hd] at h
   have hd:=(z01d hd).2
   have:=zgj (k:=k+1) h (by rw [Nat.pow_succ];omega)
   rw [List.length_cons,show k+(r.length+1)=k+1+r.length by omega]
   exact this
theorem zb5 (s:ByteArray) (i j:Nat):bl (s.extract i j)=((bl s).drop i).take (j-i):=by
 unfold bl
 rw [ByteArray.data_extract,Array.toList_extract,List.extract_eq_take_drop]
theorem znn (n x:ByteArray) (hn:n.size<=1000) (hx:x.size<=100) {d_:Value} {seg gp:Value} {zz:Value} (pre:ByteArray) (hp:pre.size<=100) [hf:FocB l lg (.cells [d_,.string pre,seg,gp,zz].toArray T.a30) r] (hs:Sat w l) :
  Ret P F.a64 #[.pointer (some ⟨lg,0,none⟩),.string n,.string x] w λvs w'=>vs=[.int .i64 (((z1o pre n (bl x)).getD 0:Nat):Int),.bool (z1o pre n (bl x)).isSome]/\Sat w' l :=
 zr1 _ n x <| by
  unfold z03d
  refine zm ?_
  refine za hs ?_
  have e1:IntKind.wrap .i64 (((ByteArray.size pre:Nat):Int)+1)=((pre.size+1:Nat):Int):=by rw [w64 (by omega) (by omega)];omega
  have e2:IntKind.wrap .i64 (((pre.size+1:Nat):Int)+11)=((pre.size+12:Nat):Int):=by rw [w64 (by omega) (by omega)];omega
  have e3:IntKind.wrap .i64 (((pre.size+12:Nat):Int)+((ByteArray.size x:Nat):Int))=((pre.size+12+x.size:Nat):Int):=by rw [w64 (by omega) (by omega)];omega
  rw [e1]
  refine wp_lt ?_
  rw [e2,e3]
  refine wp_must ?_ ?_
  ·intro h
   have h:((n.size:Nat):Int)=((pre.size+12+x.size:Nat):Int):=by simpa using h
   omega
  have hb:z1o pre n (bl x)=if n.size=pre.size+12+x.size/\(bl n).drop (pre.size+12)=bl x then z41 0 (((bl n).drop (pre.size+1)).take 11) else none:=by
   unfold z1o
   rw [z0z,z0z,z0z]
  refine zf (λh=>?_) λh=>?_
  ·have:z1o pre n (bl x)=none:=by
    rw [hb,if_neg]
    rintro ⟨h1,h2⟩
    rcases h with h|h
    ·apply h;rw [h1]
    ·apply h
     rw [Int.toNat_natCast]
     apply zcf
     rw [zb5,h2,List.take_of_length_le]
     rw [z0z];omega
   rw [this]
   exact ⟨rfl,rfl,hs⟩
  have h1:n.size=pre.size+12+x.size:=by
   have:¬ (((n.size:Nat):Int)≠((pre.size+12+x.size:Nat):Int)):=λhh=>h (.inl hh)
   omega
  have h2:(bl n).drop (pre.size+12)=bl x:=by
   have h3:ByteArray.extract n (pre.size+12) n.size=x:=by
    apply Decidable.byContradiction
    intro hh
    exact h (.inr (by rw [Int.toNat_natCast];exact hh))
   rw [<- h3,zb5,List.take_of_length_le]
   rw [List.length_drop,z0z];omega
  rw [if_pos ⟨h1,h2⟩] at hb
  refine wp_must (by omega) ?_
  rw [Int.toNat_natCast,Int.toNat_natCast]
  have h4:(ByteArray.extract n (pre.size+1) (pre.size+12)).data.toList=((bl n).drop (pre.size+1)).take 11:=by
   have:=zb5 n (pre.size+1) (pre.size+12)
   rw [show pre.size+12-(pre.size+1)=11 by omega] at this
   exact this
  refine zjg hs λy w' hs=>?_
  rw [h4] at hs
  generalize hcs:((bl n).drop (pre.size+1)).take 11=cs at *
  have hcl:cs.length=11:=by rw [<- hcs,List.length_take,List.length_drop,z0z];omega
  have hl:=hs.slen y (xs:=cs) (enc:=zh)
  rw [hb]
  refine zn (λq w'=>∃ v:Nat,z41 0 cs=some v/\q=((v:Int),())/\Sat w' l) ?_ ?_
  rotate_left
  ·rintro _ w2 ⟨v,hv,rfl,hs⟩
   refine wp_lt ?_
   rw [hv]
   exact ⟨rfl,rfl,hs⟩
  refine z06 (λm q w=>∃ i v:Nat,q=((v:Int),((i:Int),()))/\i<=11/\11-i=m/\z41 0 (cs.take i)=some v/\Sat w (slc T.a39 1 y (cs.flatMap zh)::l)) 11 ⟨0,0,rfl,by omega,rfl,rfl,hs⟩ ?_
  clear hs
  rintro m _ w ⟨i,v,rfl,hi,hm,hv,hs⟩
  refine zl ?_
  refine zf (λhc=>?_) λhc=>?_
  rotate_left
  ·refine zk (zg ⟨v,?_,rfl,hs.tail⟩)
   rwa [List.take_of_length_le (by omega)] at hv
  have hil:i<cs.length:=by omega
  have hvl:=zgj (k:=0) hv (by omega)
  rw [List.length_take] at hvl
  have hvl2:v<1152921504606846976 / 16:=by
   have h5:16 ^ (0+min i cs.length)<=16 ^ 10:=Nat.pow_le_pow_right (by omega) (by omega)
   omega
  have hstep:z41 0 (cs.take (i+1))=(z5t cs[i]).map λd=>16*v+d:=by
   rw [List.take_succ_eq_append_getElem hil,zee,hv]
   show z41 v [cs[i]]=_
   unfold z41
   cases z5t cs[i] <;> rfl
  have hcut:∀ j,z41 0 (cs.take j)=none->z41 0 cs=none:=λj hj=>by
   rw [<- List.take_append_drop j cs,zee,hj];rfl
  refine z1z hs (xs:=cs) (enc:=zh) i hil ?_
  refine wp_lt ?_
  refine wp_lt ?_
  have hgo:∀ {w:World} (d:Nat),z5t cs[i]=some d->Sat w (slc T.a39 1 y (cs.flatMap zh)::l)->∃ i' v':Nat,((((16*v+d:Nat):Int),(((i+1:Nat):Int),())):Int × Int × Unit)=((v':Int),((i':Int),()))/\i'<=11/\11-i'=11-(i+1)/\z41 0 (cs.take i')=some v'/\Sat w (slc T.a39 1 y (cs.flatMap zh)::l):=λd hd hs =>
   ⟨i+1,16*v+d,rfl,by omega,rfl,by rw [hstep,hd];rfl,hs⟩
  have hcb:=(cs[i]).toNat_lt
  have ei:IntKind.wrap .i64 ((i:Int)+1)=((i+1:Nat):Int):=by rw [w64 (by omega) (by omega)];omega
  refine zn (λq w'=>∃ d:Nat,z5t cs[i]=some d/\q=(((16*v+d:Nat):Int),())/\Sat w' (slc T.a39 1 y (cs.flatMap zh)::l)) ?_ ?_
  rotate_left
  ·rintro _ w2 ⟨d,hd,rfl,hs⟩
   rw [ei]
   exact z0l (11-(i+1)) (hgo d hd hs)
  have hor:∀ d:Nat,d<16->IntKind.wrap .i64 (((BitVec.toNat (BitVec.ofInt 64 (IntKind.wrap .i64 ((v:Int)*16)) ||| BitVec.ofInt 64 (d:Int)):Nat):Int))=((16*v+d:Nat):Int):=λd hd=>by
   rw [w64 (x:=(v:Int)*16) (by omega) (by omega),z047 hd (by omega),w64 (by omega) (by omega)]
  refine zf (λh5=>?_) λh5=>?_
  ·have hd:z5t cs[i]=some ((cs[i]).toNat-48):=by unfold z5t;rw [if_pos (by omega)]
   have e5:IntKind.wrap .i64 (IntKind.wrap .u8 ((((cs[i]).toNat:Nat):Int)-48))=(((cs[i]).toNat-48:Nat):Int):=by
    rw [wu8 (by omega) (by omega),w64 (by omega) (by omega)];omega
   rw [e5]
   refine z1k (y:=((16*v+((cs[i]).toNat-48):Nat):Int)) ?_ (hor _ (by omega))
   exact zg ⟨_,hd,rfl,hs⟩
  refine wp_lt ?_
  refine zf (λh6=>?_) λh6=>?_
  ·have hd:z5t cs[i]=some ((cs[i]).toNat-87):=by unfold z5t;rw [if_neg (by omega),if_pos (by omega)]
   have e5:IntKind.wrap .i64 (IntKind.wrap .u8 (IntKind.wrap .u8 ((((cs[i]).toNat:Nat):Int)-97)+10))=(((cs[i]).toNat-87:Nat):Int):=by
    rw [wu8 (x:=(((cs[i]).toNat:Nat):Int)-97) (by omega) (by omega),wu8 (by omega) (by omega),w64 (by omega) (by omega)];omega
   rw [e5]
   refine z1k (y:=((16*v+((cs[i]).toNat-87):Nat):Int)) ?_ (hor _ (by omega))
   exact zg ⟨_,hd,rfl,hs⟩
  ·have hd:z5t cs[i]=none:=by unfold z5t;rw [if_neg (by omega),if_neg (by omega)]
   have hno:z41 0 cs=none:=hcut (i+1) (by rw [hstep,hd];rfl)
   rw [hno]
   exact zk (zk (zk ⟨rfl,rfl,hs.tail⟩))
theorem zcm (base fin:Int) (hb:0<=base/\base<9223372036854775808) (hf:0<=fin/\fin<9223372036854775808) (hs:Sat w l):Ret P F.a78 #[.int .i64 base,.int .i64 fin] w λvs w'=>∃ z:Sl,vs=[z.v]/\Sat w' (slc T.a39 1 z ((shL base fin).flatMap zh)::l) :=
 zq4 base fin <| by
  unfold z00q
  refine z6h hs (enc:=zh) [(83:UInt8)] λz1 w' hs=>?_
  refine zb (z5a base hb hs) λ_ w' hs=>?_
  obtain ⟨z2,rfl,hs⟩:=hs
  refine zd ?_
  refine zb (z5a fin hf hs) λ_ w' hs=>?_
  obtain ⟨z3,rfl,hs⟩:=hs
  refine zd ?_
  refine z6h hs (enc:=z0b) [z1,z2,z3] λz4 w' hs=>?_
  have u1_:=z1a base
  have u2_:=z1a fin
  have f1:FocR (slc T.a28 1 z4 ([z1,z2,z3].flatMap z0b)::slc T.a39 1 z3 ((uI fin).flatMap zh)::slc T.a39 1 z2 ((uI base).flatMap zh)::slc T.a39 1 z1 (([83]:List UInt8).flatMap zh)::l) z1 1 (([83]:List UInt8).flatMap zh):=inferInstance
  have f2:FocR (slc T.a28 1 z4 ([z1,z2,z3].flatMap z0b)::slc T.a39 1 z3 ((uI fin).flatMap zh)::slc T.a39 1 z2 ((uI base).flatMap zh)::slc T.a39 1 z1 (([83]:List UInt8).flatMap zh)::l) z2 1 ((uI base).flatMap zh):=inferInstance
  have f3:FocR (slc T.a28 1 z4 ([z1,z2,z3].flatMap z0b)::slc T.a39 1 z3 ((uI fin).flatMap zh)::slc T.a39 1 z2 ((uI base).flatMap zh)::slc T.a39 1 z1 (([83]:List UInt8).flatMap zh)::l) z3 1 ((uI fin).flatMap zh):=inferInstance
  refine zb (zo6 z4 [(z1,[83]),(z2,uI base),(z3,uI fin)] (λp hp=>?_) (by show 3<=1000000;omega) hs) λ_ w' hs=>?_
  ·simp only [List.mem_cons,List.not_mem_nil,or_false] at hp
   rcases hp with rfl|rfl|rfl
   ·exact ⟨f1,by show (1:Nat)<=_;omega⟩
   ·exact ⟨f2,by show (uI base).length<=_;omega⟩
   ·exact ⟨f3,by show (uI fin).length<=_;omega⟩
  obtain ⟨z5,rfl,hs⟩:=hs
  refine zd ?_
  refine ⟨rfl,z5,rfl,?_⟩
  have e:([(z1,[83]),(z2,uI base),(z3,uI fin)]:List (Sl × List UInt8)).flatMap Prod.snd=shB base fin:=by simp [shB]
  rw [e] at hs
  have hs:Sat _ (slc T.a39 1 z5 ((shL base fin).flatMap zh)::_):=hs
  exact hs.sub
theorem zv1 (x:Sl) (body:List UInt8) (base:Int) (hb:0<=base/\base<9223372036854775808) [hx:FocR l x 1 (body.flatMap zh)] (hn:body.length<=1000000000) (hs:Sat w l) :
  Ret P F.a79 #[x.v,.int .i64 base] w λvs w'=>∃ v:Int,vs=[.int .i64 v,.bool (z5s base body).isSome]/\(∀ f,z5s base body=some f->v=f)/\Sat w' l :=
 zqn x base <| by
  unfold z01m
  refine zb (zts x body hn hs) λ_ w' hs=>?_
  obtain ⟨p,rfl,hs⟩:=hs
  refine zd ?_
  refine zb (zgs (p:=p) hs) λ_ _ hs=>?_
  obtain ⟨rfl,hs⟩:=hs
  refine zd ?_
  refine zb (zgq (p:=p) hs) λ_ _ hs=>?_
  obtain ⟨rfl,hs⟩:=hs
  refine zd ?_
  refine zb (zgq (p:=p) hs) λ_ _ hs=>?_
  obtain ⟨rfl,hs⟩:=hs
  refine zd ?_
  refine wp_lt ?_
  refine wp_lt ?_
  refine wp_lt ?_
  refine zb (zt9 (p:=p) hs) λ_ w' hs=>?_
  obtain ⟨e,rfl,he,hs⟩:=hs
  refine zd ?_
  have eh:z5s base body=if (z0t (z0t (z14 (some body)).2).2).2=some []/\(z14 (some body)).1=83/\((z0t (z14 (some body)).2).1:Int)=base/\base<=1099511627776/\(z0t (z0t (z14 (some body)).2).2).1<=1099511627776/\((z0t (z0t (z14 (some body)).2).2).1=0\/base<(z0t (z0t (z14 (some body)).2).2).1) then some ((z0t (z0t (z14 (some body)).2).2).1:Int) else none:=rfl
  generalize z5s base body=HS at eh he ⊢
  generalize z14 (some body)=k at eh he ⊢
  generalize z0t k.2=m at eh he ⊢
  generalize z0t m.2=q at eh he ⊢
  have ew:IntKind.wrap .u64 base=base:=zk6 (by omega) (by omega)
  rw [ew]
  refine zf (λh=>?_) λh=>?_
  ·have:HS=none:=by
    rw [eh,if_neg]
    rintro ⟨h1,h2,h3,h4,h5,-⟩
    have h6:=he.2 h1
    rcases h with (((h|h)|h)|h)|h
    ·exact h h6
    ·apply h;rw [h2];rfl
    ·exact h h3
    ·omega
    ·omega
   rw [this]
   exact ⟨rfl,0,rfl,(λf hf=>by cases hf),hs⟩
  have h1:q.2=some []:=he.1 (Decidable.byContradiction λhh=>h (.inl (.inl (.inl (.inl hh)))))
  have h2:k.1=83:=by
   have:((k.1:Nat):Int)=83:=Decidable.byContradiction λhh=>h (.inl (.inl (.inl (.inr hh))))
   omega
  have h3:((m.1:Nat):Int)=base:=Decidable.byContradiction λhh=>h (.inl (.inl (.inr hh)))
  have h4:base<=1099511627776:=by
   apply Decidable.byContradiction;intro hh;exact h (.inl (.inr (by omega)))
  have h5:q.1<=1099511627776:=by
   apply Decidable.byContradiction;intro hh;exact h (.inr (by omega))
  rw [w64 (by omega) (by omega)]
  refine wp_lt ?_
  refine wp_lt ?_
  refine ⟨rfl,((q.1:Nat):Int),?_,?_,hs⟩
  ·congr 2
   rw [eh]
   by_cases h6:q.1=0\/base<q.1
   ·rw [if_pos ⟨h1,h2,h3,h4,h5,h6⟩]
    have:(((q.1:Nat):Int) == 0 || decide (((q.1:Nat):Int)>base))=true:=by
     rw [Bool.or_eq_true,beq_iff_eq,decide_eq_true_eq];omega
    rw [this];rfl
   ·rw [if_neg λhh=>h6 hh.2.2.2.2.2]
    have:(((q.1:Nat):Int) == 0 || decide (((q.1:Nat):Int)>base))=false:=by
     rw [Bool.or_eq_false_iff,beq_eq_false_iff_ne,decide_eq_false_iff_not];omega
    rw [this];rfl
  ·intro f hf
   rw [eh] at hf
   split at hf
   ·exact Option.some.inj hf
   ·cases hf
theorem zrn (x:Int) (rs:List RecM) (i:Nat) (hi:i<rs.length):z36 x (rs.take (i+1))=max (z36 x (rs.take i)) rs[i].time:=by
 rw [List.take_succ_eq_append_getElem hi]
 unfold z36
 rw [List.foldl_append]
 rfl
theorem zuh (b:BatM) [hb:FocR l b.x 4 (b.rs.flatMap zw)] (hlen:b.rs.length<=1000000000) (hs:Sat w l):Ret P F.a80 #[.agg (zi b).toArray] w λvs w'=>vs=[.int .i64 (z2l b)]/\Sat w' l :=
 zpq b.base b.pid b.epoch b.seq b.kind b.time b.x <| by
  unfold z01c
  have hl:=hs.slen b.x (xs:=b.rs) (enc:=zw)
  refine z02 hs λa0 w' hs=>?_
  refine za hs ?_
  refine zn (λq w'=>q=(z36 (-1) b.rs,())/\Sat w' (pt a0 (.cells (cB b) T.a1)::l)) ?_ ?_
  ·refine z06 (λm v w=>∃ i:Nat,v=(z36 (-1) (b.rs.take i),((i:Int),()))/\i<=b.rs.length/\b.rs.length-i=m/\Sat w (pt a0 (.cells (cB b) T.a1)::l)) b.rs.length ⟨0,rfl,by omega,rfl,hs⟩ ?_
   clear hs
   rintro m _ w ⟨i,rfl,hi,hm,hs⟩
   refine zl ?_
   refine zf (λhc=>?_) λhc=>?_
   rotate_left
   ·refine zk (zg ⟨?_,hs⟩)
    rw [List.take_of_length_le (by omega)]
   have hil:i<b.rs.length:=by omega
   refine z1n hs (xs:=b.rs) (enc:=zw) i hil ?_
   refine zv hs λc w' hs=>?_
   refine zx hs λw' hs=>?_
   refine za hs ?_
   refine z1k (y:=z36 (-1) (b.rs.take (i+1))) ?_ (by rw [zrn _ _ _ hil];split <;> omega)
   rw [wS (i:=i) (by omega)]
   exact z0l (b.rs.length-(i+1)) ⟨i+1,rfl,by omega,rfl,hs.sub⟩
  clear hs
  rintro _ w ⟨rfl,hs⟩
  refine zl ?_
  refine za hs ?_
  refine zn (λq w'=>q=(z2l b,())/\Sat w' (pt a0 (.cells (cB b) T.a1)::l)) ?_ ?_
  ·unfold z2l
   refine zf (λh=>?_) λh=>?_
   ·refine za hs ?_
    refine wp_lt ?_
    refine zg ⟨?_,hs⟩
    rw [if_pos (List.length_eq_zero_iff.1 (by omega))]
   ·refine zg ⟨?_,hs⟩
    rw [if_neg (by rintro h0;rw [h0] at hl;simp at hl;omega)]
  rintro _ w2 ⟨rfl,hs⟩
  refine wp_lt ?_
  exact ⟨rfl,rfl,hs.tail⟩
theorem z00r (seg gap:Int) (hs:Sat w l):Ret P F.a81 #[.agg #[.int .i64 seg,.int .i64 gap]] w λvs w'=>vs=[.bool (decide ((64<=seg/\seg<=4194304)/\(1<=gap/\gap<=4194304)))]/\Sat w' l :=
 zon seg gap <| by
  unfold z03n
  refine z02 hs λa0 w' hs=>?_
  refine za hs ?_
  refine za hs ?_
  refine za hs ?_
  refine za hs ?_
  refine wp_lt ?_
  refine ⟨rfl,?_,hs.tail⟩
  congr 2
  rw [Bool.eq_iff_iff,decide_eq_true_iff]
  simp only [Bool.and_eq_true,decide_eq_true_eq]
  omega
theorem zup (s:ByteArray) (hs:Sat w l):Ret P F.a77 #[.string s] w λvs w'=>vs=[.bool (z49 s)]/\Sat w' l :=
 zpk s <| by
  unfold z015
  unfold z49
  refine zf (λh=>?_) λh=>?_
  ·rw [decide_eq_false (by omega),Bool.false_and]
   exact ⟨rfl,rfl,hs⟩
  rw [decide_eq_true (by omega),Bool.true_and]
  refine zjg hs λx w' hs=>?_
  have hl:=hs.slen x (xs:=bl s) (enc:=zh)
  have hsz:=z0z s
  refine zn (λ_ w'=>((bl s).all λc=>(97<=c.toNat && c.toNat<=122) || (48<=c.toNat && c.toNat<=57))=true/\Sat w' l) ?_ ?_
  rotate_left
  ·rintro _ w2 ⟨h2,hs⟩
   rw [h2]
   exact ⟨rfl,rfl,hs⟩
  refine z06 (λm v w=>∃ i:Nat,v=((i:Int),())/\i<=(bl s).length/\(bl s).length-i=m/\(((bl s).take i).all λc=>(97<=c.toNat && c.toNat<=122) || (48<=c.toNat && c.toNat<=57))=true/\Sat w (slc T.a39 1 x ((bl s).flatMap zh)::l)) (bl s).length ⟨0,rfl,by omega,rfl,rfl,hs⟩ ?_
  clear hs
  rintro m _ w ⟨i,rfl,hi,hm,hall,hs⟩
  refine zl ?_
  refine zf (λhc=>?_) λhc=>?_
  rotate_left
  ·refine zk (zg ⟨?_,hs.tail⟩)
   rwa [List.take_of_length_le (by omega)] at hall
  have hil:i<(bl s).length:=by omega
  refine z1z hs (xs:=bl s) (enc:=zh) i hil ?_
  refine wp_lt ?_
  have hstep:(((bl s).take (i+1)).all λc=>(97<=c.toNat && c.toNat<=122) || (48<=c.toNat && c.toNat<=57))=((97<=(bl s)[i].toNat && (bl s)[i].toNat<=122) || (48<=(bl s)[i].toNat && (bl s)[i].toNat<=57)):=by
   rw [List.take_succ_eq_append_getElem hil,List.all_append,hall]
   simp
  refine zfj (λh3=>?_) λh3=>?_
  ·refine zk (zk ⟨rfl,?_,hs.tail⟩)
   have hf:((97<=(bl s)[i].toNat && (bl s)[i].toNat<=122) || (48<=(bl s)[i].toNat && (bl s)[i].toNat<=57))=false:=by
    rw [Bool.eq_false_iff]
    intro hh
    simp only [Bool.not_eq_true',Bool.or_eq_false_iff,Bool.and_eq_false_iff,decide_eq_false_iff_not] at h3
    simp only [Bool.or_eq_true,Bool.and_eq_true,decide_eq_true_eq] at hh
    omega
   have:((bl s).all λc=>(97<=c.toNat && c.toNat<=122) || (48<=c.toNat && c.toNat<=57))=false:=by
    rw [<- List.take_append_drop (i+1) (bl s),List.all_append,hstep,hf]
    rfl
   rw [this]
  ·rw [wS (i:=i) (by omega)]
   refine z0l ((bl s).length-(i+1)) ⟨i+1,rfl,by omega,rfl,?_,hs⟩
   rw [hstep]
   simp only [Bool.not_eq_false',Bool.or_eq_true,Bool.and_eq_true,decide_eq_true_eq] at h3
   simp only [Bool.or_eq_true,Bool.and_eq_true,decide_eq_true_eq]
   omega
end
instance (priority:=low) AddrIs.adds {a:Addr} {b off n:Nat} [h:AddrIs a b off]:AddrIs (a.add n) b (off+n):=⟨by rw [h.ok,z2t]⟩
section
variable {P:Program} {w:World} {Q:Post} {S:World->Prop}
theorem zd2 {g:Prop} {o:Option Addr} {f:Addr->Prog} (h:(f ⟨0,0,none⟩).wp P S w Q) (hg:¬ g):(Prog.ex [.adr] (c1 λx=>g->o=some x) (u1 f)).wp P S w Q:=⟨(⟨0,0,none⟩,()),λh=>absurd h hg,h⟩
theorem z5m {g:Prop} {m:Sem Value} {p:Pr} {f:p.D->Prog} (x:p.D) (hg:¬ g) (h:(f x).wp P S w Q):(Prog.read g m (.one (.one p)) (u1 f)).wp P S w Q:=⟨(x,()),λh=>absurd h hg,h⟩
end
def SegA.add (s:SegA) (bs:List BatM):SegA:=⟨s.base,s.fin,s.bs++bs.map BatM.p⟩
theorem zd3 (s:SegA):s.add []=s:=by unfold SegA.add;simp
theorem add_add (s:SegA) (a b:List BatM):(s.add a).add b=s.add (a++b):=by unfold SegA.add;simp
theorem zk0 (bs:List BatM):(bs.map BatM.p).flatMap frL=bs.flatMap frL:=by
 rw [List.flatMap_map];rfl
theorem z52 (s:SegA) (bs:List BatM):(s.add bs).file=s.file++bs.flatMap frL:=by
 unfold SegA.file SegA.add
 simp only [List.flatMap_append,zk0,List.append_assoc]
theorem zze (gap:Int) (s:SegA) (b:BatM):(s.add [b]).idx gap=(z6q (s.idx gap) b.base (s.file.length:Nat) (z2l b)).2:=by
 unfold SegA.idx SegA.add
 show z7c (z6k gap) _ (s.bs++[b.p])=_
 rw [z9q,z1u]
 rw [show ((((shL s.base s.fin).length+(s.bs.flatMap frL).length:Nat)):Int)=((shL s.base s.fin).length:Int)+((s.bs.flatMap frL).length:Int) by omega]
 rfl
theorem z5o {α β:Type} (f:α->β) (l:List α):(l.map f).getLast? = l.getLast?.map f:=by simp
section
variable {w:World} {l r:List HP} {lg:Nat} {M:LogM} {A:LogA} {gap:Int} {a:Nat} {t:SegM}
theorem zy8 [hf:Fo l (zy gap) a t r] (hs:Sat w l):Ret P F.a83 #[.pointer (some ⟨a,0,none⟩)] w λvs w'=>vs=[.int .i64 t.s.reach]/\Sat w' (zy gap a t::r) :=
 zrm _ <| by
  unfold z01e
  have hs:=z1s (hs.perm hf.perm)
  refine z0a hs λw' hs=>?_
  refine zm ?_
  refine za hs ?_
  refine zm ?_
  refine za hs ?_
  refine zm ?_
  refine za hs ?_
  refine z1k (y:=t.s.reach) ?_ (by unfold SegA.reach;split <;> split <;> omega)
  refine zj ?_
  exact ⟨rfl,rfl,z1c t hs⟩
theorem zas (base fin:Int) (hb:0<=base/\base<9223372036854775808) (hf':0<=fin/\fin<9223372036854775808) [hf:Fo l lgQ lg M r] (hs:Sat w l) :
  Ret P F.a74 #[.pointer (some ⟨lg,0,none⟩),.int .i64 base,.int .i64 fin] w λvs w'=>∃ a ix,vs=[.pointer (some ⟨a,0,none⟩)]/\Sat w' (zy M.gap a ⟨ix,⟨base,fin,[]⟩⟩::lgQ lg M::r) :=
 zr7 _ base fin <| by
  unfold z03l
  obtain ⟨hok,hs⟩:=z26 (hs.perm hf.perm)
  refine zm ?_
  refine za hs ?_
  refine zb (z011 M.gap hok.gap hs) λ_ w' hs=>?_
  obtain ⟨ix,rfl,hs⟩:=hs
  refine zd ?_
  refine wp_lt ?_
  refine zb (zcm base fin hb hf' hs) λ_ w' hs=>?_
  obtain ⟨z,rfl,hs⟩:=hs
  refine zd ?_
  have hl:=hs.slen z (xs:=shL base fin) (enc:=zh)
  refine z02 hs λa w' hs=>?_
  refine ⟨rfl,a,ix,rfl,?_⟩
  have hs:Sat w' (pt a (.cells #[.pointer (some ⟨ix,0,none⟩),.int .i64 base,.int .i64 fin,.int .i64 (z05 []),.int .i64 (z0y (-1) []),.int .i64 ((SegA.file ⟨base,fin,[]⟩).length:Nat)] T.a31)::slc T.a39 1 z ((shL base fin).flatMap zh)::z1y ix ((SegA.mk base fin []).idx M.gap)::pt lg (.cells #[.pointer (some ⟨M.d,0,none⟩),.string M.pre,.int .i64 M.seg,.int .i64 M.gap,.slice M.z.a M.z.len M.z.cap] T.a30)::slc T.a17 1 M.z ((M.SM.map Prod.fst).flatMap z0f)::HP.all (M.SM.map λt=>zy M.gap t.1 t.2)::r):=by
   have e:(SegA.file ⟨base,fin,[]⟩).length=z.len:=by rw [z1u,hl];simp
   rw [e]
   exact hs
  have hs:=z0v M hok (hs.pick [3,3,3])
  exact z1c ⟨ix,⟨base,fin,[]⟩⟩ (hs.sub)
theorem zj9 (b:BatM) (hv:z01 b=0) [hf:Fo l (zy gap) a t r] [hb:FocR r b.x 4 (b.rs.flatMap zw)] (hlen:t.s.file.length+(frL b).length<=1000000000) (hs:Sat w l) :
  Ret P F.a84 #[.pointer (some ⟨a,0,none⟩),.agg (zi b).toArray,.int .i64 ((frL b).length:Nat)] w λvs w'=>vs=[]/\Sat w' (zy gap a ⟨t.ix,t.s.add [b]⟩::r) :=
 zqe _ b.base b.pid b.epoch b.seq b.kind b.time b.x _ <| by
  unfold z032
  obtain ⟨h64,-⟩:=z24 hv
  obtain ⟨-,-,⟨-,hba,-⟩,-,-⟩:=z1d b hv
  have hs:=z1s (hs.perm hf.perm)
  refine z02 hs λa0 w' hs=>?_
  refine zr hs ?_
  refine zb (zuh b (by omega) hs) λ_ w' hs=>?_
  obtain ⟨rfl,hs⟩:=hs
  refine zd ?_
  refine wp_lt ?_
  refine z0a hs λw' hs=>?_
  refine zm ?_
  refine za hs ?_
  refine za hs ?_
  refine zm ?_
  refine za hs ?_
  refine zb (z034 (b:=t.ix) b.base ((t.s.file.length:Nat):Int) (z2l b) (by omega) (by omega) hs) λ_ w' hs=>?_
  obtain ⟨rfl,hs⟩:=hs
  refine zd ?_
  refine zj ?_
  refine zr hs ?_
  refine zb (zdf b hs) λ_ w' hs=>?_
  obtain ⟨rfl,hs⟩:=hs
  refine zd ?_
  refine zm ?_
  refine z0d hs λw' hs=>?_
  refine zm ?_
  refine za hs ?_
  refine zm ?_
  refine z0d hs λw' hs=>?_
  refine zm ?_
  refine za hs ?_
  refine zm ?_
  rw [w64 (by omega) (by omega)]
  refine z0d hs λw' hs=>?_
  refine ⟨rfl,rfl,?_⟩
  have e1:z2n b=z05 (t.s.add [b]).bs:=by
   show _=z05 (t.s.bs++[b.p])
   rw [z3d]
   unfold z2n
   rw [if_neg (by rw [hv];simp)]
   rfl
  have e2:(if z2l b>z0y (-1) t.s.bs then z2l b else z0y (-1) t.s.bs)=z0y (-1) (t.s.add [b]).bs:=by
   show _=z0y (-1) (t.s.bs++[b.p])
   rw [zb3]
   show _=max _ (z2l b)
   split <;> omega
  have e3:((t.s.file.length:Nat):Int)+((frL b).length:Nat)=(((t.s.add [b]).file.length:Nat):Int):=by
   rw [z52,List.length_append];simp
  rw [e1,e2,e3,<- zze] at hs
  have hs:Sat w' (pt a (.cells #[.pointer (some ⟨t.ix,0,none⟩),.int .i64 (t.s.add [b]).base,.int .i64 (t.s.add [b]).fin,.int .i64 (z05 (t.s.add [b]).bs),.int .i64 (z0y (-1) (t.s.add [b]).bs),.int .i64 ((t.s.add [b]).file.length:Nat)] T.a31)::_):=hs
  refine z1c ⟨t.ix,t.s.add [b]⟩ ?_
  exact hs.sub
theorem zcg [hf:Fo l lgQ lg M r] (hlen:M.SM.length<=1000000000) (hs:Sat w l):Ret P F.a69 #[.pointer (some ⟨lg,0,none⟩)] w λvs w'=>vs=[.pointer (zvk (M.SM.getLast?.map Prod.fst))]/\Sat w' (lgQ lg M::r) :=
 zra _ <| by
  unfold z01b
  obtain ⟨hok,hs⟩:=z26 (hs.perm hf.perm)
  have hl:=hs.slen M.z (xs:=M.SM.map Prod.fst) (enc:=z0f)
  rw [List.length_map] at hl
  refine zm ?_
  refine za hs ?_
  refine zf (λh=>?_) λh=>?_
  ·have:M.SM=[]:=List.length_eq_zero_iff.1 (by omega)
   rw [this]
   rw [this] at hs
   have hs:=z0v M hok (by rw [this];exact hs)
   exact ⟨rfl,rfl,hs⟩
  have h0:0<M.SM.length:=by omega
  refine z0a hs λw' hs=>?_
  refine zm ?_
  refine za hs ?_
  refine zm ?_
  refine za hs ?_
  rw [w64 (by omega) (by omega)]
  refine z1z hs (xs:=M.SM.map Prod.fst) (enc:=z0f) (M.SM.length-1) (by rw [List.length_map];omega) ?_
  refine zj ?_
  refine ⟨rfl,?_,z0v M hok hs⟩
  have e:M.SM.getLast?.map Prod.fst=some ((M.SM.map Prod.fst)[M.SM.length-1]'(by rw [List.length_map];omega)):=by
   rw [List.getLast?_eq_getElem?,List.getElem?_eq_getElem (by omega)]
   simp
  rw [e]
  rfl
theorem z58 {SM:List (Nat × SegM)} (hs:Sat w (HP.all (SM.map λt=>zy gap t.1 t.2)::l)) {i:Nat} (hi:i<SM.length) :
  Sat w (zy gap SM[i].1 SM[i].2::HP.all ((SM.eraseIdx i).map λt=>zy gap t.1 t.2)::l):=by
 exact ((hs.all_perm ((z6o hi).map _))).all_cons
theorem z3u {SM:List (Nat × SegM)} {i:Nat} (hi:i<SM.length) (hs:Sat w (zy gap SM[i].1 SM[i].2::HP.all ((SM.eraseIdx i).map λt=>zy gap t.1 t.2)::l)) :
  Sat w (HP.all (SM.map λt=>zy gap t.1 t.2)::l):=by
 have h1:Sat w (HP.all ((SM[i]::SM.eraseIdx i).map λt=>zy gap t.1 t.2)::l):=hs.all_put
 exact h1.all_perm ((z6o hi).symm.map _)
theorem zd5 [hf:Fo l lgQ lg M r] (hs:Sat w l):Ret P F.a54 #[.pointer (some ⟨lg,0,none⟩)] w λvs w'=>vs=[.int .i64 (zo M.l)]/\Sat w' (lgQ lg M::r) :=
 zoo _ <| by
  unfold z00b
  obtain ⟨hok,hs⟩:=z26 (hs.perm hf.perm)
  have hl:=hs.slen M.z (xs:=M.SM.map Prod.fst) (enc:=z0f)
  rw [List.length_map] at hl
  refine z0h ?_
  refine za hs ?_
  refine zf (λh=>?_) λh=>?_
  ·have h:M.SM=[]:=by
    rcases h with h|h
    ·cases h
    ·exact List.length_eq_zero_iff.1 (by omega)
   have e:zo M.l=0:=by unfold LogM.l;rw [h];rfl
   rw [e]
   exact ⟨rfl,rfl,z0v M hok hs⟩
  have h0:0<M.SM.length:=by
   apply Nat.pos_of_ne_zero
   intro h1
   exact h (.inr (by omega))
  refine zm ?_
  refine za hs ?_
  refine z77 hs (xs:=M.SM.map Prod.fst) (enc:=z0f) 0 (by rw [List.length_map];exact h0) ?_ rfl rfl
  have e0:(M.SM.map Prod.fst)[0]'(by rw [List.length_map];exact h0)=M.SM[0].1:=by simp
  rw [e0]
  refine zm ?_
  have hs:=z1s (z58 (hs.pick [2]) h0)
  refine za hs ?_
  refine wp_lt ?_
  have e:zo M.l=M.SM[0].2.s.base:=by
   obtain ⟨x,xs,hx⟩:=List.exists_cons_of_length_pos h0
   simp only [LogM.l,hx,List.map_cons,zo,List.getElem_cons_zero]
  rw [e]
  refine ⟨rfl,rfl,?_⟩
  have hs:=z3u h0 (z1c M.SM[0].2 hs)
  exact z0v M hok (hs.pick [1,1])
theorem z8o [hf:Fo l lgQ lg M r] (hlen:M.SM.length<=1000000000) (hs:Sat w l):Ret P F.a55 #[.pointer (some ⟨lg,0,none⟩)] w λvs w'=>vs=[.int .i64 (zp M.l)]/\Sat w' (lgQ lg M::r) :=
 zqj _ <| by
  unfold z00z
  obtain ⟨hok,hs⟩:=z26 (hs.perm hf.perm)
  have hl:=hs.slen M.z (xs:=M.SM.map Prod.fst) (enc:=z0f)
  rw [List.length_map] at hl
  refine z0h ?_
  refine za hs ?_
  refine zf (λh=>?_) λh=>?_
  ·have h:M.SM=[]:=by
    rcases h with h|h
    ·cases h
    ·exact List.length_eq_zero_iff.1 (by omega)
   have e:zp M.l=0:=by unfold LogM.l;rw [h];rfl
   rw [e]
   exact ⟨rfl,rfl,z0v M hok hs⟩
  have h0:0<M.SM.length:=by
   apply Nat.pos_of_ne_zero
   intro h1
   exact h (.inr (by omega))
  have hs:=z0v M hok hs
  refine zb (zcg (lg:=lg) hlen hs) λ_ w' hs=>?_
  obtain ⟨rfl,hs⟩:=hs
  refine zd ?_
  have e1:M.SM.getLast? = some (M.SM[M.SM.length-1]'(by omega)):=by
   rw [List.getLast?_eq_getElem?,List.getElem?_eq_getElem (by omega)]
  rw [e1]
  obtain ⟨-,hs⟩:=z26 hs
  have hs:=z58 (hs.pick [2]) (show M.SM.length-1<M.SM.length by omega)
  refine zb (zy8 (gap:=M.gap) (a:=M.SM[M.SM.length-1].1) hs) λ_ w' hs=>?_
  obtain ⟨rfl,hs⟩:=hs
  refine zd ?_
  refine wp_lt ?_
  have e:zp M.l=(M.SM[M.SM.length-1]'(by omega)).2.s.reach:=by
   unfold LogM.l zp
   rw [z5o,e1]
   rfl
  rw [e]
  have hs:=z3u (show M.SM.length-1<M.SM.length by omega) hs
  exact ⟨rfl,rfl,z0v M hok (hs.pick [1,1])⟩
def z3r (seg:Int) (l:List SegA) (n:Nat):Bool:=match l.getLast? with
 | none=>false
 | some s=>decide (z05 s.bs=0) || decide (((s.file.length+n:Nat):Int)<=seg)
theorem z00s (n:Nat) (hn:n<=1000000000) [hf:Fo l lgQ lg M r] (hlen:M.SM.length<=1000000000) (hfl:∀ s ∈ M.l,s.file.length<=1000000000) (hs:Sat w l):Ret P F.a67 #[.pointer (some ⟨lg,0,none⟩),.int .i64 (n:Int)] w λvs w'=>vs=[.bool (z3r M.seg M.l n)]/\Sat w' (lgQ lg M::r) :=
 zpm _ _ <| by
  unfold z02h
  refine zb (zcg (lg:=lg) hlen hs) λ_ w' hs=>?_
  obtain ⟨rfl,hs⟩:=hs
  refine zd ?_
  refine z0a hs λw' hs=>?_
  by_cases h0:M.SM=[]
  ·have e:z3r M.seg M.l n=false:=by unfold LogM.l z3r;rw [h0];rfl
   rw [e,h0]
   refine zd2 ?_ (λh=>by cases h)
   refine z5m (0:Int) (λh=>by cases h) ?_
   refine zd2 ?_ (λh=>by cases h.1)
   refine z5m (0:Int) (λh=>by cases h.1) ?_
   refine zd2 ?_ (λh=>by cases h.1)
   refine z5m (0:Int) (λh=>by cases h.1) ?_
   refine wp_lt ?_
   refine zj ?_
   exact ⟨rfl,rfl,hs⟩
  have hp:=List.length_pos_iff.2 h0
  have e1:M.SM.getLast? = some (M.SM[M.SM.length-1]'(by omega)):=by
   rw [List.getLast?_eq_getElem?,List.getElem?_eq_getElem (by omega)]
  have e:z3r M.seg M.l n=(decide (z05 (M.SM[M.SM.length-1]'(by omega)).2.s.bs=0) || decide ((((M.SM[M.SM.length-1]'(by omega)).2.s.file.length+n:Nat):Int)<=M.seg)):=by
   unfold LogM.l z3r
   rw [z5o,e1]
   rfl
  have hfl':=hfl _ (List.mem_map.2 ⟨_,List.getElem_mem (show M.SM.length-1<M.SM.length by omega),rfl⟩)
  rw [e,e1]
  obtain ⟨hok,hs⟩:=z26 hs
  have hs:=z1s (z58 (hs.pick [2]) (show M.SM.length-1<M.SM.length by omega))
  refine z0h ?_
  refine za hs ?_
  refine z0h ?_
  refine za hs ?_
  refine z0h ?_
  refine za hs ?_
  rw [w64 (by omega) (by omega)]
  refine wp_lt ?_
  refine zj ?_
  have hs:=z3u (show M.SM.length-1<M.SM.length by omega) (z1c (M.SM[M.SM.length-1]'(by omega)).2 hs)
  refine ⟨rfl,?_,z0v M hok (hs.pick [1,1])⟩
  rfl
theorem zr8 (a:Nat) (t:SegM) {r0:List HP} [hf:Fo l lgQ lg M r0] [hf2:Fo r0 (zy M.gap) a t r] (hlen:M.SM.length<=1000000000) (hs:Sat w l) :
  Ret P F.a72 #[.pointer (some ⟨lg,0,none⟩),.pointer (some ⟨a,0,none⟩)] w λvs w'=>∃ z:Sl,vs=[]/\Sat w' (lgQ lg { M with z:=z,SM:=M.SM++[(a,t)] }::r) :=
 zp4 _ _ <| by
  unfold z031
  obtain ⟨hok,hs⟩:=z26 (hs.perm (hf.perm.trans (.cons _ hf2.perm)))
  have hl:=hs.slen M.z (xs:=M.SM.map Prod.fst) (enc:=z0f)
  refine zm ?_
  refine za hs ?_
  refine z5z (xs:=M.SM.map Prod.fst) (enc:=z0f) (y:=a) hs (λz w' hs=>?_) rfl (by rw [List.length_map];omega)
  refine zm ?_
  refine z0d hs λw' hs=>?_
  refine ⟨rfl,z,rfl,?_⟩
  have hs:Sat w' (pt lg (.cells #[.pointer (some ⟨M.d,0,none⟩),.string M.pre,.int .i64 M.seg,.int .i64 M.gap,.slice z.a z.len z.cap] T.a30)::slc T.a17 1 z ((M.SM.map Prod.fst++[a]).flatMap z0f)::HP.all (M.SM.map λt=>zy M.gap t.1 t.2)::zy M.gap a t::r):=hs
  have h1:Sat w' (HP.all (((a,t)::M.SM).map λt=>zy M.gap t.1 t.2)::pt lg (.cells #[.pointer (some ⟨M.d,0,none⟩),.string M.pre,.int .i64 M.seg,.int .i64 M.gap,.slice z.a z.len z.cap] T.a30)::slc T.a17 1 z ((M.SM.map Prod.fst++[a]).flatMap z0f)::r):=(hs.pick [3,2]).all_put
  have h2:=h1.all_perm ((List.perm_append_comm (l₁:=[(a,t)]) (l₂:=M.SM)).map λt=>zy M.gap t.1 t.2)
  refine z0v { M with z:=z,SM:=M.SM++[(a,t)] } hok ?_
  have e:(M.SM++[(a,t)]).map Prod.fst=M.SM.map Prod.fst++[a]:=by simp
  show Sat w' (pt lg _::slc T.a17 1 z (((M.SM++[(a,t)]).map Prod.fst).flatMap z0f)::HP.all ((M.SM++[(a,t)]).map λt=>zy M.gap t.1 t.2)::r)
  rw [e]
  exact h2.pick [1,1]
theorem zfm [hf:Fo l lgQ lg M r] (hlen:M.SM.length<=1000000) (hs:Sat w l):Ret P F.a61 #[.pointer (some ⟨lg,0,none⟩)] w λvs w'=>∃ z:Sl,vs=[z.v]/\Sat w' (slc T.a11 1 z ((M.l.map SegA.base).flatMap z2u)::lgQ lg M::r) :=
 zp5 _ <| by
  unfold z028
  obtain ⟨hok,hs⟩:=z26 (hs.perm hf.perm)
  have hl:=hs.slen M.z (xs:=M.SM.map Prod.fst) (enc:=z0f)
  rw [List.length_map] at hl
  have hll:M.l.length=M.SM.length:=List.length_map ..
  refine z0g ?_ (by simp)
  refine zm ?_
  refine za hs ?_
  refine zn (λq w'=>∃ z:Sl,q=(z,())/\Sat w' (slc T.a11 1 z ((M.l.map SegA.base).flatMap z2u)::lgQ lg M::r)) ?_ ?_
  rotate_left
  ·rintro _ w2 ⟨z,rfl,hs⟩
   exact ⟨rfl,z,rfl,hs⟩
  refine z06 (λm v w=>∃ (i:Nat) (z:Sl),v=(z,((i:Int),()))/\i<=M.SM.length/\M.SM.length-i=m/\Sat w (slc T.a11 1 z (((M.l.take i).map SegA.base).flatMap z2u)::pt lg (.cells #[.pointer (some ⟨M.d,0,none⟩),.string M.pre,.int .i64 M.seg,.int .i64 M.gap,.slice M.z.a M.z.len M.z.cap] T.a30)::slc T.a17 1 M.z ((M.SM.map Prod.fst).flatMap z0f)::HP.all (M.SM.map λt=>zy M.gap t.1 t.2)::r)) M.SM.length ⟨0,⟨none,0,0⟩,rfl,by omega,rfl,hs.slc_nil⟩ ?_
  clear hs
  rintro m _ w ⟨i,z,rfl,hi,hm,hs⟩
  refine zl ?_
  refine zf (λhc=>?_) λhc=>?_
  rotate_left
  ·refine zk (zg ⟨z,rfl,?_⟩)
   rw [List.take_of_length_le (by omega)] at hs
   exact (z0v M hok (hs.pick [1,1,1])).pick [1]
  have hil:i<M.SM.length:=by omega
  refine z1z hs (xs:=M.SM.map Prod.fst) (enc:=z0f) i (by rw [List.length_map];exact hil) ?_
  have e0:(M.SM.map Prod.fst)[i]'(by rw [List.length_map];exact hil)=M.SM[i].1:=by simp
  rw [e0]
  refine zm ?_
  have hs:=z1s (z58 (hs.pick [3]) hil)
  refine za hs ?_
  refine z5z (xs:=(M.l.take i).map SegA.base) (enc:=z2u) (y:=M.SM[i].2.s.base) hs (λz' w' hs=>?_) rfl (by rw [List.length_map,List.length_take];omega)
  rw [wS (i:=i) (by omega)]
  refine z0l (M.SM.length-(i+1)) ⟨i+1,z',rfl,by omega,rfl,?_⟩
  have e1:(M.l.take (i+1)).map SegA.base=(M.l.take i).map SegA.base++[M.SM[i].2.s.base]:=by
   rw [List.take_succ_eq_append_getElem (by omega),List.map_append]
   unfold LogM.l
   simp
  rw [e1]
  have hs:Sat w' (slc T.a11 1 z' (((M.l.take i).map SegA.base++[M.SM[i].2.s.base]).flatMap z2u)::pt M.SM[i].1 _::z1y _ _::HP.all _::pt lg _::slc T.a17 1 M.z _::r):=hs
  have hs:=z3u hil (z1c M.SM[i].2 (hs.pick [1,1,1]))
  exact hs.pick [1,1,1]
end
theorem z09.mem:∀ {n:Int} {l:List SegA},z09 n l->∀ s ∈ l,SegOk s/\n<=s.base
 | _,a::l,⟨h1,h2,h3⟩,s,hs=>by
  rcases List.mem_cons.1 hs with rfl|hs
  ·exact ⟨h2,h1⟩
  ·have:=h3.mem s hs
   exact ⟨this.1,by omega⟩
def z0m (pre:ByteArray) (l:List SegA) (D:DiskA):Int × DiskA:=match l.getLast? with
 | none=>(0,D)
 | some s=>z10 D [ze pre s.base zq]
def BatM.to (b:BatM) (n:Int):BatM:=⟨n,b.pid,b.epoch,b.seq,b.kind,b.time,b.x,b.rs⟩
def zt:Int->List BatM->Int × List BatM
 | _,[]=>(0,[])
 | n,b::bs=>if z01 (b.to n)≠0 then (z01 (b.to n),[]) else if (zt (n+z00 b) bs).1≠0 then ((zt (n+z00 b) bs).1,[]) else (0,b.to n::(zt (n+z00 b) bs).2)
def frP (p:Sl × List UInt8):HP:=slc T.a39 1 p.1 (p.2.flatMap zh)
theorem z82:∀ {bs:List BatM} {n:Int},(zt n bs).1=0->(zt n bs).2.length=bs.length/\(∀ b ∈ (zt n bs).2,z01 b=0/\∃ c ∈ bs,b.x=c.x/\b.rs=c.rs)/\∀ b,(zt n bs).2.head? = some b->b.base=n
 | [],n,_=>⟨rfl,(λ_ h=>by cases h),(λ_ h=>by cases h)⟩
 | b::bs,n,h=>by
  unfold zt at h ⊢
  by_cases h1:z01 (b.to n)≠0
  ·rw [if_pos h1] at h;exact absurd h h1
  rw [if_neg h1] at h ⊢
  by_cases h2:(zt (n+z00 b) bs).1≠0
  ·rw [if_pos h2] at h;exact absurd h h2
  rw [if_neg h2]
  obtain ⟨i1,i2,-⟩:=z82 (Decidable.not_not.1 h2)
  refine ⟨by simp [i1],λc hc=>?_,λc hc=>?_⟩
  ·rcases List.mem_cons.1 hc with rfl|hc
   ·exact ⟨Decidable.not_not.1 h1,b,List.mem_cons_self ..,rfl,rfl⟩
   ·obtain ⟨v,d,hd,e⟩:=i2 c hc
    exact ⟨v,d,List.mem_cons_of_mem _ hd,e⟩
  ·simp at hc;subst hc;rfl
theorem z8n:∀ {bs:List BatM},(∀ b ∈ bs,z01 b=0)->(bs.flatMap frL).length<=bs.length*262152
 | [],_=>by simp
 | b::bs,h=>by
  have h1:=z3l (h b (List.mem_cons_self ..))
  have h2:=z4c (h b (List.mem_cons_self ..))
  have h3:=z8n λx hx=>h x (List.mem_cons_of_mem _ hx)
  rw [List.flatMap_cons,List.length_append,List.length_cons]
  omega
section
variable {w:World} {l r:List HP} {lg:Nat} {M:LogM} {D:DiskA} {gap:Int} {a:Nat} {t:SegM}
theorem zc2 {fs:List (Sl × List UInt8)} {p:Sl × List UInt8} (hp:p ∈ fs) [hf:Foc l (HP.all (fs.map frP)) r]:FocR l p.1 1 (p.2.flatMap zh):=⟨λw hs=>by
 obtain ⟨L,hs⟩:=(hs.perm hf.perm).all_mem hp
 exact Sat.rd hs⟩
theorem zkx:∀ {fs gs:List (Sl × List UInt8)},(∀ p ∈ gs,FocR l p.1 1 (p.2.flatMap zh))->z9g l (gs.map Prod.fst) (gs.map Prod.snd)
 | _,[],_=>trivial
 | fs,p::gs,h=>⟨(h p (List.mem_cons_self ..)).rd,zkx (fs:=fs) λq hq=>h q (List.mem_cons_of_mem _ hq)⟩
theorem zgp {r1:List HP} [hf:Fo l lgQ lg M r1] [hf2:Fo r1 dk M.d D r] (hlen:M.SM.length<=1000000000) (hok:z09 0 M.l) (hs:Sat w l) :
  Ret P F.a62 #[.pointer (some ⟨lg,0,none⟩)] w λvs w'=>vs=[.int .i64 (z0m M.pre M.l D).1]/\Sat w' (lgQ lg M::dk M.d (z0m M.pre M.l D).2::r) :=
 zpl _ <| by
  unfold z02w
  have hs:=hs.perm (hf.perm.trans (.cons _ hf2.perm))
  refine z0g ?_ (by simp)
  refine zb (zcg (lg:=lg) hlen hs) λ_ w' hs=>?_
  obtain ⟨rfl,hs⟩:=hs
  refine zd ?_
  by_cases h0:M.SM=[]
  ·have e:z0m M.pre M.l D=(0,D):=by unfold LogM.l z0m;rw [h0];rfl
   rw [e,h0]
   refine z0g ?_ (by simp [zvk])
   exact ⟨rfl,rfl,hs⟩
  have hp:=List.length_pos_iff.2 h0
  have hsz:M.SM.length-1<M.SM.length:=by omega
  have e1:M.SM.getLast? = some (M.SM[M.SM.length-1]'hsz):=by
   rw [List.getLast?_eq_getElem?,List.getElem?_eq_getElem (by omega)]
  have e:z0m M.pre M.l D=z10 D [ze M.pre (M.SM[M.SM.length-1]'hsz).2.s.base zq]:=by
   unfold LogM.l z0m
   rw [z5o,e1]
   rfl
  have hmem:(M.SM[M.SM.length-1]'hsz).2.s ∈ M.l:=List.mem_map.2 ⟨_,List.getElem_mem hsz,rfl⟩
  have hbase:=(hok.mem _ hmem).1.base
  rw [e,e1]
  obtain ⟨hokm,hs⟩:=z26 hs
  have hpre:M.pre.size<=100:=by
   have:=hokm.pre
   unfold z49 at this
   rw [Bool.and_eq_true,decide_eq_true_eq] at this
   omega
  refine z1b ?_ (by simp [zvk])
  have hs:=z1s (z58 (hs.pick [2]) hsz)
  refine zn (λq w'=>q=((z10 D [ze M.pre (M.SM[M.SM.length-1]'hsz).2.s.base zq]).1,())/\Sat w' (lgQ lg M::dk M.d (z10 D [ze M.pre (M.SM[M.SM.length-1]'hsz).2.s.base zq]).2::r)) ?_ ?_
  rotate_left
  ·rintro _ w2 ⟨rfl,hs⟩
   exact ⟨rfl,rfl,hs⟩
  refine z0a hs λw' hs=>?_
  refine zm ?_
  refine z1e hs ?_
  refine zm ?_
  refine za hs ?_
  refine zb (z4m (lg:=lg) _ (by omega) (ByteArray.mk #[46,108,111,103]) (by decide) M.pre hpre hs) λ_ w' hs=>?_
  obtain ⟨rfl,hs⟩:=hs
  refine zd ?_ (by first|trivial|(repeat (first|exact trivial|exact λ_=>z0i hs|exact λ_=>z0n hs|refine And.intro ?_ ?_)))
  refine z74 hs (enc:=z2s) [ze M.pre (M.SM[M.SM.length-1]'hsz).2.s.base zq] λy w' hs=>⟨(by first|trivial|(repeat (first|exact trivial|exact λ_=>z0i hs|exact λ_=>z0n hs|refine And.intro ?_ ?_))),?_⟩
  refine zj ?_
  refine zb (zsr (d:=M.d) y [ze M.pre (M.SM[M.SM.length-1]'hsz).2.s.base zq] (by show 1<=100000;omega) hs) λ_ w' hs=>?_
  obtain ⟨rfl,hs⟩:=hs
  refine zd ?_
  refine wp_lt ?_
  refine zj ?_
  refine zg ⟨rfl,?_⟩
  replace hs:Sat _ (zy M.gap _ _::_):=z1c (M.SM[M.SM.length-1]'hsz).2 (hs.pick [2,2])
  have hs:=z3u hsz (hs.pick [0,2])
  exact (z0v M hokm (hs.pick [3,3])).sub
theorem zvi (x:Sl) (bs:List BatM) [hf:Fo l lgQ lg M r] (hlen:M.SM.length<=1000000000) (hbl:bs.length<=100000) (hx:FocR r x 7 (bs.flatMap zi)) (hbs:∀ b ∈ bs,FocR r b.x 4 (b.rs.flatMap zw)) (hs:Sat w l) :
  Ret P F.a71 #[.pointer (some ⟨lg,0,none⟩),x.v] w λvs w' =>
   ((zt (zp M.l) bs).1≠0/\vs=[.slice none 0 0,.slice none 0 0,.int .i64 (zt (zp M.l) bs).1]/\Sat w' (lgQ lg M::r)) \/
   ((zt (zp M.l) bs).1=0/\∃ (z1 z2:Sl) (fs:List (Sl × List UInt8)),vs=[z1.v,z2.v,.int .i64 0]/\fs.map Prod.snd=(zt (zp M.l) bs).2.map frL /\
    Sat w' (slc T.a1 7 z1 ((zt (zp M.l) bs).2.flatMap zi)::slc T.a28 1 z2 ((fs.map Prod.fst).flatMap z0b)::HP.all (fs.map frP)::lgQ lg M::r)) :=
 zoq _ x <| by
  unfold z00x
  have hs:=hs.perm hf.perm
  have hl:=hs.slen x (xs:=bs) (enc:=zi)
  refine zb (z8o (lg:=lg) hlen hs) λ_ w' hs=>?_
  obtain ⟨rfl,hs⟩:=hs
  refine zd ?_
  refine wp_lt ?_
  generalize zp M.l=n0
  refine zn (λq w'=>∃ (z1 z2:Sl) (fs:List (Sl × List UInt8)),(zt n0 bs).1=0/\q=(z1,z2,())/\fs.map Prod.snd=(zt n0 bs).2.map frL /\
    Sat w' (slc T.a1 7 z1 ((zt n0 bs).2.flatMap zi)::slc T.a28 1 z2 ((fs.map Prod.fst).flatMap z0b)::HP.all (fs.map frP)::lgQ lg M::r)) ?_ ?_
  rotate_left
  ·rintro _ w2 ⟨z1,z2,fs,h1,rfl,h2,hs⟩
   exact ⟨rfl,.inr ⟨h1,z1,z2,fs,rfl,h2,hs⟩⟩
  have h0:Sat w' (slc T.a1 7 ⟨none,0,0⟩ (([]:List BatM).flatMap zi)::slc T.a28 1 ⟨none,0,0⟩ (((([]:List (Sl × List UInt8))).map Prod.fst).flatMap z0b)::HP.all ((([]:List (Sl × List UInt8))).map frP)::lgQ lg M::r):=(Sat.all_nil hs).slc_nil.slc_nil
  refine z06 (λm v w=>∃ (i:Nat) (n:Int) (done:List BatM) (z1 z2:Sl) (fs:List (Sl × List UInt8)),v=(n,z1,z2,(i:Int),())/\i<=bs.length/\bs.length-i=m/\done.length=i/\fs.length=i /\
   zt n0 bs=(if (zt n (bs.drop i)).1≠0 then ((zt n (bs.drop i)).1,[]) else (0,done++(zt n (bs.drop i)).2))/\fs.map Prod.snd=done.map frL /\
   Sat w (slc T.a1 7 z1 (done.flatMap zi)::slc T.a28 1 z2 ((fs.map Prod.fst).flatMap z0b)::HP.all (fs.map frP)::lgQ lg M::r)) bs.length
   ⟨0,n0,[],⟨none,0,0⟩,⟨none,0,0⟩,[],rfl,by omega,rfl,rfl,rfl,?_,rfl,h0⟩ ?_
  ·rw [List.drop_zero,List.nil_append]
   by_cases h:(zt n0 bs).1≠0
   ·rw [if_pos h]
    have:∀ {bs:List BatM} {n:Int},(zt n bs).1≠0->(zt n bs).2=[]:=by
     intro bs
     induction bs with
     | nil=>intro n h;exact absurd rfl h
     | cons b bs ih =>
      intro n h
      unfold zt at h ⊢
      split
      ·rfl
      ·split
       ·rfl
       ·rename_i h1 h2
        rw [if_neg h1,if_neg h2] at h
        exact absurd rfl h
    rw [<- this h]
   ·rw [if_neg h]
    have h:=Decidable.not_not.1 h
    rw [<- h]
  clear hs h0
  rintro m _ w ⟨i,n,done,z1,z2,fs,rfl,hi,hm,hdl,hfl,hpl,hfs,hs⟩
  refine zl ?_
  refine zf (λhc=>?_) λhc=>?_
  rotate_left
  ·have e:bs.drop i=[]:=List.drop_eq_nil_of_le (by omega)
   rw [e] at hpl
   simp only [zt,List.append_nil] at hpl
   have hpl:zt n0 bs=(0,done):=by rw [hpl];rfl
   refine zk (zg ⟨z1,z2,fs,by rw [hpl],rfl,by rw [hpl];exact hfs,?_⟩)
   rw [hpl]
   exact hs
  have hil:i<bs.length:=by omega
  have hdrop:bs.drop i=bs[i]::bs.drop (i+1):=List.drop_eq_getElem_cons hil
  rw [hdrop] at hpl
  have hR:=hbs bs[i] (List.getElem_mem hil)
  refine z1n hs (xs:=bs) (enc:=zi) i hil ?_
  refine zv hs λa w' hs=>?_
  refine zx hs λw' hs=>?_
  refine z0d hs λw' hs=>?_
  refine zr hs ?_
  have hRt:FocR r (bs[i].to n).x 4 ((bs[i].to n).rs.flatMap zw):=hR
  refine zb (zjt (bs[i].to n) hs) λ_ w' hs=>?_
  have hunf:zt n (bs[i]::bs.drop (i+1))=if z01 (bs[i].to n)≠0 then (z01 (bs[i].to n),[]) else if (zt (n+z00 bs[i]) (bs.drop (i+1))).1≠0 then ((zt (n+z00 bs[i]) (bs.drop (i+1))).1,[]) else (0,bs[i].to n::(zt (n+z00 bs[i]) (bs.drop (i+1))).2):=rfl
  rcases hs with ⟨hv,rfl,hs⟩|⟨hv,y,rfl,hs⟩
  ·refine zd ?_
   refine wp_lt ?_
   refine z1b ?_ hv
   refine wp_lt ?_
   rw [if_pos hv] at hunf
   have hpl:zt n0 bs=(z01 (bs[i].to n),[]):=by rw [hpl,hunf,if_pos hv]
   refine zk (zk ⟨rfl,.inl ⟨by rw [hpl];exact hv,by rw [hpl],hs.sub⟩⟩)
  ·refine zd ?_
   refine wp_lt ?_
   refine z0g ?_ (by simp)
   rw [if_neg (by rw [hv];simp)] at hunf
   have hbl2:=z4c hv
   have hfrl:=z3l hv
   refine zr hs ?_
   refine z5z (xs:=done) (enc:=zi) (y:=bs[i].to n) hs (λz1' w' hs=>?_) rfl (by omega)
   refine z6h hs (enc:=z0b) [y] λy2 w' hs=>?_
   refine zb (zj6 y2 y (z2e (bs[i].to n)) (by omega) hs) λ_ w' hs=>?_
   obtain ⟨y3,rfl,hs⟩:=hs
   refine zd ?_
   refine z5z (xs:=fs.map Prod.fst) (enc:=z0b) (y:=y3) hs (λz2' w' hs=>?_) rfl (by rw [List.length_map];omega)
   refine zr hs ?_
   refine zb (zdf (bs[i].to n) hs) λ_ w' hs=>?_
   obtain ⟨rfl,hs⟩:=hs
   refine zd ?_
   refine wp_lt ?_
   rw [wS (i:=i) (by omega)]
   have en:z2n (bs[i].to n)=n+z00 bs[i]:=by
    unfold z2n
    rw [if_neg (by rw [hv];simp)]
    rfl
   rw [en]
   refine z0l (bs.length-(i+1)) ⟨i+1,n+z00 bs[i],done++[bs[i].to n],z1',z2',fs++[(y3,frL (bs[i].to n))],rfl,by omega,rfl,by simp [hdl],by simp [hfl],?_,by simp [hfs],?_⟩
   ·rw [hpl,hunf]
    by_cases h2:(zt (n+z00 bs[i]) (bs.drop (i+1))).1≠0
    ·rw [if_pos h2,if_pos h2,if_pos h2]
    ·rw [if_neg h2,if_neg h2,if_neg (by simp),List.append_assoc]
     rfl
   ·have e2:(fs++[(y3,frL (bs[i].to n))]).map Prod.fst=fs.map Prod.fst++[y3]:=by simp
    rw [e2]
    have hs:Sat w' (slc T.a28 1 z2' ((fs.map Prod.fst++[y3]).flatMap z0b)::slc T.a39 1 y3 ((frL (bs[i].to n)).flatMap zh)::slc T.a28 1 y2 (([y]:List Sl).flatMap z0b)::slc T.a1 7 z1' ((done++[bs[i].to n]).flatMap zi)::_):=hs
    have hs:Sat w' (frP (y3,frL (bs[i].to n))::HP.all (fs.map frP)::slc T.a1 7 z1' ((done++[bs[i].to n]).flatMap zi)::slc T.a28 1 z2' ((fs.map Prod.fst++[y3]).flatMap z0b)::lgQ lg M::r):=by
     have h3:Sat w' (slc T.a39 1 y3 ((frL (bs[i].to n)).flatMap zh)::HP.all (fs.map frP)::slc T.a1 7 z1' ((done++[bs[i].to n]).flatMap zi)::slc T.a28 1 z2' ((fs.map Prod.fst++[y3]).flatMap z0b)::lgQ lg M::r):=hs.sub
     exact h3
    have h4:Sat w' (HP.all (((y3,frL (bs[i].to n))::fs).map frP)::_):=hs.all_put
    have h5:=h4.all_perm ((List.perm_append_comm (l₁:=[(y3,frL (bs[i].to n))]) (l₂:=fs)).map frP)
    exact h5.pick [1,1]
end
def z5j (l:List SegA):Int:=match l.getLast? with
 | none=>0
 | some s=>s.base
def z57 (l:List SegA) (bs:List BatM):List SegA:=match l.getLast? with
 | none=>l
 | some s=>l.dropLast++[s.add bs]
def z0s (pre:ByteArray) (seg:Int) (l:List SegA) (D:DiskA) (bs:List BatM):(Int × Int) × List SegA × DiskA :=
 if bs=[] then ((0,3),l,D) else
 if (zt (zp l) bs).1≠0 then ((0,(zt (zp l) bs).1),l,D) else
 if z3r seg l ((zt (zp l) bs).2.flatMap frL).length then
  if (zu D (ze pre (z5j l) zq) ((zt (zp l) bs).2.flatMap frL)).1≠0 then ((0,(zu D (ze pre (z5j l) zq) ((zt (zp l) bs).2.flatMap frL)).1),l,(zu D (ze pre (z5j l) zq) ((zt (zp l) bs).2.flatMap frL)).2)
  else ((zp l,0),z57 l (zt (zp l) bs).2,(zu D (ze pre (z5j l) zq) ((zt (zp l) bs).2.flatMap frL)).2)
 else
  if (z0m pre l D).1≠0 then ((0,(z0m pre l D).1),l,(z0m pre l D).2) else
  if (zu (z0m pre l D).2 (ze pre (zp l) zq) (shL (zp l) 0++(zt (zp l) bs).2.flatMap frL)).1≠0 then ((0,(zu (z0m pre l D).2 (ze pre (zp l) zq) (shL (zp l) 0++(zt (zp l) bs).2.flatMap frL)).1),l,(zu (z0m pre l D).2 (ze pre (zp l) zq) (shL (zp l) 0++(zt (zp l) bs).2.flatMap frL)).2)
  else ((zp l,0),l++[(⟨zp l,0,[]⟩:SegA).add (zt (zp l) bs).2],(zu (z0m pre l D).2 (ze pre (zp l) zq) (shL (zp l) 0++(zt (zp l) bs).2.flatMap frL)).2)
def z5x (l:List SegA):Int:=match l.getLast? with
 | none=>0
 | some s=>z05 s.bs
def z3y (pre:ByteArray) (l:List SegA) (D:DiskA):Int × List SegA × DiskA :=
 if z5x l=0 then (3,l,D) else
 if (z0m pre l D).1≠0 then ((z0m pre l D).1,l,(z0m pre l D).2) else
 if (zu (z0m pre l D).2 (ze pre (zp l) zq) (shL (zp l) 0)).1≠0 then ((zu (z0m pre l D).2 (ze pre (zp l) zq) (shL (zp l) 0)).1,l,(zu (z0m pre l D).2 (ze pre (zp l) zq) (shL (zp l) 0)).2)
 else (0,l++[⟨zp l,0,[]⟩],(zu (z0m pre l D).2 (ze pre (zp l) zq) (shL (zp l) 0)).2)
def LogA.set (A:LogA) (l:List SegA):LogA:=⟨A.d,A.pre,A.seg,A.gap,l⟩
theorem z09.next:∀ {n:Int} {l:List SegA},0<=n->z09 n l->0<=zp l/\zp l<=1099511627777
 | _,[],_,_=>⟨by decide,by decide⟩
 | n,[s],hn,⟨h1,h2,_⟩=>by
  have:=z38 h2
  have:=h2.base
  show 0<=s.reach/\s.reach<=_
  omega
 | n,s::t::l,hn,⟨h1,h2,h3⟩=>by
  have:=h2.base
  have:=z09.next (by omega) h3
  exact this
instance:EncF zi 0 (.int .i64) (λb=>b.base):=⟨λ_=>rfl⟩
section
variable {w:World} {l r:List HP} {lg:Nat} {M:LogM} {A:LogA} {D:DiskA} {gap:Int} {a:Nat} {t:SegM}
theorem z8b {SM0:List (Nat × SegM)} (h:M.SM=SM0++[(a,t)]) (hs:Sat w (lgQ lg M::l)):okM M.gap M.seg M.pre /\
  Sat w (zy M.gap a t::pt lg (.cells #[.pointer (some ⟨M.d,0,none⟩),.string M.pre,.int .i64 M.seg,.int .i64 M.gap,.slice M.z.a M.z.len M.z.cap] T.a30)::slc T.a17 1 M.z ((SM0.map Prod.fst++[a]).flatMap z0f)::HP.all (SM0.map λt=>zy M.gap t.1 t.2)::l):=by
 obtain ⟨hok,hs⟩:=z26 hs
 rw [h] at hs
 have h1:=(hs.pick [2]).all_perm ((List.perm_append_comm (l₁:=SM0) (l₂:=[(a,t)])).map λt=>zy M.gap t.1 t.2)
 have h2:Sat w (zy M.gap a t::HP.all (SM0.map λt=>zy M.gap t.1 t.2)::_):=h1.all_cons
 rw [List.map_append] at h2
 exact ⟨hok,h2.pick [0,1,1]⟩
theorem z7l (M:LogM) {SM0:List (Nat × SegM)} (hok:okM M.gap M.seg M.pre) (hs:Sat w (zy M.gap a t::pt lg (.cells #[.pointer (some ⟨M.d,0,none⟩),.string M.pre,.int .i64 M.seg,.int .i64 M.gap,.slice M.z.a M.z.len M.z.cap] T.a30)::slc T.a17 1 M.z ((SM0.map Prod.fst++[a]).flatMap z0f)::HP.all (SM0.map λt=>zy M.gap t.1 t.2)::l)) :
  Sat w (lgQ lg { M with SM:=SM0++[(a,t)] }::l):=by
 have h1:Sat w (HP.all (((a,t)::SM0).map λt=>zy M.gap t.1 t.2)::_):=(hs.pick [0,2]).all_put
 have h2:=h1.all_perm ((List.perm_append_comm (l₁:=[(a,t)]) (l₂:=SM0)).map λt=>zy M.gap t.1 t.2)
 refine z0v { M with SM:=SM0++[(a,t)] } hok ?_
 show Sat w (pt lg _::slc T.a17 1 M.z (((SM0++[(a,t)]).map Prod.fst).flatMap z0f)::HP.all ((SM0++[(a,t)]).map λt=>zy M.gap t.1 t.2)::l)
 rw [List.map_append]
 exact h2.pick [1,1]
theorem z29 {α:Type} {l:List α} (h:l≠[]):∃ (l0:List α) (x:α),l=l0++[x]:=⟨l.dropLast,l.getLast h,(List.dropLast_concat_getLast h).symm⟩
theorem zet {fs:List (Sl × List UInt8)} (h:∀ p ∈ fs,FocR l p.1 1 (p.2.flatMap zh)):z9g l (fs.map Prod.fst) (fs.map Prod.snd):=zkx (fs:=fs) h
theorem okM.size {g s:Int} {p:ByteArray} (h:okM g s p):p.size<=100:=by
 have:=h.pre
 unfold z49 at this
 rw [Bool.and_eq_true,decide_eq_true_eq] at this
 omega
set_option maxHeartbeats 1000000 in
theorem zic (x:Sl) (bs:List BatM) {r1:List HP} [hf:Fo l lgP lg A r1] [hf2:Fo r1 dk A.d D r] (hlen:A.l.length<=1000000) (hok:z09 0 A.l) (hfl:∀ s ∈ A.l,s.file.length<=500000000) (hbl:bs.length<=900)
  (hx:FocR r x 7 (bs.flatMap zi)) (hbs:∀ b ∈ bs,FocR r b.x 4 (b.rs.flatMap zw)) (hs:Sat w l) :
  Ret P F.a53 #[.pointer (some ⟨lg,0,none⟩),x.v] w λvs w'=>vs=[.int .i64 (z0s A.pre A.seg A.l D bs).1.1,.int .i64 (z0s A.pre A.seg A.l D bs).1.2] /\
   Sat w' (lgP lg (A.set (z0s A.pre A.seg A.l D bs).2.1)::dk A.d (z0s A.pre A.seg A.l D bs).2.2::r) :=
 zfg _ x <| by
  unfold zvz
  have hs:=hs.perm (hf.perm.trans (.cons _ hf2.perm))
  clear hf hf2
  obtain ⟨M,rfl,hs⟩:=z4b hs
  have hlxs:=hs.slen x (xs:=bs) (enc:=zi)
  have hMl:M.A.l=M.l:=rfl
  have hMpre:M.A.pre=M.pre:=rfl
  have hMseg:M.A.seg=M.seg:=rfl
  have hMd:M.A.d=M.d:=rfl
  rw [hMl] at hlen hok hfl ⊢
  rw [hMpre,hMseg,hMd]
  rw [hMd] at hs
  have hll:M.l.length=M.SM.length:=List.length_map ..
  have hnx:=hok.next (Int.le_refl 0)
  have hsame:∀ {w:World} {D':DiskA},Sat w (lgQ lg M::dk M.d D'::r)->Sat w (lgP lg (M.A.set M.l)::dk M.d D'::r):=λhs=>z2i M hs
  unfold z0s
  refine z0g ?_ (by simp)
  refine zf (λh=>?_) λh=>?_
  ·have:bs=[]:=List.length_eq_zero_iff.1 (by omega)
   rw [if_pos this]
   exact ⟨rfl,rfl,hsame hs⟩
  rw [if_neg (by rintro rfl;simp at hlxs;omega)]
  have hx':FocR (dk M.d D::r) x 7 (bs.flatMap zi):=inferInstance
  refine zb (zvi (lg:=lg) x bs (by omega) (by omega) inferInstance (λb hb=>by have:=hbs b hb;infer_instance) hs) λ_ w' hs=>?_
  have hplo:=z82 (bs:=bs) (n:=zp M.l)
  rcases hs with ⟨he,rfl,hs⟩|⟨he,z1,z2,fs,rfl,hfs,hs⟩
  ·refine zd ?_
   refine wp_lt ?_
   refine z1b ?_ he
   refine wp_lt ?_
   rw [if_pos he]
   exact ⟨rfl,rfl,hsame hs⟩
  refine zd ?_
  refine wp_lt ?_
  refine z0g ?_ (by simp)
  rw [if_neg (by rw [he];simp)]
  obtain ⟨hp1,hp2,hp3⟩:=hplo he
  have hbl0:0<bs.length:=by
   apply Nat.pos_of_ne_zero
   intro h0
   rw [h0] at hlxs
   omega
  generalize hn0:zp M.l=n0 at *
  generalize hPL:zt n0 bs=PL at *
  obtain ⟨e0,q⟩:=PL
  have he:e0=0:=he
  subst he
  dsimp only at hp1 hp2 hp3 hfs hs ⊢
  have hsum:=z8n λb hb=>(hp2 b hb).1
  have hfsl:fs.length=q.length:=by have:=congrArg List.length hfs;simpa using this
  have hfl1:=hs.slen z2 (xs:=fs.map Prod.fst) (enc:=z0b)
  rw [List.length_map] at hfl1
  have hfget:∀ (i:Nat) (h:i<fs.length),fs[i].2=frL (q[i]'(by omega)):=λi h=>by
   have:=List.getElem_of_eq hfs (i:=i) (by rw [List.length_map];exact h)
   simpa using this
  have hfsum:∀ i,((q.take i).flatMap frL).length<=(q.flatMap frL).length:=λi=>by
   have:(q.flatMap frL)=(q.take i).flatMap frL++(q.drop i).flatMap frL:=by rw [<- List.flatMap_append,List.take_append_drop]
   rw [this,List.length_append];omega
  refine zn (λv w'=>v=(((q.flatMap frL).length:Int),())/\Sat w' (slc T.a1 7 z1 (q.flatMap zi)::slc T.a28 1 z2 ((fs.map Prod.fst).flatMap z0b)::HP.all (fs.map frP)::lgQ lg M::dk M.d D::r)) ?_ ?_
  ·refine z06 (λm v w=>∃ i:Nat,v=((((q.take i).flatMap frL).length:Int),((i:Int),()))/\i<=q.length/\q.length-i=m/\Sat w (slc T.a1 7 z1 (q.flatMap zi)::slc T.a28 1 z2 ((fs.map Prod.fst).flatMap z0b)::HP.all (fs.map frP)::lgQ lg M::dk M.d D::r)) q.length ⟨0,rfl,by omega,rfl,hs⟩ ?_
   clear hs
   rintro m _ w ⟨i,rfl,hi,hm,hs⟩
   refine zl ?_
   refine zf (λhc=>?_) λhc=>?_
   rotate_left
   ·refine zk (zg ⟨?_,hs⟩)
    rw [List.take_of_length_le (by omega)]
   have hil:i<q.length:=by omega
   have hil2:i<fs.length:=by omega
   refine z1z hs (xs:=fs.map Prod.fst) (enc:=z0b) i (by rw [List.length_map];omega) ?_
   have e1:(fs.map Prod.fst)[i]'(by rw [List.length_map];omega)=fs[i].1:=by simp
   rw [e1]
   have hR:FocR (HP.all (fs.map frP)::lgQ lg M::dk M.d D::r) fs[i].1 1 (fs[i].2.flatMap zh):=zc2 (List.getElem_mem hil2)
   have hl2:=hs.slen fs[i].1 (xs:=fs[i].2) (enc:=zh)
   rw [hfget i hil2] at hl2
   have hfi:((q.take (i+1)).flatMap frL).length=((q.take i).flatMap frL).length+(frL q[i]).length:=by
    rw [List.take_succ_eq_append_getElem hil,List.flatMap_append,List.length_append];simp
   have:=hfsum (i+1)
   rw [hl2,w64 (by omega) (by omega)]
   refine wp_lt ?_
   rw [wS (i:=i) (by omega)]
   have ec:(((q.take i).flatMap frL).length:Int)+((frL q[i]).length:Nat)=(((q.take (i+1)).flatMap frL).length:Int):=by rw [hfi];omega
   rw [ec]
   exact z0l (q.length-(i+1)) ⟨i+1,rfl,by omega,rfl,hs⟩
  clear hs
  rintro _ w ⟨rfl,hs⟩
  refine zl ?_
  refine zb (zcg (lg:=lg) (by omega) hs) λ_ w' hs=>?_
  obtain ⟨rfl,hs⟩:=hs
  refine zd ?_
  refine zb (z00s (lg:=lg) (q.flatMap frL).length (by omega) (by omega) (λs hs'=>by have:=hfl s hs';omega) hs) λ_ w' hs=>?_
  obtain ⟨rfl,hs⟩:=hs
  refine zd ?_
  generalize hF:q.flatMap frL=Fr at *
  have hbsl:fs.map Prod.snd=q.map frL:=hfs
  have hflat:(fs.map Prod.snd).flatten=Fr:=by rw [hfs,<- hF,List.flatMap]
  have hlbound:∀ p ∈ fs,p.2.length<=262152:=λp hp=>by
   obtain ⟨i,hi,rfl⟩:=List.mem_iff_getElem.1 hp
   rw [hfget i hi]
   have:=z3l (hp2 _ (List.getElem_mem (show i<q.length by omega))).1
   have:=z4c (hp2 _ (List.getElem_mem (show i<q.length by omega))).1
   omega
  refine zn (λv w'=>∃ (M1:LogM) (SM0:List (Nat × SegM)) (a:Nat) (t:SegM) (D1:DiskA),v=(some ⟨a,0,none⟩,())/\M1.SM=SM0++[(a,t)]/\t.s.file.length<=600000000 /\
    (if z3r M.seg M.l Fr.length then
     if (zu D (ze M.pre (z5j M.l) zq) Fr).1≠0 then ((0,(zu D (ze M.pre (z5j M.l) zq) Fr).1),M.l,(zu D (ze M.pre (z5j M.l) zq) Fr).2)
     else ((n0,(0:Int)),z57 M.l q,(zu D (ze M.pre (z5j M.l) zq) Fr).2)
    else
     if (z0m M.pre M.l D).1≠0 then ((0,(z0m M.pre M.l D).1),M.l,(z0m M.pre M.l D).2) else
     if (zu (z0m M.pre M.l D).2 (ze M.pre n0 zq) (shL n0 0++Fr)).1≠0 then ((0,(zu (z0m M.pre M.l D).2 (ze M.pre n0 zq) (shL n0 0++Fr)).1),M.l,(zu (z0m M.pre M.l D).2 (ze M.pre n0 zq) (shL n0 0++Fr)).2)
     else ((n0,0),M.l++[(⟨n0,0,[]⟩:SegA).add q],(zu (z0m M.pre M.l D).2 (ze M.pre n0 zq) (shL n0 0++Fr)).2))=((n0,0),(SM0.map λt=>t.2.s)++[t.s.add q],D1) /\
    (M1.d=M.d/\M1.pre=M.pre/\M1.seg=M.seg/\M1.gap=M.gap) /\
    Sat w' (lgQ lg M1::dk M.d D1::slc T.a1 7 z1 (q.flatMap zi)::slc T.a28 1 z2 ((fs.map Prod.fst).flatMap z0b)::HP.all (fs.map frP)::r)) ?_ ?_
  ·refine zf (λhr=>?_) λhr=>?_
   ·
    have hr:z3r M.seg M.l Fr.length=false:=by simpa using hr
    rw [if_neg (by rw [hr];simp)]
    have hs:Sat w' (lgQ lg M::slc T.a1 7 z1 (q.flatMap zi)::slc T.a28 1 z2 ((fs.map Prod.fst).flatMap z0b)::HP.all (fs.map frP)::dk M.d D::r):=hs
    refine zb (zgp (lg:=lg) (D:=D) (by omega) hok hs) λ_ w' hs=>?_
    obtain ⟨rfl,hs⟩:=hs
    refine zd ?_
    refine wp_lt ?_
    refine zf (λh2=>?_) λh2=>?_
    ·refine wp_lt ?_
     rw [if_pos h2]
     refine zk ⟨rfl,rfl,hsame hs.sub⟩
    rw [if_neg h2]
    generalize (z0m M.pre M.l D).2=D1 at *
    refine zb (z8o (lg:=lg) (by omega) hs) λ_ w' hs=>?_
    obtain ⟨rfl,hs⟩:=hs
    refine zd ?_
    rw [hn0]
    refine zb (zas (lg:=lg) n0 0 (by omega) (by omega) hs) λ_ w' hs=>?_
    obtain ⟨a,ix,rfl,hs⟩:=hs
    refine zd ?_
    have hshl:=z4n n0 0
    refine zn (λv w'=>v=((zu D1 (ze M.pre n0 zq) (shL n0 0++Fr)).1,())/\Sat w' (zy M.gap a ⟨ix,⟨n0,0,[]⟩⟩::lgQ lg M::dk M.d (zu D1 (ze M.pre n0 zq) (shL n0 0++Fr)).2::slc T.a1 7 z1 (q.flatMap zi)::slc T.a28 1 z2 ((fs.map Prod.fst).flatMap z0b)::HP.all (fs.map frP)::r)) ?_ ?_
    ·obtain ⟨hokm,hs⟩:=z26 (hs.pick [1])
     have hs:=z1s (hs.pick [3])
     refine z0a hs λw' hs=>?_
     refine zm ?_
     refine z1e hs ?_
     refine zm ?_
     refine za hs ?_
     refine zm ?_
     refine z1e hs ?_
     refine zb (z4m (lg:=lg) n0 (by omega) (ByteArray.mk #[46,108,111,103]) (by decide) M.pre hokm.size hs) λ_ w' hs=>?_
     obtain ⟨rfl,hs⟩:=hs
     refine zd ?_ (by first|trivial|(repeat (first|exact trivial|exact λ_=>z0i hs|exact λ_=>z0n hs|refine And.intro ?_ ?_)))
     refine zb (zcm n0 0 (by omega) (by omega) hs) λ_ w' hs=>?_
     obtain ⟨y,rfl,hs⟩:=hs
     refine zd ?_ (by first|trivial|(repeat (first|exact trivial|exact λ_=>z0i hs|exact λ_=>z0n hs|refine And.intro ?_ ?_)))
     refine z74 hs (enc:=z0b) [y] λy2 w' hs=>⟨(by first|trivial|(repeat (first|exact trivial|exact λ_=>z0i hs|exact λ_=>z0n hs|refine And.intro ?_ ?_))),?_⟩
     refine zns (xs:=[y]) (ys:=fs.map Prod.fst) (enc:=z0b) hs (λy3 w' hs=>⟨(by first|trivial|(repeat (first|exact trivial|exact λ_=>z0i hs|exact λ_=>z0n hs|refine And.intro ?_ ?_))),?_⟩) (by rw [List.length_map];simp only [List.length_cons,List.length_nil];omega)
     refine zj ?_
     have hs:Sat w' (dk M.d D1::slc T.a28 1 y3 (([y]++fs.map Prod.fst).flatMap z0b)::slc T.a39 1 y ((shL n0 0).flatMap zh)::HP.all (fs.map frP)::pt a (.cells #[.pointer (some ⟨ix,0,none⟩),.int .i64 n0,.int .i64 0,.int .i64 (z05 []),.int .i64 (z0y (-1) []),.int .i64 ((SegA.file ⟨n0,0,[]⟩).length:Nat)] T.a31)::z1y ix ((SegA.mk n0 0 []).idx M.gap)::pt lg (.cells #[.pointer (some ⟨M.d,0,none⟩),.string M.pre,.int .i64 M.seg,.int .i64 M.gap,.slice M.z.a M.z.len M.z.cap] T.a30)::slc T.a17 1 M.z ((M.SM.map Prod.fst).flatMap z0f)::HP.all (M.SM.map λt=>zy M.gap t.1 t.2)::slc T.a1 7 z1 (q.flatMap zi)::slc T.a28 1 z2 ((fs.map Prod.fst).flatMap z0b)::r):=hs.sub
     have hall:∀ p ∈ ((y,shL n0 0)::fs),FocR (slc T.a28 1 y3 (([y]++fs.map Prod.fst).flatMap z0b)::slc T.a39 1 y ((shL n0 0).flatMap zh)::HP.all (fs.map frP)::pt a (.cells #[.pointer (some ⟨ix,0,none⟩),.int .i64 n0,.int .i64 0,.int .i64 (z05 []),.int .i64 (z0y (-1) []),.int .i64 ((SegA.file ⟨n0,0,[]⟩).length:Nat)] T.a31)::z1y ix ((SegA.mk n0 0 []).idx M.gap)::pt lg (.cells #[.pointer (some ⟨M.d,0,none⟩),.string M.pre,.int .i64 M.seg,.int .i64 M.gap,.slice M.z.a M.z.len M.z.cap] T.a30)::slc T.a17 1 M.z ((M.SM.map Prod.fst).flatMap z0f)::HP.all (M.SM.map λt=>zy M.gap t.1 t.2)::slc T.a1 7 z1 (q.flatMap zi)::slc T.a28 1 z2 ((fs.map Prod.fst).flatMap z0b)::r) p.1 1 (p.2.flatMap zh):=λp hp=>by
      rcases List.mem_cons.1 hp with rfl|hp
      ·infer_instance
      ·have:FocR (HP.all (fs.map frP)::pt a (.cells #[.pointer (some ⟨ix,0,none⟩),.int .i64 n0,.int .i64 0,.int .i64 (z05 []),.int .i64 (z0y (-1) []),.int .i64 ((SegA.file ⟨n0,0,[]⟩).length:Nat)] T.a31)::z1y ix ((SegA.mk n0 0 []).idx M.gap)::pt lg (.cells #[.pointer (some ⟨M.d,0,none⟩),.string M.pre,.int .i64 M.seg,.int .i64 M.gap,.slice M.z.a M.z.len M.z.cap] T.a30)::slc T.a17 1 M.z ((M.SM.map Prod.fst).flatMap z0f)::HP.all (M.SM.map λt=>zy M.gap t.1 t.2)::slc T.a1 7 z1 (q.flatMap zi)::slc T.a28 1 z2 ((fs.map Prod.fst).flatMap z0b)::r) p.1 1 (p.2.flatMap zh):=zc2 hp
       infer_instance
     have hpsF:FocR (slc T.a28 1 y3 (([y]++fs.map Prod.fst).flatMap z0b)::slc T.a39 1 y ((shL n0 0).flatMap zh)::HP.all (fs.map frP)::pt a (.cells #[.pointer (some ⟨ix,0,none⟩),.int .i64 n0,.int .i64 0,.int .i64 (z05 []),.int .i64 (z0y (-1) []),.int .i64 ((SegA.file ⟨n0,0,[]⟩).length:Nat)] T.a31)::z1y ix ((SegA.mk n0 0 []).idx M.gap)::pt lg (.cells #[.pointer (some ⟨M.d,0,none⟩),.string M.pre,.int .i64 M.seg,.int .i64 M.gap,.slice M.z.a M.z.len M.z.cap] T.a30)::slc T.a17 1 M.z ((M.SM.map Prod.fst).flatMap z0f)::HP.all (M.SM.map λt=>zy M.gap t.1 t.2)::slc T.a1 7 z1 (q.flatMap zi)::slc T.a28 1 z2 ((fs.map Prod.fst).flatMap z0b)::r) y3 1 ((((y,shL n0 0)::fs).map Prod.fst).flatMap zbb):=(inferInstance:FocR _ y3 1 (([y]++fs.map Prod.fst).flatMap z0b))
     refine zb (zb6 (d:=M.d) (A:=D1) (ze M.pre n0 (bl (ByteArray.mk #[46,108,111,103]))) y3 (((y,shL n0 0)::fs).map Prod.fst) (((y,shL n0 0)::fs).map Prod.snd) (hps:=hpsF) (zet hall) (by simp only [List.length_map,List.length_cons];omega) (λb hb=>?_) hs) λ_ w' hs=>?_
     ·obtain ⟨p,hp,rfl⟩:=List.mem_map.1 hb
      rcases List.mem_cons.1 hp with rfl|hp
      ·show (shL n0 0).length<=_;omega
      ·have:=hlbound p hp;omega
     obtain ⟨rfl,hs⟩:=hs
     refine zd ?_
     refine wp_lt ?_
     refine zj ?_
     have e2:(((y,shL n0 0)::fs).map Prod.snd).flatten=shL n0 0++Fr:=by rw [List.map_cons,List.flatten_cons,hflat]
     rw [e2] at hs ⊢
     refine zg ⟨rfl,?_⟩
     have hs:Sat w' (dk M.d (zu D1 (ze M.pre n0 zq) (shL n0 0++Fr)).2::slc T.a28 1 y3 _::slc T.a39 1 y _::HP.all (fs.map frP)::pt a _::z1y ix _::pt lg _::slc T.a17 1 M.z _::HP.all (M.SM.map λt=>zy M.gap t.1 t.2)::slc T.a1 7 z1 (q.flatMap zi)::slc T.a28 1 z2 ((fs.map Prod.fst).flatMap z0b)::r):=hs
     have hs:=z0v M hokm (hs.pick [6,6,6])
     have hs:Sat w' (zy M.gap a ⟨ix,⟨n0,0,[]⟩⟩::lgQ lg M::dk M.d _::slc T.a28 1 y3 _::slc T.a39 1 y _::HP.all (fs.map frP)::slc T.a1 7 z1 (q.flatMap zi)::slc T.a28 1 z2 ((fs.map Prod.fst).flatMap z0b)::r):=z1c ⟨ix,⟨n0,0,[]⟩⟩ (hs.pick [5,5])
     exact hs.sub
    rintro _ w2 ⟨rfl,hs⟩
    refine zf (λh3=>?_) λh3=>?_
    ·refine wp_lt ?_
     rw [if_pos h3]
     refine zk ⟨rfl,rfl,hsame hs.sub⟩
    rw [if_neg h3]
    have hs:=hs.pick [1]
    refine zb (zr8 (lg:=lg) a ⟨ix,⟨n0,0,[]⟩⟩ (by omega) hs) λ_ w' hs=>?_
    obtain ⟨z,rfl,hs⟩:=hs
    refine zd ?_
    refine zg ⟨{ M with z:=z,SM:=M.SM++[(a,⟨ix,⟨n0,0,[]⟩⟩)] },M.SM,a,⟨ix,⟨n0,0,[]⟩⟩,(zu D1 (ze M.pre n0 zq) (shL n0 0++Fr)).2,rfl,rfl,?_,rfl,⟨rfl,rfl,rfl,rfl⟩,hs⟩
    rw [z1u]
    simp only [List.flatMap_nil,List.length_nil]
    omega
   ·
    have hr:z3r M.seg M.l Fr.length=true:=by simpa using hr
    rw [if_pos hr]
    have h0:M.SM≠[]:=by
     intro h0
     have:M.l=[]:=by unfold LogM.l;rw [h0];rfl
     rw [this] at hr
     cases hr
    obtain ⟨SM0,⟨a,t⟩,hSM⟩:=z29 h0
    have hl1:M.l=SM0.map (λt=>t.2.s)++[t.s]:=by unfold LogM.l;rw [hSM];simp
    have hbase:z5j M.l=t.s.base:=by unfold z5j;rw [hl1,z1g]
    have hadd:z57 M.l q=SM0.map (λt=>t.2.s)++[t.s.add q]:=by unfold z57;rw [hl1,z1g];simp
    have hlst:M.SM.getLast? = some (a,t):=by rw [hSM,z1g]
    rw [hlst]
    have htm:t.s ∈ M.l:=by rw [hl1];simp
    have htb:=(hok.mem _ htm).1.base
    have htf:=hfl _ htm
    refine zn (λv w'=>v=((zu D (ze M.pre (z5j M.l) zq) Fr).1,())/\Sat w' (lgQ lg M::dk M.d (zu D (ze M.pre (z5j M.l) zq) Fr).2::slc T.a1 7 z1 (q.flatMap zi)::slc T.a28 1 z2 ((fs.map Prod.fst).flatMap z0b)::HP.all (fs.map frP)::r)) ?_ ?_
    ·obtain ⟨hokm,hs⟩:=z8b hSM hs
     have hs:=z1s hs
     refine z0a hs λw' hs=>?_
     refine zm ?_
     refine z1e hs ?_
     refine zm ?_
     refine za hs ?_
     refine zb (z4m (lg:=lg) t.s.base (by omega) (ByteArray.mk #[46,108,111,103]) (by decide) M.pre hokm.size hs) λ_ w' hs=>?_
     obtain ⟨rfl,hs⟩:=hs
     refine zd ?_ (by first|trivial|(repeat (first|exact trivial|exact λ_=>z0i hs|exact λ_=>z0n hs|refine And.intro ?_ ?_)))
     refine zj ?_
     have hs:=hs.pick [8]
     have hall:∀ p ∈ fs,FocR (pt a (.cells #[.pointer (some ⟨t.ix,0,none⟩),.int .i64 t.s.base,.int .i64 t.s.fin,.int .i64 (z05 t.s.bs),.int .i64 (z0y (-1) t.s.bs),.int .i64 (t.s.file.length:Nat)] T.a31)::z1y t.ix (t.s.idx M.gap)::pt lg (.cells #[.pointer (some ⟨M.d,0,none⟩),.string M.pre,.int .i64 M.seg,.int .i64 M.gap,.slice M.z.a M.z.len M.z.cap] T.a30)::slc T.a17 1 M.z ((SM0.map Prod.fst++[a]).flatMap z0f)::HP.all (SM0.map λt=>zy M.gap t.1 t.2)::slc T.a1 7 z1 (q.flatMap zi)::slc T.a28 1 z2 ((fs.map Prod.fst).flatMap z0b)::HP.all (fs.map frP)::r) p.1 1 (p.2.flatMap zh):=λp hp=>by
      have:FocR (HP.all (fs.map frP)::r) p.1 1 (p.2.flatMap zh):=zc2 hp
      infer_instance
     have hpsF:FocR (pt a (.cells #[.pointer (some ⟨t.ix,0,none⟩),.int .i64 t.s.base,.int .i64 t.s.fin,.int .i64 (z05 t.s.bs),.int .i64 (z0y (-1) t.s.bs),.int .i64 (t.s.file.length:Nat)] T.a31)::z1y t.ix (t.s.idx M.gap)::pt lg (.cells #[.pointer (some ⟨M.d,0,none⟩),.string M.pre,.int .i64 M.seg,.int .i64 M.gap,.slice M.z.a M.z.len M.z.cap] T.a30)::slc T.a17 1 M.z ((SM0.map Prod.fst++[a]).flatMap z0f)::HP.all (SM0.map λt=>zy M.gap t.1 t.2)::slc T.a1 7 z1 (q.flatMap zi)::slc T.a28 1 z2 ((fs.map Prod.fst).flatMap z0b)::HP.all (fs.map frP)::r) z2 1 ((fs.map Prod.fst).flatMap zbb):=(inferInstance:FocR _ z2 1 ((fs.map Prod.fst).flatMap z0b))
     refine zb (zb6 (d:=M.d) (A:=D) (ze M.pre t.s.base (bl (ByteArray.mk #[46,108,111,103]))) z2 (fs.map Prod.fst) (fs.map Prod.snd) (hps:=hpsF) (zet hall) (by simp only [List.length_map];omega) (λb hb=>?_) hs) λ_ w' hs=>?_
     ·obtain ⟨p,hp,rfl⟩:=List.mem_map.1 hb
      have:=hlbound p hp;omega
     obtain ⟨rfl,hs⟩:=hs
     refine zd ?_
     refine wp_lt ?_
     refine zj ?_
     rw [hflat] at hs ⊢
     refine zg ⟨by rw [hbase];rfl,?_⟩
     rw [hbase]
     have hs:Sat w' (dk M.d (zu D (ze M.pre t.s.base zq) Fr).2::pt a _::z1y t.ix _::pt lg _::slc T.a17 1 M.z _::HP.all (SM0.map λt=>zy M.gap t.1 t.2)::slc T.a1 7 z1 (q.flatMap zi)::slc T.a28 1 z2 ((fs.map Prod.fst).flatMap z0b)::HP.all (fs.map frP)::r):=hs
     have hs:=z7l M hokm (z1c t (hs.pick [1,1]) |>.pick [0,1,1,1])
     have e:{ M with SM:=SM0++[(a,t)] }=M:=by rw [<- hSM]
     rw [e] at hs
     exact hs.sub
    rintro _ w2 ⟨rfl,hs⟩
    refine zf (λh3=>?_) λh3=>?_
    ·refine wp_lt ?_
     rw [if_pos h3]
     refine zk ⟨rfl,rfl,hsame hs.sub⟩
    rw [if_neg h3]
    refine zg ⟨M,SM0,a,t,(zu D (ze M.pre (z5j M.l) zq) Fr).2,rfl,hSM,by omega,by rw [hadd],⟨rfl,rfl,rfl,rfl⟩,hs⟩
  rintro _ w2 ⟨M1,SM0,a,t,D1,rfl,hSM,htl,hres,⟨hd1,hd2,hd3,hd4⟩,hs⟩
  clear hsame
  rw [hres]
  obtain ⟨hokm,hs⟩:=z8b hSM hs
  have hF2:∀ i,((q.take i).flatMap frL).length<=Fr.length:=hfsum
  have hlq:=hs.slen z1 (xs:=q) (enc:=zi)
  refine zn (λ_ w'=>Sat w' (zy M1.gap a ⟨t.ix,t.s.add q⟩::pt lg (.cells #[.pointer (some ⟨M1.d,0,none⟩),.string M1.pre,.int .i64 M1.seg,.int .i64 M1.gap,.slice M1.z.a M1.z.len M1.z.cap] T.a30)::slc T.a17 1 M1.z ((SM0.map Prod.fst++[a]).flatMap z0f)::HP.all (SM0.map λt=>zy M1.gap t.1 t.2)::dk M.d D1::slc T.a1 7 z1 (q.flatMap zi)::slc T.a28 1 z2 ((fs.map Prod.fst).flatMap z0b)::HP.all (fs.map frP)::r)) ?_ ?_
  ·refine z06 (λm v w=>∃ i:Nat,v=((i:Int),())/\i<=q.length/\q.length-i=m/\Sat w (zy M1.gap a ⟨t.ix,t.s.add (q.take i)⟩::pt lg (.cells #[.pointer (some ⟨M1.d,0,none⟩),.string M1.pre,.int .i64 M1.seg,.int .i64 M1.gap,.slice M1.z.a M1.z.len M1.z.cap] T.a30)::slc T.a17 1 M1.z ((SM0.map Prod.fst++[a]).flatMap z0f)::HP.all (SM0.map λt=>zy M1.gap t.1 t.2)::dk M.d D1::slc T.a1 7 z1 (q.flatMap zi)::slc T.a28 1 z2 ((fs.map Prod.fst).flatMap z0b)::HP.all (fs.map frP)::r)) q.length ⟨0,rfl,by omega,rfl,by rw [List.take_zero,zd3];exact hs⟩ ?_
   clear hs
   rintro m _ w ⟨i,rfl,hi,hm,hs⟩
   refine zl ?_
   refine zf (λhc=>?_) λhc=>?_
   rotate_left
   ·refine zk (zg ?_)
    rwa [List.take_of_length_le (by omega)] at hs
   have hil:i<q.length:=by omega
   have hil2:i<fs.length:=by omega
   refine z1n hs (xs:=q) (enc:=zi) i hil ?_
   refine zv hs λc w' hs=>?_
   refine wp_lt ?_
   refine zx hs λw' hs=>?_
   refine z0a hs λw' hs=>?_
   refine zr hs ?_
   refine z1z hs (xs:=fs.map Prod.fst) (enc:=z0b) i (by rw [List.length_map];omega) ?_
   have e1:(fs.map Prod.fst)[i]'(by rw [List.length_map];omega)=fs[i].1:=by simp
   rw [e1]
   have hR:FocR (HP.all (fs.map frP)::r) fs[i].1 1 (fs[i].2.flatMap zh):=zc2 (List.getElem_mem hil2)
   have hl2:=hs.slen fs[i].1 (xs:=fs[i].2) (enc:=zh)
   rw [hfget i hil2] at hl2
   rw [hl2]
   obtain ⟨hvq,c0,hc0,hcx,hcr⟩:=hp2 q[i] (List.getElem_mem hil)
   have hRb:FocR r q[i].x 4 (q[i].rs.flatMap zw):=by rw [hcx,hcr];exact hbs c0 hc0
   have hfi:((q.take (i+1)).flatMap frL).length=((q.take i).flatMap frL).length+(frL q[i]).length:=by
    rw [List.take_succ_eq_append_getElem hil,List.flatMap_append,List.length_append];simp
   have:=hF2 (i+1)
   refine zb (zj9 (gap:=M1.gap) (a:=a) q[i] hvq (by show (t.s.add (q.take i)).file.length+_<=_;rw [z52,List.length_append];omega) hs) λ_ w' hs=>?_
   obtain ⟨rfl,hs⟩:=hs
   refine zd ?_
   refine zj ?_
   rw [wS (i:=i) (by omega)]
   refine z0l (q.length-(i+1)) ⟨i+1,rfl,by omega,rfl,?_⟩
   have e2:(t.s.add (q.take i)).add [q[i]]=t.s.add (q.take (i+1)):=by rw [add_add,List.take_succ_eq_append_getElem hil]
   have hs:Sat w' (zy M1.gap a ⟨t.ix,(t.s.add (q.take i)).add [q[i]]⟩::_):=hs
   rw [e2] at hs
   exact hs.sub
  clear hs
  rintro _ w3 hs
  refine zl ?_
  refine za5 hs (xs:=q) (enc:=zi) 0 (by omega) ?_
  refine wp_lt ?_
  have hq0:(q[0]'(by omega)).base=n0:=hp3 _ (by rw [List.head?_eq_getElem?,List.getElem?_eq_getElem])
  rw [hq0]
  refine ⟨rfl,rfl,?_⟩
  have hs:=z2i _ (z7l M1 hokm hs)
  have eA:LogM.A { M1 with SM:=SM0++[(a,(⟨t.ix,t.s.add q⟩:SegM))] }=M.A.set ((SM0.map λt=>t.2.s)++[t.s.add q]):=by
   unfold LogM.A LogM.l LogA.set
   simp only [List.map_append,List.map_cons,List.map_nil,hd1,hd2,hd3,hd4]
  rw [eA] at hs
  exact hs.sub
end
def z1j (pre:ByteArray) (off:Int):List SegA->DiskA->Nat × Int × List SegA × DiskA
 | s::t::r,D=>if t.base<=off then (if (z0p D (ze pre s.base zq)).1≠0 then (0,(z0p D (ze pre s.base zq)).1,s::t::r,(z0p D (ze pre s.base zq)).2)
   else ((z1j pre off (t::r) (z0p D (ze pre s.base zq)).2).1+1,(z1j pre off (t::r) (z0p D (ze pre s.base zq)).2).2)) else (0,0,s::t::r,D)
 | l,D=>(0,0,l,D)
section
variable {w:World} {l r:List HP} {lg:Nat} {M:LogM} {A:LogA} {D:DiskA} {gap:Int} {a:Nat} {t:SegM}
theorem z80 {P:Program} {Q:Post} {S:World->Prop} {c:Addr->Prop} {f:Addr->Prog} (hc:c ⟨0,0,none⟩) (h:(f ⟨0,0,none⟩).wp P S w Q):(Prog.ex [.adr] (c1 c) (u1 f)).wp P S w Q:=⟨(⟨0,0,none⟩,()),hc,h⟩
theorem zde {P:Program} {Q:Post} {S:World->Prop} {α:Type} {enc:α->List Value} {xs:List α} {sz m:Nat} {ii:Int} {x:Sl} {T:TypeId} {g g':Prop} {p:Pr} {dec:α->p.D} {f:p.D->Prog} (hs:Sat w l) [hf:FocR l x sz (xs.flatMap enc)] [hE:EncN enc sz] [hD:Enc1 enc p dec] [hT:One P T]
  (n:Nat) (hn:n<xs.length) (h:(f (dec xs[n])).wp P S w Q) (hm:m=n*sz:=by rfl) (hi:ii=n:=by rfl) :
  (Prog.ex [.adr] (c1 λa=>g->(0:Int)<=ii/\ii<((x.len:Nat):Int)/\x.a=some a) (u1 λa=>.read g' (ld T (Addr.add a m)) (.one (.one p)) (u1 f))).wp P S w Q:=by
 subst hm hi
 have hr:=hf.rd w hs
 have hl:x.len=xs.length:=hr.len hE.len hE.pos
 obtain ⟨a,ha,he⟩:=hr.el hE.len (by omega)
 refine ⟨(a,()),λ_=>⟨by omega,by omega,ha⟩,(dec xs[n],()),λ_=>?_,h⟩
 have:=he n hn
 rw [hD.ok] at this
 have h2:=At.ld1 (P:=P) (T:=T) this rfl
 cases p <;> exact h2
theorem Sat.slc_drop {T:TypeId} {sz:Nat} {x:Sl} {cs:List Value} {n:Nat} (hs:Sat w (slc T sz x cs::l)) (hn:n<x.len):Sat w (slc T sz ⟨z12 x.a sz n x.cap,x.len-n,x.cap-n⟩ (cs.drop (n*sz))::l):=by
 refine hs.imp λp hp=>?_
 rcases hp with ⟨ha,hl0,hc0,rfl⟩|⟨b,off,arr,fr,ha,hb,hlen,hle,hsz,hcs,hf⟩
 ·omega
 ·refine .inr ⟨b,off+n*sz,arr,fr,?_,hb,?_,by simp only;omega,?_,λi hi=>?_,λi h1 h2=>hf i (by omega) ?_⟩
  ·show z12 x.a sz n x.cap=_
   unfold z12
   rw [if_neg (by omega),ha,Option.map_some,z2t]
  ·rw [List.length_drop,hlen]
   show x.len*sz-n*sz=(x.len-n)*sz
   rw [Nat.sub_mul]
  ·show off+n*sz+(x.cap-n)*sz<=arr.size
   rw [Nat.sub_mul]
   have:n*sz<=x.cap*sz:=Nat.mul_le_mul_right _ (by omega)
   omega
  ·rw [List.length_drop] at hi
   rw [Nat.add_assoc,hcs (n*sz+i) (by omega),List.getElem?_drop]
  ·have h2:i<off+n*sz+(x.cap-n)*sz:=h2
   rw [Nat.sub_mul] at h2
   have:n*sz<=x.cap*sz:=Nat.mul_le_mul_right _ (by omega)
   omega
theorem zyv {r1:List HP} [hf:Fo l lgP lg A r1] [hf2:Fo r1 dk A.d D r] (hlen:A.l.length<=1000000) (hok:z09 0 A.l) (hs:Sat w l) :
  Ret P F.a60 #[.pointer (some ⟨lg,0,none⟩)] w λvs w'=>vs=[.int .i64 (z3y A.pre A.l D).1]/\Sat w' (lgP lg (A.set (z3y A.pre A.l D).2.1)::dk A.d (z3y A.pre A.l D).2.2::r) :=
 zrr _ <| by
  unfold z01h
  have hs:=hs.perm (hf.perm.trans (.cons _ hf2.perm))
  clear hf hf2
  obtain ⟨M,rfl,hs⟩:=z4b hs
  have hMl:M.A.l=M.l:=rfl
  have hMpre:M.A.pre=M.pre:=rfl
  have hMd:M.A.d=M.d:=rfl
  rw [hMl] at hlen hok ⊢
  rw [hMpre,hMd]
  rw [hMd] at hs
  have hll:M.l.length=M.SM.length:=List.length_map ..
  have hnx:=hok.next (Int.le_refl 0)
  have hsame:∀ {w:World} {D':DiskA},Sat w (lgQ lg M::dk M.d D'::r)->Sat w (lgP lg (M.A.set M.l)::dk M.d D'::r):=λhs=>z2i M hs
  unfold z3y
  refine z0g ?_ (by simp)
  refine zb (zcg (lg:=lg) (by omega) hs) λ_ w' hs=>?_
  obtain ⟨rfl,hs⟩:=hs
  refine zd ?_
  by_cases h0:M.SM=[]
  ·have e:M.l=[]:=by unfold LogM.l;rw [h0];rfl
   have e2:z5x M.l=0:=by rw [e];rfl
   rw [if_pos e2,h0]
   refine zd2 ?_ (λh=>by cases h)
   refine z5m (0:Int) (λh=>by cases h) ?_
   refine z1b ?_ (.inl rfl)
   exact ⟨rfl,rfl,hsame hs⟩
  obtain ⟨SM0,⟨a,t⟩,hSM⟩:=z29 h0
  have hl1:M.l=SM0.map (λt=>t.2.s)++[t.s]:=by unfold LogM.l;rw [hSM];simp
  have hlst:M.SM.getLast? = some (a,t):=by rw [hSM,z1g]
  have e2:z5x M.l=z05 t.s.bs:=by unfold z5x;rw [hl1,z1g]
  rw [e2,hlst]
  obtain ⟨hokm,hs⟩:=z8b hSM hs
  have hs:=z1s hs
  refine z0h ?_
  refine za hs ?_
  have hs:=z7l M hokm (z1c t hs)
  have e:{ M with SM:=SM0++[(a,t)] }=M:=by rw [<- hSM]
  rw [e] at hs
  refine zf (λh1=>?_) λh1=>?_
  ·have h1:z05 t.s.bs=0:=by
    rcases h1 with h1|h1
    ·cases h1
    ·exact h1
   rw [if_pos h1]
   exact ⟨rfl,rfl,hsame hs⟩
  rw [if_neg λh=>h1 (.inr h)]
  refine zb (zgp (lg:=lg) (D:=D) (by omega) hok hs) λ_ w' hs=>?_
  obtain ⟨rfl,hs⟩:=hs
  refine zd ?_
  refine wp_lt ?_
  refine zf (λh2=>?_) λh2=>?_
  ·refine wp_lt ?_
   rw [if_pos h2]
   exact ⟨rfl,rfl,hsame hs⟩
  rw [if_neg h2]
  generalize (z0m M.pre M.l D).2=D1 at *
  refine zb (z8o (lg:=lg) (by omega) hs) λ_ w' hs=>?_
  obtain ⟨rfl,hs⟩:=hs
  refine zd ?_
  generalize hn0:zp M.l=n0 at *
  refine zb (zas (lg:=lg) n0 0 (by omega) (by omega) hs) λ_ w' hs=>?_
  obtain ⟨a,ix,rfl,hs⟩:=hs
  refine zd ?_
  have hshl:=z4n n0 0
  refine zn (λv w'=>v=((zu D1 (ze M.pre n0 zq) (shL n0 0)).1,())/\Sat w' (zy M.gap a ⟨ix,⟨n0,0,[]⟩⟩::lgQ lg M::dk M.d (zu D1 (ze M.pre n0 zq) (shL n0 0)).2::r)) ?_ ?_
  ·obtain ⟨hokm,hs⟩:=z26 (hs.pick [1])
   have hs:=z1s (hs.pick [3])
   refine z0a hs λw' hs=>?_
   refine zm ?_
   refine z1e hs ?_
   refine zm ?_
   refine za hs ?_
   refine zm ?_
   refine z1e hs ?_
   refine zb (z4m (lg:=lg) n0 (by omega) (ByteArray.mk #[46,108,111,103]) (by decide) M.pre hokm.size hs) λ_ w' hs=>?_
   obtain ⟨rfl,hs⟩:=hs
   refine zd ?_ (by first|trivial|(repeat (first|exact trivial|exact λ_=>z0i hs|exact λ_=>z0n hs|refine And.intro ?_ ?_)))
   refine zb (zcm n0 0 (by omega) (by omega) hs) λ_ w' hs=>?_
   obtain ⟨y,rfl,hs⟩:=hs
   refine zd ?_ (by first|trivial|(repeat (first|exact trivial|exact λ_=>z0i hs|exact λ_=>z0n hs|refine And.intro ?_ ?_)))
   refine z74 hs (enc:=z0b) [y] λy2 w' hs=>⟨(by first|trivial|(repeat (first|exact trivial|exact λ_=>z0i hs|exact λ_=>z0n hs|refine And.intro ?_ ?_))),?_⟩
   refine zj ?_
   have hs:Sat w' (dk M.d D1::slc T.a28 1 y2 (([y]:List Sl).flatMap z0b)::slc T.a39 1 y ((shL n0 0).flatMap zh)::pt a (.cells #[.pointer (some ⟨ix,0,none⟩),.int .i64 n0,.int .i64 0,.int .i64 (z05 []),.int .i64 (z0y (-1) []),.int .i64 ((SegA.file ⟨n0,0,[]⟩).length:Nat)] T.a31)::z1y ix ((SegA.mk n0 0 []).idx M.gap)::pt lg (.cells #[.pointer (some ⟨M.d,0,none⟩),.string M.pre,.int .i64 M.seg,.int .i64 M.gap,.slice M.z.a M.z.len M.z.cap] T.a30)::slc T.a17 1 M.z ((M.SM.map Prod.fst).flatMap z0f)::HP.all (M.SM.map λt=>zy M.gap t.1 t.2)::r):=hs.sub
   have hy:FocR (slc T.a28 1 y2 (([y]:List Sl).flatMap z0b)::slc T.a39 1 y ((shL n0 0).flatMap zh)::pt a (.cells #[.pointer (some ⟨ix,0,none⟩),.int .i64 n0,.int .i64 0,.int .i64 (z05 []),.int .i64 (z0y (-1) []),.int .i64 ((SegA.file ⟨n0,0,[]⟩).length:Nat)] T.a31)::z1y ix ((SegA.mk n0 0 []).idx M.gap)::pt lg (.cells #[.pointer (some ⟨M.d,0,none⟩),.string M.pre,.int .i64 M.seg,.int .i64 M.gap,.slice M.z.a M.z.len M.z.cap] T.a30)::slc T.a17 1 M.z ((M.SM.map Prod.fst).flatMap z0f)::HP.all (M.SM.map λt=>zy M.gap t.1 t.2)::r) y 1 ((shL n0 0).flatMap zh):=inferInstance
   have hpsF:FocR (slc T.a28 1 y2 (([y]:List Sl).flatMap z0b)::slc T.a39 1 y ((shL n0 0).flatMap zh)::pt a (.cells #[.pointer (some ⟨ix,0,none⟩),.int .i64 n0,.int .i64 0,.int .i64 (z05 []),.int .i64 (z0y (-1) []),.int .i64 ((SegA.file ⟨n0,0,[]⟩).length:Nat)] T.a31)::z1y ix ((SegA.mk n0 0 []).idx M.gap)::pt lg (.cells #[.pointer (some ⟨M.d,0,none⟩),.string M.pre,.int .i64 M.seg,.int .i64 M.gap,.slice M.z.a M.z.len M.z.cap] T.a30)::slc T.a17 1 M.z ((M.SM.map Prod.fst).flatMap z0f)::HP.all (M.SM.map λt=>zy M.gap t.1 t.2)::r) y2 1 (([y]:List Sl).flatMap zbb):=(inferInstance:FocR _ y2 1 (([y]:List Sl).flatMap z0b))
   refine zb (zb6 (d:=M.d) (A:=D1) (ze M.pre n0 (bl (ByteArray.mk #[46,108,111,103]))) y2 [y] [shL n0 0] (hps:=hpsF) ⟨hy.rd,trivial⟩ (by show 1<=1000;omega) (λb hb=>?_) hs) λ_ w' hs=>?_
   ·simp only [List.mem_cons,List.not_mem_nil,or_false] at hb
    subst hb
    omega
   obtain ⟨rfl,hs⟩:=hs
   refine zd ?_
   refine wp_lt ?_
   refine zj ?_
   have e2:[shL n0 0].flatten=shL n0 0:=by simp
   rw [e2] at hs ⊢
   refine zg ⟨rfl,?_⟩
   have hs:Sat w' (dk M.d (zu D1 (ze M.pre n0 zq) (shL n0 0)).2::slc T.a28 1 y2 _::slc T.a39 1 y _::pt a _::z1y ix _::pt lg _::slc T.a17 1 M.z _::HP.all (M.SM.map λt=>zy M.gap t.1 t.2)::r):=hs
   have hs:=z0v M hokm (hs.pick [5,5,5])
   have hs:Sat w' (zy M.gap a ⟨ix,⟨n0,0,[]⟩⟩::lgQ lg M::dk M.d _::slc T.a28 1 y2 _::slc T.a39 1 y _::r):=z1c ⟨ix,⟨n0,0,[]⟩⟩ (hs.pick [4,4])
   exact hs.sub
  rintro _ w2 ⟨rfl,hs⟩
  refine zf (λh3=>?_) λh3=>?_
  ·refine wp_lt ?_
   rw [if_pos h3]
   exact ⟨rfl,rfl,hsame hs.sub⟩
  rw [if_neg h3]
  have hs:=hs.pick [1]
  refine zb (zr8 (lg:=lg) a ⟨ix,⟨n0,0,[]⟩⟩ (by omega) hs) λ_ w' hs=>?_
  obtain ⟨z,rfl,hs⟩:=hs
  refine zd ?_
  refine ⟨rfl,rfl,?_⟩
  have hs:=z2i _ hs
  have eA:LogM.A { M with z:=z,SM:=M.SM++[(a,(⟨ix,⟨n0,0,[]⟩⟩:SegM))] }=M.A.set (M.l++[⟨n0,0,[]⟩]):=by
   unfold LogM.A LogM.l LogA.set
   simp only [List.map_append,List.map_cons,List.map_nil]
  rw [eA] at hs
  exact hs
theorem zzq (off:Int) {r1:List HP} [hf:Fo l lgP lg A r1] [hf2:Fo r1 dk A.d D r] (hlen:A.l.length<=1000000) (hok:z09 0 A.l) (hs:Sat w l) :
  Ret P F.a63 #[.pointer (some ⟨lg,0,none⟩),.int .i64 off] w λvs w'=>vs=[.int .i64 ((z1j A.pre off A.l D).1:Nat),.int .i64 (z1j A.pre off A.l D).2.1]/\Sat w' (lgP lg (A.set (z1j A.pre off A.l D).2.2.1)::dk A.d (z1j A.pre off A.l D).2.2.2::r) :=
 zq7 _ off <| by
  unfold z00c
  have hs:=hs.perm (hf.perm.trans (.cons _ hf2.perm))
  clear hf hf2
  obtain ⟨M0,rfl,hs⟩:=z4b hs
  refine z0g ?_ (by simp)
  have hMl:M0.A.l=M0.l:=rfl
  have hMpre:M0.A.pre=M0.pre:=rfl
  have hMd:M0.A.d=M0.d:=rfl
  rw [hMl] at hlen hok ⊢
  rw [hMpre,hMd]
  rw [hMd] at hs
  have hfin:∀ {w:World} {M:LogM} {D':DiskA},(M.d=M0.d/\M.pre=M0.pre/\M.seg=M0.seg/\M.gap=M0.gap)->Sat w (lgQ lg M::dk M0.d D'::r)->Sat w (lgP lg (M0.A.set M.l)::dk M0.d D'::r):=λ{w M D'} ⟨h1,h2,h3,h4⟩ hs=>by
   have:=z2i M hs
   have e:M.A=M0.A.set M.l:=by unfold LogM.A LogA.set;simp only [h1,h2,h3,h4]
   rw [<- e]
   exact this
  refine zn (λv w'=>∃ (n:Nat) (M:LogM) (D':DiskA),v=((n:Int),())/\z1j M0.pre off M0.l D=(n,0,M.l,D')/\(M.d=M0.d/\M.pre=M0.pre/\M.seg=M0.seg/\M.gap=M0.gap)/\Sat w' (lgQ lg M::dk M0.d D'::r)) ?_ ?_
  rotate_left
  ·rintro _ w2 ⟨n,M,D',rfl,h1,h2,hs⟩
   refine wp_lt ?_
   rw [h1]
   exact ⟨rfl,rfl,hfin h2 hs⟩
  refine z06 (λm v w=>∃ (n:Nat) (M:LogM) (D':DiskA),v=((n:Int),())/\M.SM.length=m/\n+m<=1000000/\z09 0 M.l/\z1j M0.pre off M0.l D=(n+(z1j M0.pre off M.l D').1,(z1j M0.pre off M.l D').2)/\(M.d=M0.d/\M.pre=M0.pre/\M.seg=M0.seg/\M.gap=M0.gap)/\Sat w (lgQ lg M::dk M0.d D'::r)) M0.SM.length
   ⟨0,M0,D,rfl,rfl,by have:M0.l.length=M0.SM.length:=List.length_map ..;omega,hok,by rw [Nat.zero_add],⟨rfl,rfl,rfl,rfl⟩,hs⟩ ?_
  clear hs hok
  rintro m _ w ⟨n,M,D',rfl,hm,hnm,hok,heq,hM,hs⟩
  refine zl ?_
  obtain ⟨hokm,hs⟩:=z26 hs
  have hl:=hs.slen M.z (xs:=M.SM.map Prod.fst) (enc:=z0f)
  rw [List.length_map] at hl
  refine zm ?_
  refine za hs ?_
  refine z0h ?_
  refine za hs ?_
  match hSM:M.SM,hm with
  | [],hm =>
   have e:z1j M0.pre off M.l D'=(0,0,M.l,D'):=by unfold LogM.l;rw [hSM];rfl
   rw [e] at heq
   rw [hSM] at hl
   have hl:M.z.len=0:=hl
   have hg:¬ decide (((M.z.len:Nat):Int)>1)=true:=by rw [hl];simp
   refine z80 (λh=>absurd h hg) ?_
   refine z5m (none:Option Addr) hg ?_
   refine zd2 ?_ hg
   refine z5m (0:Int) hg ?_
   refine z0g ?_ (by rw [hl];simp)
   exact zk (zg ⟨n,M,D',rfl,heq,hM,z0v M hokm hs⟩)
  | [x],hm =>
   have e:z1j M0.pre off M.l D'=(0,0,M.l,D'):=by unfold LogM.l;rw [hSM];rfl
   rw [e] at heq
   rw [hSM] at hl
   have hl:M.z.len=1:=hl
   have hg:¬ decide (((M.z.len:Nat):Int)>1)=true:=by rw [hl];simp
   refine z80 (λh=>absurd h hg) ?_
   refine z5m (none:Option Addr) hg ?_
   refine zd2 ?_ hg
   refine z5m (0:Int) hg ?_
   refine z0g ?_ (by rw [hl];simp)
   exact zk (zg ⟨n,M,D',rfl,heq,hM,z0v M hokm hs⟩)
  | x::y::SM',hm =>
   have hl2:1<M.z.len:=by rw [hl,hSM];simp
   have hMl2:M.l=x.2.s::y.2.s::SM'.map λt=>t.2.s:=by unfold LogM.l;rw [hSM];rfl
   rw [hSM] at hs
   have hs0:=hs
   refine zde hs (xs:=(x::y::SM').map Prod.fst) (enc:=z0f) 1 (by simp) ?_
   have ey:((x::y::SM').map Prod.fst)[1]'(by simp)=y.1:=rfl
   rw [ey]
   refine z0h ?_
   have hs:=z1s (z58 (hs.pick [2]) (i:=1) (by simp))
   have hs:Sat w (pt y.1 _::z1y y.2.ix _::_):=hs
   refine za hs ?_
   clear hs
   have hs:=hs0
   have hif:z1j M0.pre off M.l D'=if y.2.s.base<=off then (if (z0p D' (ze M0.pre x.2.s.base zq)).1≠0 then (0,(z0p D' (ze M0.pre x.2.s.base zq)).1,M.l,(z0p D' (ze M0.pre x.2.s.base zq)).2)
     else ((z1j M0.pre off (y.2.s::SM'.map λt=>t.2.s) (z0p D' (ze M0.pre x.2.s.base zq)).2).1+1,(z1j M0.pre off (y.2.s::SM'.map λt=>t.2.s) (z0p D' (ze M0.pre x.2.s.base zq)).2).2)) else (0,0,M.l,D'):=by rw [hMl2];rfl
   refine zf (λhc=>?_) λhc=>?_
   rotate_left
   ·have:¬ y.2.s.base<=off:=λh=>hc ⟨by omega,h⟩
    rw [hif,if_neg this] at heq
    rw [<- hSM] at hs
    exact zk (zg ⟨n,M,D',rfl,heq,hM,z0v M hokm hs⟩)
   have hc2:y.2.s.base<=off:=hc.2
   rw [if_pos hc2] at hif
   rw [hMl2] at hok
   have hb0:=hok.2.1.base
   have hsp:=hokm.size
   obtain ⟨hMd2,hMp,hMs,hMg⟩:=hM
   have hsD:∀ {w:World} {X:List HP},Sat w (X++dk M0.d D'::r)->True:=λ_=>trivial
   refine zn (λv w'=>v=((z0p D' (ze M0.pre x.2.s.base zq)).1,())/\Sat w' (pt lg (.cells #[.pointer (some ⟨M.d,0,none⟩),.string M.pre,.int .i64 M.seg,.int .i64 M.gap,.slice M.z.a M.z.len M.z.cap] T.a30)::slc T.a17 1 M.z (((x::y::SM').map Prod.fst).flatMap z0f)::HP.all ((x::y::SM').map λt=>zy M.gap t.1 t.2)::dk M0.d (z0p D' (ze M0.pre x.2.s.base zq)).2::r)) ?_ ?_
   ·refine z0a hs λw' hs=>?_
    refine zm ?_
    refine z1e hs ?_
    refine zm ?_
    refine za hs ?_
    refine z77 hs (xs:=(x::y::SM').map Prod.fst) (enc:=z0f) 0 (by simp) ?_ rfl rfl
    have ex_:((x::y::SM').map Prod.fst)[0]'(by simp)=x.1:=rfl
    rw [ex_]
    refine zm ?_
    have hs:=z1s (z58 (hs.pick [2]) (i:=0) (by simp))
    have hs:Sat w' (pt x.1 (.cells #[.pointer (some ⟨x.2.ix,0,none⟩),.int .i64 x.2.s.base,.int .i64 x.2.s.fin,.int .i64 (z05 x.2.s.bs),.int .i64 (z0y (-1) x.2.s.bs),.int .i64 (x.2.s.file.length:Nat)] T.a31)::z1y x.2.ix (x.2.s.idx M.gap)::HP.all ((y::SM').map λt=>zy M.gap t.1 t.2)::pt lg (.cells #[.pointer (some ⟨M.d,0,none⟩),.string M.pre,.int .i64 M.seg,.int .i64 M.gap,.slice M.z.a M.z.len M.z.cap] T.a30)::slc T.a17 1 M.z (((x::y::SM').map Prod.fst).flatMap z0f)::dk M0.d D'::r):=hs
    refine za hs ?_
    refine zb (z4m (lg:=lg) x.2.s.base (by omega) (ByteArray.mk #[46,108,111,103]) (by decide) M.pre hsp hs) λ_ w' hs=>?_
    obtain ⟨rfl,hs⟩:=hs
    refine zd ?_ (by first|trivial|(repeat (first|exact trivial|exact λ_=>z0i hs|exact λ_=>z0n hs|refine And.intro ?_ ?_)))
    refine zj ?_
    rw [hMd2]
    refine zb (z7p (d:=M0.d) (A:=D') (ze M.pre x.2.s.base (bl (ByteArray.mk #[46,108,111,103]))) hs) λ_ w' hs=>?_
    obtain ⟨rfl,hs⟩:=hs
    refine zd ?_
    refine wp_lt ?_
    refine zj ?_
    have en:ze M.pre x.2.s.base (bl (ByteArray.mk #[46,108,111,103]))=ze M0.pre x.2.s.base zq:=by rw [hMp];rfl
    rw [en] at hs ⊢
    refine zg ⟨rfl,?_⟩
    have hs:Sat w' (zy M.gap x.1 x.2::_):=z1c x.2 (hs.pick [1,1])
    have hs:Sat w' (HP.all ((x::y::SM').map λt=>zy M.gap t.1 t.2)::_):=(hs.pick [0,1]).all_put
    rw [hMd2] at hs
    have hs:Sat w' (HP.all ((x::y::SM').map λt=>zy M.gap t.1 t.2)::dk M0.d (z0p D' (ze M0.pre x.2.s.base zq)).2::pt lg (.cells #[.pointer (some ⟨M0.d,0,none⟩),.string M.pre,.int .i64 M.seg,.int .i64 M.gap,.slice M.z.a M.z.len M.z.cap] T.a30)::slc T.a17 1 M.z (((x::y::SM').map Prod.fst).flatMap z0f)::r):=hs
    exact hs.pick [2,2,0]
   clear hs hs0
   rintro _ w3 ⟨rfl,hs⟩
   refine zf (λh3=>?_) λh3=>?_
   ·refine wp_lt ?_
    refine wp_lt ?_
    rw [hif,if_pos h3,Nat.add_zero] at heq
    rw [heq]
    rw [<- hSM] at hs
    refine zk (zk ⟨rfl,rfl,hfin ⟨hMd2,hMp,hMs,hMg⟩ (z0v M hokm hs)⟩)
   rw [hif,if_neg h3] at heq
   refine zm ?_
   refine za hs ?_
   refine wp_must (by omega) ?_
   refine zm ?_
   refine z0d hs λw' hs=>?_
   refine z1k (y:=((n+1:Nat):Int)) ?_ (by rw [w64 (by omega) (by omega)];omega)
   have hs:Sat w' (slc T.a17 1 M.z (((x::y::SM').map Prod.fst).flatMap z0f)::HP.all ((x::y::SM').map λt=>zy M.gap t.1 t.2)::pt lg (.cells #[.pointer (some ⟨M.d,0,none⟩),.string M.pre,.int .i64 M.seg,.int .i64 M.gap,.slice (z12 M.z.a 1 1 M.z.cap) (M.z.len-1) (M.z.cap-1)] T.a30)::dk M0.d (z0p D' (ze M0.pre x.2.s.base zq)).2::r):=hs.sub
   have hs:=hs.slc_drop (n:=1) (by omega)
   have hs:Sat w' (slc T.a17 1 ⟨z12 M.z.a 1 1 M.z.cap,M.z.len-1,M.z.cap-1⟩ (((y::SM').map Prod.fst).flatMap z0f)::HP.all ((x::y::SM').map λt=>zy M.gap t.1 t.2)::_):=hs
   have hs:Sat w' (zy M.gap x.1 x.2::HP.all ((y::SM').map λt=>zy M.gap t.1 t.2)::_):=(hs.pick [1]).all_cons
   have hs:=hs.tail
   refine z0l (y::SM').length ⟨n+1,{ M with z:=⟨z12 M.z.a 1 1 M.z.cap,M.z.len-1,M.z.cap-1⟩,SM:=y::SM' },(z0p D' (ze M0.pre x.2.s.base zq)).2,rfl,rfl,by simp at hm ⊢;omega,?_,?_,⟨hMd2,hMp,hMs,hMg⟩,z0v { M with z:=⟨z12 M.z.a 1 1 M.z.cap,M.z.len-1,M.z.cap-1⟩,SM:=y::SM' } hokm (hs.pick [2,1,0])⟩ (by simp at hm ⊢;omega)
   ·have h4:=hok.2.2
    have h5:∀ {n:Int} {l:List SegA},0<=n->z09 n l->z09 0 l:=λ{n l} hn h=>by
     cases l with
     | nil=>trivial
     | cons s l=>exact ⟨by have:=h.1;omega,h.2.1,h.2.2⟩
    exact h5 (by omega) h4
   ·have e6:LogM.l { M with z:=⟨z12 M.z.a 1 1 M.z.cap,M.z.len-1,M.z.cap-1⟩,SM:=y::SM' }=y.2.s::SM'.map λt=>t.2.s:=rfl
    rw [e6,heq]
    congr 1
    omega
end
def z3g (s:SegA) (k:Nat):Nat:=(shL s.base s.fin).length+((s.bs.take k).flatMap frL).length
def z08 (l:List SegA):List BatM:=l.flatMap SegA.bs
def z5q (l:List SegA) (off most:Int):Int × List BatM:=if most<1 then (2,[]) else if off<zo l\/off>zp l then (8,[]) else (0,((z08 l).filterMap (z0k off)).take most.toNat)
def zsm (s:SegA) (o:Option EntA):Int:=match o with
 | none=>((shL s.base s.fin).length:Int)
 | some e=>e.place
theorem zt2 (s:SegA):z3g s 0=(shL s.base s.fin).length:=by simp [z3g]
theorem zw4 (s:SegA):z3g s s.bs.length=s.file.length:=by unfold z3g;rw [List.take_length,z1u]
theorem zij (s:SegA) {k:Nat} (hk:k<s.bs.length):z3g s (k+1)=z3g s k+(frL s.bs[k]).length:=by
 unfold z3g
 rw [List.take_succ_eq_append_getElem hk,List.flatMap_append,List.length_append]
 simp
 omega
theorem zgr (s:SegA) (k:Nat):z3g s k<=s.file.length:=by
 unfold z3g
 rw [z1u]
 have:(s.bs.flatMap frL)=(s.bs.take k).flatMap frL++(s.bs.drop k).flatMap frL:=by rw [<- List.flatMap_append,List.take_append_drop]
 rw [this,List.length_append];omega
theorem ztz (s:SegA) (k:Nat):s.file.drop (z3g s k)=(s.bs.drop k).flatMap frL:=by
 have e:s.file=(shL s.base s.fin++(s.bs.take k).flatMap frL)++(s.bs.drop k).flatMap frL:=by
  unfold SegA.file
  rw [List.append_assoc,<- List.flatMap_append,List.take_append_drop]
 rw [e]
 exact List.drop_left' (by rw [List.length_append];rfl)
theorem zql {s:SegA} (h:SegOk s) {k:Nat} (hk:k<s.bs.length):z19 (s.file.drop (z3g s k))=some (z2e s.bs[k],(frL s.bs[k]).length)/\z6b (z2e s.bs[k])=some s.bs[k]:=by
 obtain ⟨hv,hp⟩:=h.bs.valid s.bs[k] (List.getElem_mem hk)
 have hl:=z4c hv
 have hf:=z3l hv
 refine ⟨?_,by rw [zhu hv,hp]⟩
 rw [ztz,List.drop_eq_getElem_cons hk,List.flatMap_cons,hf.2]
 exact z6i hl.2 _
theorem z1p.lt:∀ {n:Int} {bs:List BatM},z1p n bs->∀ (j i:Nat) (hi:i<bs.length) (hj:j<i),n<=(bs[j]'(by omega)).base/\(bs[j]'(by omega)).base+z00 (bs[j]'(by omega))<=bs[i].base
 | n,b::bs,⟨h1,h2,h3,h4⟩,0,i+1,hi,hj=>by
  refine ⟨h3,?_⟩
  simp only [List.getElem_cons_zero,List.getElem_cons_succ]
  have hi:i<bs.length:=by simpa using hi
  obtain ⟨s1,-,-,-,-⟩:=z1d b h1
  cases i with
  | zero =>
   cases bs with
   | nil=>simp at hi
   | cons c cs=>exact h4.2.2.1
  | succ i =>
   have:=(h4.lt 0 (i+1) hi (by omega)).1
   have h5:=(h4.lt 0 (i+1) hi (by omega)).2
   obtain ⟨s2,-,-,-,-⟩:=z1d _ (h4.valid _ (List.getElem_mem (show 0<bs.length by omega))).1
   omega
 | n,b::bs,⟨h1,h2,h3,h4⟩,j+1,i+1,hi,hj=>by
  simp only [List.getElem_cons_succ]
  have hi:i<bs.length:=by simpa using hi
  have:=h4.lt j i hi (by omega)
  obtain ⟨s1,-,-,-,-⟩:=z1d b h1
  exact ⟨by omega,this.2⟩
theorem z1p.le_next {n:Int} {bs:List BatM} (h:z1p n bs) {b:BatM} (hb:b ∈ bs):b.base+z00 b<=z05 bs:=by
 obtain ⟨j,hj,rfl⟩:=List.mem_iff_getElem.1 hb
 have hne:bs≠[]:=by rintro rfl;simp at hj
 have e:z05 bs=(bs[bs.length-1]'(by omega)).base+z00 (bs[bs.length-1]'(by omega)):=by
  unfold z05
  rw [List.getLast?_eq_getElem?,List.getElem?_eq_getElem (by omega)]
 rw [e]
 by_cases hjl:j=bs.length-1
 ·subst hjl;exact Int.le_refl _
 ·have:=(h.lt j (bs.length-1) (by omega) (by omega)).2
  obtain ⟨s1,-,-,-,-⟩:=z1d _ (h.valid _ (List.getElem_mem (show bs.length-1<bs.length by omega))).1
  omega
theorem zfn {off:Int} {b:BatM} (hv:z01 b=0) (h:b.base+z00 b<=off):z0k off b=none:=by
 unfold z0k
 rw [if_pos (.inr (by unfold z2n;rw [if_neg (by rw [hv];simp)];exact h))]
theorem znl {off:Int} {b c:BatM} (hp:b.p=b) (h:z0k off b=some c):c.p=c:=by
 have hx:b.x=z6v:=by rw [<- hp];rfl
 unfold z0k at h
 split at h
 ·cases h
 ·split at h
  ·simp only [Option.some.injEq] at h;subst h;exact hp
  ·simp only [Option.some.injEq] at h;subst h;unfold zan BatM.p;simp only [hx];rfl
theorem zab {α β:Type} {f:α->Option β} {l:List α} (h:∀ x ∈ l,f x=none):l.filterMap f=[]:=by
 rw [List.filterMap_eq_nil_iff];exact h
theorem zsz {s:SegA} (h:SegOk s) (hl:s.file.length<=4194304) (gap off:Int):∃ k,k<=s.bs.length/\zsm s (z3o (s.idx gap).l off)=((z3g s k:Nat):Int)/\∀ b ∈ s.bs.take k,b.base+z00 b<=off:=by
 have hi:=zd0 gap s.bs.length (n:=s.base) (q:=(shL s.base s.fin).length) rfl h.base.1 (by omega) h.bs (by have:=z1u s;omega)
 cases hf:z3o (s.idx gap).l off with
 | none=>exact ⟨0,Nat.zero_le _,by rw [zt2];rfl,by simp⟩
 | some e =>
  unfold z3o at hf
  obtain ⟨a,c,hac,he,-⟩:=zlh hf
  have he:e.offset<=off:=by simpa using he
  obtain ⟨i,hil,hie⟩:=hi.ent e (by show e ∈ (s.idx gap).l;rw [hac];simp)
  refine ⟨i,by omega,?_,λb hb=>?_⟩
  ·show e.place=_
   rw [hie]
   unfold z3g
   simp only
   omega
  ·obtain ⟨j,hj,rfl⟩:=List.mem_iff_getElem.1 hb
   rw [List.length_take] at hj
   rw [List.getElem_take]
   have:=(h.bs.lt j i hil (by omega)).2
   rw [hie] at he
   simp only at he
   omega
theorem z09.skip:∀ {n:Int} {l:List SegA},z09 n l->∀ (i j:Nat) (hj:j<l.length) (hi:i<j),(l[i]'(by omega)).reach<=l[j].base/\(l[i]'(by omega)).base<l[j].base
 | n,s::l,⟨h1,h2,h3⟩,0,j+1,hj,_=>by
  have hj:j<l.length:=by simpa using hj
  have:=(h3.mem l[j] (List.getElem_mem hj)).2
  simp only [List.getElem_cons_zero,List.getElem_cons_succ]
  omega
 | n,s::l,⟨h1,h2,h3⟩,i+1,j+1,hj,hi=>by
  simp only [List.getElem_cons_succ]
  exact h3.skip i j (by simpa using hj) (by omega)
theorem zw7 {l:List SegA} (hok:z09 0 l) {off:Int} {i:Nat} (hi:i<l.length) (hb:l[i].base<=off\/i=0):(z08 l).filterMap (z0k off)=(z08 (l.drop i)).filterMap (z0k off):=by
 have e:z08 l=z08 (l.take i)++z08 (l.drop i):=by unfold z08;rw [<- List.flatMap_append,List.take_append_drop]
 rw [e,List.filterMap_append,zab (l:=z08 (l.take i)),List.nil_append]
 intro b hb'
 obtain ⟨s,hs,hbs⟩:=List.mem_flatMap.1 hb'
 obtain ⟨j,hj,rfl⟩:=List.mem_iff_getElem.1 hs
 rw [List.length_take] at hj
 rw [List.getElem_take] at hbs
 have h1:=(hok.skip j i hi (by omega)).1
 have hsg:=(hok.mem (l[j]'(by omega)) (List.getElem_mem _)).1
 have h2:=hsg.bs.le_next hbs
 have h3:=(z38 hsg).2.2.1
 refine zfn (hsg.bs.valid b hbs).1 ?_
 rcases hb with hb|hb
 ·omega
 ·omega
theorem zgh {s:SegA} (h:SegOk s):s.bs.length*10<=s.file.length:=by
 have:=z8u h.bs
 rw [z1u];omega
def z11 (pre:ByteArray):List ByteArray->DiskA->Int × List Int × DiskA
 | [],D=>(0,[],D)
 | n::ns,D=>if (z1o pre n z0o).isSome=true/\(z0p D n).1≠0 then ((z0p D n).1,[],(z0p D n).2) else
  ((z11 pre ns (if (z1o pre n z0o).isSome then (z0p D n).2 else D)).1,(match z1o pre n zq with|some b=>[(b:Int)]|none=>[])++(z11 pre ns (if (z1o pre n z0o).isSome then (z0p D n).2 else D)).2.1,(z11 pre ns (if (z1o pre n z0o).isSome then (z0p D n).2 else D)).2.2)
def z2f (pre:ByteArray):List Int->DiskA->Int × DiskA
 | [],D=>(0,D)
 | b::bs,D=>if (z0p D (ze pre b zq)).1≠0 then z0p D (ze pre b zq) else z2f pre bs (z0p D (ze pre b zq)).2
def z1w (pre:ByteArray) (l:List SegA) (D:DiskA) (base:Int):(Bool × Int) × List SegA × DiskA:=match z03 D.fs (ze pre base zq) with
 | none=>((false,3),l,D)
 | some p=>match z4u base p.1 with
  | none=>((false,(z0p D (ze pre base zq)).1),l,(z0p D (ze pre base zq)).2)
  | some q=>if q.2=p.1.length then ((true,0),l++[q.1],D) else ((false,(cutA' D (ze pre base zq) (q.2:Nat)).1),l++[q.1],(cutA' D (ze pre base zq) (q.2:Nat)).2)
def z2o (pre:ByteArray):List Int->List SegA->DiskA->Int × List SegA × DiskA
 | [],l,D=>(0,l,D)
 | b::bs,l,D=>if b<zp l then (if (z0p D (ze pre b zq)).1≠0 then ((z0p D (ze pre b zq)).1,l,(z0p D (ze pre b zq)).2) else z2o pre bs l (z0p D (ze pre b zq)).2) else
  if (z1w pre l D b).1.2≠0 then ((z1w pre l D b).1.2,(z1w pre l D b).2) else
  if (z1w pre l D b).1.1=true then z2o pre bs (z1w pre l D b).2.1 (z1w pre l D b).2.2 else ((z2f pre bs (z1w pre l D b).2.2).1,(z1w pre l D b).2.1,(z2f pre bs (z1w pre l D b).2.2).2)
def z4s (pre:ByteArray) (D:DiskA):Int × List SegA × DiskA :=
 if (z11 pre (z15 (z18 pre) D.fs) D).1≠0 then ((z11 pre (z15 (z18 pre) D.fs) D).1,[],(z11 pre (z15 (z18 pre) D.fs) D).2.2) else
  z2o pre (z11 pre (z15 (z18 pre) D.fs) D).2.1 [] (z11 pre (z15 (z18 pre) D.fs) D).2.2
theorem zyu (pre:ByteArray):pre++ByteArray.mk #[45]=z18 pre:=by
 apply zcf
 rw [zgc]
 unfold bl
 simp
theorem zub {pre n:ByteArray} {x:List UInt8} {v:Nat} (h:z1o pre n x=some v):v<17592186044416:=by
 unfold z1o at h
 split at h
 ·have:=zgj (k:=0) h (by omega)
  have h2:16 ^ (0+(((bl n).drop ((bl pre).length+1)).take 11).length)<=16 ^ 11:=Nat.pow_le_pow_right (by omega) (by rw [List.length_take];omega)
  omega
 ·cases h
theorem zid {pre:ByteArray}:∀ {ns:List ByteArray} {D:DiskA},∀ b ∈ (z11 pre ns D).2.1,0<=b/\b<17592186044416
 | [],D,b,h=>by cases h
 | n::ns,D,b,h=>by
  unfold z11 at h
  split at h
  ·cases h
  ·simp only at h
   rcases List.mem_append.1 h with h|h
   ·cases hb:z1o pre n zq with
    | none=>rw [hb] at h;cases h
    | some v =>
     rw [hb] at h
     simp only [List.mem_cons,List.not_mem_nil,or_false] at h
     have:=zub hb
     omega
   ·exact zid b h
theorem zfk {pre:ByteArray}:∀ {ns:List ByteArray} {D:DiskA},(z11 pre ns D).2.1.length<=ns.length
 | [],D=>Nat.le_refl _
 | n::ns,D=>by
  unfold z11
  split
  ·exact Nat.zero_le _
  ·simp only [List.length_append,List.length_cons]
   have:=zfk (pre:=pre) (ns:=ns) (D:=if (z1o pre n z0o).isSome then (z0p D n).2 else D)
   split <;> simp <;> omega
section
variable {w:World} {l r:List HP} {lg:Nat} {M:LogM} {A:LogA} {D:DiskA} {gap:Int} {a:Nat} {t:SegM}
def lgR (M:LogM):HP:=HP.star (slc T.a17 1 M.z ((M.SM.map Prod.fst).flatMap z0f)) (HP.all (M.SM.map λt=>zy M.gap t.1 t.2))
theorem z8w (hs:Sat w (lgQ lg M::l)):okM M.gap M.seg M.pre/\Sat w (pt lg (.cells #[.pointer (some ⟨M.d,0,none⟩),.string M.pre,.int .i64 M.seg,.int .i64 M.gap,.slice M.z.a M.z.len M.z.cap] T.a30)::lgR M::l):=by
 obtain ⟨h,hs⟩:=hs.and
 exact ⟨h,hs.star⟩
theorem z4t (M:LogM) (h:okM M.gap M.seg M.pre) (hs:Sat w (pt lg (.cells #[.pointer (some ⟨M.d,0,none⟩),.string M.pre,.int .i64 M.seg,.int .i64 M.gap,.slice M.z.a M.z.len M.z.cap] T.a30)::lgR M::l)):Sat w (lgQ lg M::l):=.and_mk h (.star_mk hs)
theorem zyq {r1:List HP} [hf:Fo l lgQ lg M r1] [hf2:Fo r1 dk M.d D r] (hs:Sat w l) :
  Ret P F.a66 #[.pointer (some ⟨lg,0,none⟩)] w λvs w' =>
   ((z11 M.pre (z15 (z18 M.pre) D.fs) D).1≠0/\vs=[.slice none 0 0,.int .i64 (z11 M.pre (z15 (z18 M.pre) D.fs) D).1]/\Sat w' (lgQ lg M::dk M.d (z11 M.pre (z15 (z18 M.pre) D.fs) D).2.2::r)) \/
   ((z11 M.pre (z15 (z18 M.pre) D.fs) D).1=0/\∃ z:Sl,vs=[z.v,.int .i64 0]/\Sat w' (slc T.a11 1 z ((z11 M.pre (z15 (z18 M.pre) D.fs) D).2.1.flatMap z2u)::lgQ lg M::dk M.d (z11 M.pre (z15 (z18 M.pre) D.fs) D).2.2::r)) :=
 zqk _ <| by
  unfold z03f
  have hs:=hs.perm (hf.perm.trans (.cons _ hf2.perm))
  clear hf hf2
  obtain ⟨hokm,hs⟩:=z8w hs
  have hsz:=hokm.size
  refine z0a hs λw' hs=>?_
  refine zm ?_
  refine za hs ?_
  refine zm ?_
  refine za hs ?_
  refine wp_must (by omega) ?_
  rw [zyu]
  obtain ⟨m_,FS_,-,hokD,-⟩:=z2m (hs.pick [2])
  have hok24:∀ n ∈ z15 (z18 M.pre) D.fs,n.size<=24:=λn hn=>by
   unfold z15 at hn
   obtain ⟨f,hf,rfl⟩:=List.mem_map.1 (List.mem_filter.1 hn).1
   exact hokD.names f hf
  have hnl:(z15 (z18 M.pre) D.fs).length<=128:=by
   unfold z15
   exact Nat.le_trans (List.length_filter_le _ _) (by rw [List.length_map];exact hokD.many)
  refine zb (znf (d:=M.d) (A:=D) (z18 M.pre) hs) λ_ w' hs=>?_
  obtain ⟨x,rfl,hs⟩:=hs
  refine zd ?_
  refine zj ?_
  generalize z15 (z18 M.pre) D.fs=ns at *
  have hl:=hs.slen x (xs:=ns) (enc:=z2s)
  refine zn (λq w'=>∃ z:Sl,q=(z,())/\(z11 M.pre ns D).1=0/\Sat w' (slc T.a11 1 z ((z11 M.pre ns D).2.1.flatMap z2u)::lgQ lg M::dk M.d (z11 M.pre ns D).2.2::r)) ?_ ?_
  rotate_left
  ·rintro _ w2 ⟨z,rfl,h1,hs⟩
   exact ⟨rfl,.inr ⟨h1,z,rfl,hs⟩⟩
  have hs:Sat w' (slc T.a11 1 ⟨none,0,0⟩ (([]:List Int).flatMap z2u)::dk M.d D::pt lg (.cells #[.pointer (some ⟨M.d,0,none⟩),.string M.pre,.int .i64 M.seg,.int .i64 M.gap,.slice M.z.a M.z.len M.z.cap] T.a30)::lgR M::slc T.a33 1 x (ns.flatMap z2s)::r):=by
   have h1:Sat w' (slc T.a11 1 ⟨none,0,0⟩ (([]:List Int).flatMap z2u)::_):=hs.slc_nil
   exact h1.sub
  refine z06 (λm v w=>∃ (i:Nat) (z:Sl) (done:List Int) (D':DiskA),v=(z,((i:Int),()))/\i<=ns.length/\ns.length-i=m/\done.length<=i /\
   ((z11 M.pre ns D).1=(z11 M.pre (ns.drop i) D').1/\(z11 M.pre ns D).2.2=(z11 M.pre (ns.drop i) D').2.2/\((z11 M.pre (ns.drop i) D').1=0->(z11 M.pre ns D).2.1=done++(z11 M.pre (ns.drop i) D').2.1)) /\
   Sat w (slc T.a11 1 z (done.flatMap z2u)::dk M.d D'::pt lg (.cells #[.pointer (some ⟨M.d,0,none⟩),.string M.pre,.int .i64 M.seg,.int .i64 M.gap,.slice M.z.a M.z.len M.z.cap] T.a30)::lgR M::slc T.a33 1 x (ns.flatMap z2s)::r)) ns.length
   ⟨0,⟨none,0,0⟩,[],D,rfl,by omega,rfl,by simp,⟨rfl,rfl,λ_=>rfl⟩,hs⟩ ?_
  clear hs
  rintro m _ w ⟨i,z,done,D',rfl,hi,hm,hdl,⟨hq1,hq2,hq3⟩,hs⟩
  refine zl ?_
  refine zf (λhc=>?_) λhc=>?_
  rotate_left
  ·have e:ns.drop i=[]:=List.drop_eq_nil_of_le (by omega)
   rw [e] at hq1 hq2 hq3
   have hq3:=hq3 rfl
   have e2:(z11 M.pre [] D').2.1=[]:=rfl
   rw [e2,List.append_nil] at hq3
   refine zk (zg ⟨z,rfl,hq1,?_⟩)
   have e3:(z11 M.pre [] D').2.2=D':=rfl
   rw [hq2,hq3,e3]
   have hs:=z4t M hokm (hs.pick [2,2])
   exact hs.sub
  have hil:i<ns.length:=by omega
  have hdrop:ns.drop i=ns[i]::ns.drop (i+1):=List.drop_eq_getElem_cons hil
  rw [hdrop] at hq1 hq2 hq3
  have hn24:=hok24 ns[i] (List.getElem_mem hil)
  refine z1z hs (xs:=ns) (enc:=z2s) i hil ?_
  refine wp_lt ?_
  refine zb (znn (lg:=lg) ns[i] (ByteArray.mk #[46,108,111,103]) (by omega) (by decide) M.pre hsz hs) λ_ w' hs=>?_
  obtain ⟨rfl,hs⟩:=hs
  refine zd ?_
  refine wp_lt ?_
  refine wp_lt ?_
  have eb:z1o M.pre ns[i] (bl (ByteArray.mk #[46,108,111,103]))=z1o M.pre ns[i] zq:=rfl
  rw [eb]
  refine zn (λq w'=>∃ z':Sl,q=(z',())/\Sat w' (slc T.a11 1 z' ((done++(match z1o M.pre ns[i] zq with|some b=>[(b:Int)]|none=>[])).flatMap z2u)::dk M.d D'::pt lg (.cells #[.pointer (some ⟨M.d,0,none⟩),.string M.pre,.int .i64 M.seg,.int .i64 M.gap,.slice M.z.a M.z.len M.z.cap] T.a30)::lgR M::slc T.a33 1 x (ns.flatMap z2s)::r)) ?_ ?_
  ·cases hb:z1o M.pre ns[i] zq with
   | none =>
    refine z0g ?_ (by simp)
    refine zg ⟨z,rfl,?_⟩
    rw [List.append_nil]
    exact hs
   | some b =>
    refine z1b ?_ (by rfl)
    refine z5z (xs:=done) (enc:=z2u) (y:=(b:Int)) hs (λz' w' hs=>?_) rfl (by omega)
    exact zg ⟨z',rfl,hs⟩
  rintro _ w2 ⟨z',rfl,hs⟩
  have hdl2:(done++(match z1o M.pre ns[i] zq with|some b=>[(b:Int)]|none=>[])).length<=i+1:=by
   rw [List.length_append]
   split <;> simp <;> omega
  refine zb (znn (lg:=lg) ns[i] (ByteArray.mk #[46,110,101,119]) (by omega) (by decide) M.pre hsz hs) λ_ w' hs=>?_
  obtain ⟨rfl,hs⟩:=hs
  refine zd ?_
  refine wp_lt ?_
  refine wp_lt ?_
  have eb2:z1o M.pre ns[i] (bl (ByteArray.mk #[46,110,101,119]))=z1o M.pre ns[i] z0o:=rfl
  rw [eb2]
  have hun:z11 M.pre (ns[i]::ns.drop (i+1)) D'=if (z1o M.pre ns[i] z0o).isSome=true/\(z0p D' ns[i]).1≠0 then ((z0p D' ns[i]).1,[],(z0p D' ns[i]).2) else
   ((z11 M.pre (ns.drop (i+1)) (if (z1o M.pre ns[i] z0o).isSome then (z0p D' ns[i]).2 else D')).1,(match z1o M.pre ns[i] zq with|some b=>[(b:Int)]|none=>[])++(z11 M.pre (ns.drop (i+1)) (if (z1o M.pre ns[i] z0o).isSome then (z0p D' ns[i]).2 else D')).2.1,(z11 M.pre (ns.drop (i+1)) (if (z1o M.pre ns[i] z0o).isSome then (z0p D' ns[i]).2 else D')).2.2):=rfl
  refine zn (λq w'=>¬ ((z1o M.pre ns[i] z0o).isSome=true/\(z0p D' ns[i]).1≠0)/\Sat w' (slc T.a11 1 z' ((done++(match z1o M.pre ns[i] zq with|some b=>[(b:Int)]|none=>[])).flatMap z2u)::dk M.d (if (z1o M.pre ns[i] z0o).isSome then (z0p D' ns[i]).2 else D')::pt lg (.cells #[.pointer (some ⟨M.d,0,none⟩),.string M.pre,.int .i64 M.seg,.int .i64 M.gap,.slice M.z.a M.z.len M.z.cap] T.a30)::lgR M::slc T.a33 1 x (ns.flatMap z2s)::r)) ?_ ?_
  ·refine zf (λh=>?_) λh=>?_
   rotate_left
   ·refine zg ⟨λhh=>h hh.1,?_⟩
    rw [if_neg h]
    exact hs
   refine zm ?_
   refine za hs ?_
   refine zb (z7p (d:=M.d) (A:=D') ns[i] hs) λ_ w' hs=>?_
   obtain ⟨rfl,hs⟩:=hs
   refine zd ?_
   refine wp_lt ?_
   refine zf (λh2=>?_) λh2=>?_
   ·refine wp_lt ?_
    rw [if_pos ⟨h,h2⟩] at hun
    rw [hun] at hq1 hq2
    have hs:=z4t M hokm (hs.pick [2,2])
    refine zk (zk (zk ⟨rfl,.inl ⟨by rw [hq1];exact h2,by rw [hq1],?_⟩⟩))
    rw [hq2]
    exact hs.sub
   ·refine zg ⟨λhh=>h2 hh.2,?_⟩
    rw [if_pos h]
    exact hs.sub
  rintro _ w3 ⟨hno,hs⟩
  rw [if_neg hno] at hun
  rw [hun] at hq1 hq2 hq3
  refine zl ?_
  rw [wS (i:=i) (by omega)]
  refine z0l (ns.length-(i+1)) ⟨i+1,z',done++(match z1o M.pre ns[i] zq with|some b=>[(b:Int)]|none=>[]),_,rfl,by omega,rfl,hdl2,⟨hq1,hq2,λh=>?_⟩,hs⟩
  rw [hq3 h,List.append_assoc]
theorem z002 (x:Sl) (bs:List Int) (hb:∀ b ∈ bs,0<=b/\b<17592186044416) {r1:List HP} [hf:Fo l lgQ lg M r1] [hf2:Fo r1 dk M.d D r] (hx:FocR r x 1 (bs.flatMap z2u)) (hlen:bs.length<=1000000) (hs:Sat w l) :
  Ret P F.a65 #[.pointer (some ⟨lg,0,none⟩),x.v] w λvs w'=>vs=[.int .i64 (z2f M.pre bs D).1]/\Sat w' (lgQ lg M::dk M.d (z2f M.pre bs D).2::r) :=
 zqu _ x <| by
  unfold z03c
  have hs:=hs.perm (hf.perm.trans (.cons _ hf2.perm))
  clear hf hf2
  obtain ⟨hokm,hs⟩:=z8w hs
  have hsz:=hokm.size
  have hl:=hs.slen x (xs:=bs) (enc:=z2u)
  refine zn (λ_ w'=>(z2f M.pre bs D).1=0/\Sat w' (lgQ lg M::dk M.d (z2f M.pre bs D).2::r)) ?_ ?_
  rotate_left
  ·rintro _ w2 ⟨h1,hs⟩
   rw [h1]
   exact ⟨rfl,rfl,hs⟩
  refine z06 (λm v w=>∃ (i:Nat) (D':DiskA),v=((i:Int),())/\i<=bs.length/\bs.length-i=m/\z2f M.pre bs D=z2f M.pre (bs.drop i) D' /\
   Sat w (pt lg (.cells #[.pointer (some ⟨M.d,0,none⟩),.string M.pre,.int .i64 M.seg,.int .i64 M.gap,.slice M.z.a M.z.len M.z.cap] T.a30)::lgR M::dk M.d D'::r)) bs.length ⟨0,D,rfl,by omega,rfl,rfl,hs⟩ ?_
  clear hs
  rintro m _ w ⟨i,D',rfl,hi,hm,hq,hs⟩
  refine zl ?_
  refine zf (λhc=>?_) λhc=>?_
  rotate_left
  ·have e:bs.drop i=[]:=List.drop_eq_nil_of_le (by omega)
   rw [e] at hq
   refine zk (zg ⟨by rw [hq];rfl,?_⟩)
   rw [hq]
   exact z4t M hokm hs
  have hil:i<bs.length:=by omega
  rw [List.drop_eq_getElem_cons hil] at hq
  have hbb:=hb bs[i] (List.getElem_mem hil)
  refine z1z hs (xs:=bs) (enc:=z2u) i hil ?_
  refine wp_lt ?_
  have hun:z2f M.pre (bs[i]::bs.drop (i+1)) D'=if (z0p D' (ze M.pre bs[i] zq)).1≠0 then z0p D' (ze M.pre bs[i] zq) else z2f M.pre (bs.drop (i+1)) (z0p D' (ze M.pre bs[i] zq)).2:=rfl
  refine zn (λv w'=>v=((z0p D' (ze M.pre bs[i] zq)).1,())/\Sat w' (pt lg (.cells #[.pointer (some ⟨M.d,0,none⟩),.string M.pre,.int .i64 M.seg,.int .i64 M.gap,.slice M.z.a M.z.len M.z.cap] T.a30)::lgR M::dk M.d (z0p D' (ze M.pre bs[i] zq)).2::r)) ?_ ?_
  ·refine z0a hs λw' hs=>?_
   refine zm ?_
   refine z1e hs ?_
   refine zb (z4m (lg:=lg) bs[i] hbb (ByteArray.mk #[46,108,111,103]) (by decide) M.pre hsz hs) λ_ w' hs=>?_
   obtain ⟨rfl,hs⟩:=hs
   refine zd ?_ (by first|trivial|(repeat (first|exact trivial|exact λ_=>z0i hs|exact λ_=>z0n hs|refine And.intro ?_ ?_)))
   refine zj ?_
   refine zb (z7p (d:=M.d) (A:=D') (ze M.pre bs[i] (bl (ByteArray.mk #[46,108,111,103]))) hs) λ_ w' hs=>?_
   obtain ⟨rfl,hs⟩:=hs
   refine zd ?_
   refine wp_lt ?_
   refine zj ?_
   have hs:Sat w' (dk M.d (z0p D' (ze M.pre bs[i] zq)).2::_):=hs
   exact zg ⟨rfl,hs.sub⟩
  rintro _ w2 ⟨rfl,hs⟩
  refine zf (λh=>?_) λh=>?_
  ·refine wp_lt ?_
   rw [if_pos h] at hun
   rw [hun] at hq
   rw [hq]
   exact zk (zk ⟨rfl,rfl,z4t M hokm hs⟩)
  ·rw [if_neg h] at hun
   rw [hun] at hq
   rw [wS (i:=i) (by omega)]
   exact z0l (bs.length-(i+1)) ⟨i+1,_,rfl,by omega,rfl,hq,hs⟩
end
theorem zfw (k:Nat) (n:Int) (raw:List UInt8):z2x (k+1) n raw=match z19 raw with
  | none=>([],0)
  | some (body,m)=>match z6b body with
   | none=>([],0)
   | some b=>if b.base<n then ([],0) else (b::(z2x k (b.base+z00 b) (raw.drop m)).1,m+(z2x k (b.base+z00 b) (raw.drop m)).2):=rfl
theorem zce {fs:List FileA} {n:ByteArray} {p:List UInt8 × Nat} (h:z03 fs n=some p):p.1.length<=used fs:=z7h (zq2 h)
section
variable {w:World} {l r:List HP} {lg:Nat} {M:LogM} {A:LogA} {D:DiskA} {gap:Int} {a:Nat} {t:SegM}
theorem zvv (b:BatM) (z:Sl) (hv:z01 b=0) (hp:b.p=b) [hf:Fo l (zy gap) a t r] [hb:FocR r z 4 (b.rs.flatMap zw)] (hlen:t.s.file.length+(frL b).length<=1000000000) (hs:Sat w l) :
  Ret P F.a84 #[.pointer (some ⟨a,0,none⟩),.agg (zi (b.at z)).toArray,.int .i64 ((frL b).length:Nat)] w λvs w'=>vs=[]/\Sat w' (zy gap a ⟨t.ix,t.s.add [b]⟩::r):=by
 have hb':FocR r (b.at z).x 4 ((b.at z).rs.flatMap zw):=hb
 have h:=zj9 (gap:=gap) (a:=a) (b.at z) hv hlen hs
 have e:t.s.add [b.at z]=t.s.add [b]:=by
  unfold SegA.add
  have:(b.at z).p=b.p:=rfl
  simp only [List.map_cons,List.map_nil,this]
 rw [e] at h
 exact h
set_option maxHeartbeats 1000000 in
theorem z019 (base:Int) (hb:0<=base/\base<17592186044416) {r1:List HP} [hf:Fo l lgQ lg M r1] [hf2:Fo r1 dk M.d D r] (hlen:M.SM.length<=1000000) (hs:Sat w l) :
  Ret P F.a73 #[.pointer (some ⟨lg,0,none⟩),.int .i64 base] w λvs w'=>vs=[.bool (z1w M.pre M.l D base).1.1,.int .i64 (z1w M.pre M.l D base).1.2] /\
   ∃ M':LogM,(M'.d=M.d/\M'.pre=M.pre/\M'.seg=M.seg/\M'.gap=M.gap)/\M'.l=(z1w M.pre M.l D base).2.1/\M'.SM.length<=M.SM.length+1/\Sat w' (lgQ lg M'::dk M.d (z1w M.pre M.l D base).2.2::r) :=
 zrz _ base <| by
  unfold z03b
  have hs:=hs.perm (hf.perm.trans (.cons _ hf2.perm))
  clear hf hf2
  obtain ⟨hokm,hs⟩:=z8w hs
  have hsz:=hokm.size
  obtain ⟨m_,FS_,-,hokD,-⟩:=z2m (hs.pick [2])
  refine zb (z4m (lg:=lg) base hb (ByteArray.mk #[46,108,111,103]) (by decide) M.pre hsz hs) λ_ w' hs=>?_
  obtain ⟨rfl,hs⟩:=hs
  refine zd ?_
  have en:ze M.pre base (bl (ByteArray.mk #[46,108,111,103]))=ze M.pre base zq:=rfl
  rw [en]
  generalize hnm:ze M.pre base zq=nm at *
  refine wp_lt ?_
  refine zm ?_
  refine za hs ?_
  have hsame:∀ {w:World} {D':DiskA},Sat w (pt lg (.cells #[.pointer (some ⟨M.d,0,none⟩),.string M.pre,.int .i64 M.seg,.int .i64 M.gap,.slice M.z.a M.z.len M.z.cap] T.a30)::lgR M::dk M.d D'::r)->∃ M':LogM,(M'.d=M.d/\M'.pre=M.pre/\M'.seg=M.seg/\M'.gap=M.gap)/\M'.l=M.l/\M'.SM.length<=M.SM.length+1/\Sat w (lgQ lg M'::dk M.d D'::r):=λhs=>⟨M,⟨rfl,rfl,rfl,rfl⟩,rfl,by omega,z4t M hokm hs⟩
  unfold z1w
  rw [hnm]
  refine zb (zkp (d:=M.d) (A:=D) nm hs) λ_ w' hs=>?_
  rcases hs with ⟨f,hff,hfn,x,rfl,hs⟩|⟨hno,rfl,hs⟩
  rotate_left
  ·refine zd ?_
   refine wp_lt ?_
   refine z1b ?_ (by decide)
   refine wp_lt ?_
   rw [z8j.2 hno]
   exact ⟨rfl,rfl,hsame hs.sub⟩
  refine zd ?_
  refine wp_lt ?_
  refine z0g ?_ (by simp)
  have hfd:z03 D.fs nm=some (f.b,f.kept):=by rw [<- hfn];exact z6c (z23 hokD.sorted) hff
  have hrl:f.b.length<=4194304:=Nat.le_trans (z7h hff) hokD.used
  rw [hfd]
  simp only
  generalize f.b=raw at *
  have hl:=hs.slen x (xs:=raw) (enc:=zh)
  have hcap:=hs.slc_cap
  refine zb (ze5 x raw hcap (by omega) hs) λ_ w' hs=>?_
  obtain ⟨y,rfl,hs⟩:=hs
  refine zd ?_
  refine wp_lt ?_
  refine wp_lt ?_
  refine zn (λq w'=>∃ v:Int,q=(v,(z4u base raw).isSome,())/\(∀ s,z4u base raw=some s->v=s.1.fin)/\Sat w' (slc T.a39 1 x (raw.flatMap zh)::pt lg (.cells #[.pointer (some ⟨M.d,0,none⟩),.string M.pre,.int .i64 M.seg,.int .i64 M.gap,.slice M.z.a M.z.len M.z.cap] T.a30)::lgR M::dk M.d D::r)) ?_ ?_
  ·cases hfr:z19 raw with
   | none =>
    rw [hfr] at hs
    have e:z4u base raw=none:=by unfold z4u;rw [hfr]
    rw [e]
    refine z0g ?_ (by simp)
    exact zg ⟨0,rfl,(λs h=>by cases h),hs.sub⟩
   | some q =>
    obtain ⟨body,m⟩:=q
    rw [hfr] at hs
    have hs:Sat w' (slc T.a39 1 y (body.flatMap zh)::_):=hs
    obtain ⟨-,-,hbd,-⟩:=z64 hfr
    refine z1b ?_ (by rfl)
    refine zb (zv1 y body base (by omega) (by omega) hs) λ_ w' hs=>?_
    obtain ⟨v,rfl,hv,hs⟩:=hs
    refine zd ?_
    refine wp_lt ?_
    refine wp_lt ?_
    have e:z4u base raw=match z5s base body with
      | none=>none
      | some fin=>some (⟨base,fin,(z2x raw.length base (raw.drop m)).1⟩,m+(z2x raw.length base (raw.drop m)).2):=by simp only [z4u,hfr];cases z5s base body <;> rfl
    rw [e]
    cases hh:z5s base body with
    | none=>exact zg ⟨v,rfl,(λs h=>by cases h),hs.sub⟩
    | some fin =>
     have:=hv fin hh
     subst this
     exact zg ⟨v,rfl,(λs h=>by simp only [Option.some.injEq] at h;subst h;rfl),hs.sub⟩
  rintro _ w2 ⟨v,rfl,hv,hs⟩
  cases hsc:z4u base raw with
  | none =>
   refine z1b ?_ (by simp)
   refine zm ?_
   refine za hs ?_
   refine zb (z7p (d:=M.d) (A:=D) nm hs) λ_ w' hs=>?_
   obtain ⟨rfl,hs⟩:=hs
   refine zd ?_
   refine wp_lt ?_
   exact ⟨rfl,rfl,hsame hs.sub⟩
  | some q =>
   obtain ⟨s,mm⟩:=q
   dsimp only
   have hv:=hv _ hsc
   have hv:v=s.fin:=hv
   subst hv
   obtain ⟨hsok,hsb,hst,hsm,hsml⟩:=zj7 hsc
   refine z0g ?_ (by simp)
   obtain ⟨m0,hm0,htk⟩:∃ m0,((z19 raw).getD ([],0)).2=m0/\m0<=raw.length/\m0=(shL s.base s.fin).length/\s.bs=(z2x raw.length base (raw.drop m0)).1/\mm=m0+(z2x raw.length base (raw.drop m0)).2:=by
    unfold z4u at hsc
    cases hfr:z19 raw with
    | none=>rw [hfr] at hsc;cases hsc
    | some q =>
     obtain ⟨body,m⟩:=q
     rw [hfr] at hsc
     simp only at hsc
     cases hh:z5s base body with
     | none=>rw [hh] at hsc;cases hsc
     | some fin =>
      rw [hh] at hsc
      simp only [Option.some.injEq,Prod.mk.injEq] at hsc
      obtain ⟨e1,e2⟩:=hsc
      obtain ⟨f1,f2,f3,f4⟩:=z64 hfr
      obtain ⟨-,-,hb3⟩:=zi8 hh
      refine ⟨m,rfl,f2,?_,by rw [<- e1],e2.symm⟩
      rw [<- e1]
      show m=(shL base fin).length
      unfold shL
      rw [z7o (by have:=za3 base fin;omega),<- hb3,f1]
   obtain ⟨h1,h2,h3,h4⟩:=htk
   rw [hm0]
   have hbase0:=hsok.base
   have hfin0:0<=s.fin/\s.fin<9223372036854775808:=by have:=hsok.fin;omega
   have hs:=z4t M hokm (hs.pick [1,1])
   refine zb (zas (lg:=lg) base s.fin (by omega) hfin0 hs) λ_ w' hs=>?_
   obtain ⟨a,ix,rfl,hs⟩:=hs
   refine zd ?_
   refine wp_lt ?_
   refine zn (λq w'=>q=((mm:Int),())/\Sat w' (zy M.gap a ⟨ix,s⟩::lgQ lg M::slc T.a39 1 x (raw.flatMap zh)::dk M.d D::r)) ?_ ?_
   ·refine z06 (λk q w=>∃ (at_:Nat) (n:Int) (done:List BatM),q=((at_:Int),(n,()))/\at_<=raw.length/\raw.length-at_<=k /\
     s.bs=done++(z2x k n (raw.drop at_)).1/\mm=at_+(z2x k n (raw.drop at_)).2/\at_=((⟨base,s.fin,[]⟩:SegA).add done).file.length /\
     Sat w (zy M.gap a ⟨ix,(⟨base,s.fin,[]⟩:SegA).add done⟩::lgQ lg M::slc T.a39 1 x (raw.flatMap zh)::dk M.d D::r)) raw.length
     ⟨m0,base,[],rfl,h1,by omega,by rw [List.nil_append];exact h3,h4,by rw [zd3,z1u];simp only [List.flatMap_nil,List.length_nil];rw [h2,hsb];omega,by rw [zd3];exact hs⟩ ?_
    clear hs
    rintro k _ w ⟨at_,n,done,rfl,ha1,ha2,ha3,ha4,ha5,hs⟩
    have hend:z2x k n (raw.drop at_)=([],0)->∀ {w:World},Sat w (zy M.gap a ⟨ix,(⟨base,s.fin,[]⟩:SegA).add done⟩::lgQ lg M::slc T.a39 1 x (raw.flatMap zh)::dk M.d D::r)->at_=mm/\Sat w (zy M.gap a ⟨ix,s⟩::lgQ lg M::slc T.a39 1 x (raw.flatMap zh)::dk M.d D::r):=by
     intro he w hs
     rw [he] at ha3 ha4
     simp only [List.append_nil] at ha3
     have hpp:done.map BatM.p=done:=by
      rw [List.map_congr_left (g:=id) λb hb=>((hsok.bs.valid b (by rw [ha3];exact hb)).2),List.map_id]
     have es:(⟨base,s.fin,[]⟩:SegA).add done=s:=by
      unfold SegA.add
      rw [hpp,<- ha3,<- hsb]
      rfl
     rw [es] at hs
     exact ⟨ha4.symm,hs⟩
    refine zl ?_
    refine wp_must (by omega) ?_
    rw [Int.toNat_natCast]
    have hxc:FocR (zy M.gap a ⟨ix,(⟨base,s.fin,[]⟩:SegA).add done⟩::lgQ lg M::slc T.a39 1 x (raw.flatMap zh)::dk M.d D::r) ⟨z12 x.a 1 at_ x.cap,x.len-at_,x.cap-at_⟩ 1 ((raw.drop at_).flatMap zh):=FocR.post hcap
    refine zb (ze5 ⟨z12 x.a 1 at_ x.cap,x.len-at_,x.cap-at_⟩ (raw.drop at_) (by show x.len-at_<=x.cap-at_;omega) (by rw [List.length_drop];omega) hs) λ_ w' hs=>?_
    obtain ⟨y,rfl,hs⟩:=hs
    refine zd ?_
    refine wp_lt ?_
    refine wp_lt ?_
    cases hfr:z19 (raw.drop at_) with
    | none =>
     rw [hfr] at hs
     refine z1b ?_ (by simp)
     have he:z2x k n (raw.drop at_)=([],0):=by
      cases k with
      | zero=>rfl
      | succ k=>rw [zfw,hfr]
     obtain ⟨e1,hs⟩:=hend he hs.tail
     refine zk (zg ⟨by rw [e1],hs⟩)
    | some q =>
     obtain ⟨body,m⟩:=q
     rw [hfr] at hs
     have hs:Sat w' (slc T.a39 1 y (body.flatMap zh)::_):=hs
     obtain ⟨f1,f2,hbd,f4⟩:=z64 hfr
     rw [List.length_drop] at f2
     dsimp only [Option.getD,Option.isSome]
     refine z0g ?_ (by simp)
     obtain ⟨k,rfl⟩:∃ k',k=k'+1:=⟨k-1,by omega⟩
     rw [zfw,hfr] at ha3 ha4 hend
     refine zb (zke y body (by omega) hs) λ_ w' hs=>?_
     rcases hs with ⟨b,z,hdec,rfl,hs⟩|⟨hdec,rfl,hs⟩
     rotate_left
     ·refine ⟨(0,0,0,0,0,0,z6v,6,()),rfl,trivial,z9l _ _ _ _ _ _ _ _ ?_⟩
      refine zv hs λc w' hs=>?_
      refine zx hs λw' hs=>?_
      refine wp_lt ?_
      refine za hs ?_
      refine z1b ?_ (.inl (by decide))
      obtain ⟨e1,hs⟩:=hend (by simp only [hdec]) hs.tail.tail
      exact zk (zg ⟨by show ((at_:Int),())=_;rw [e1],hs⟩)
     ·obtain ⟨d1,d2,d3⟩:=zkl hdec
      have hfrb:(frL b).length=m:=by rw [(z3l d1).2,d2,f1]
      refine ⟨(b.base,b.pid,b.epoch,b.seq,b.kind,b.time,z,0,()),rfl,trivial,z9l _ _ _ _ _ _ _ _ ?_⟩
      refine zv hs λc w' hs=>?_
      refine zx hs λw' hs=>?_
      refine wp_lt ?_
      refine za hs ?_
      simp only [hdec] at ha3 ha4 hend
      refine zf (λhc=>?_) λhc=>?_
      ·have hc:b.base<n:=by
        rcases hc with hc|hc
        ·exact absurd rfl hc
        ·exact hc
       obtain ⟨e1,hs⟩:=hend (by rw [if_pos hc]) hs.tail.tail.tail
       exact zk (zg ⟨by show ((at_:Int),())=_;rw [e1],hs⟩)
      have hc:¬ b.base<n:=λh=>hc (.inr h)
      rw [if_neg hc] at ha3 ha4
      simp only at ha3 ha4
      refine zr hs ?_
      have hz:FocR (pt c (.cells #[.int .i64 b.base,.int .i64 b.pid,.int .i64 b.epoch,.int .i64 b.seq,.int .i64 b.kind,.int .i64 b.time,.slice z.a z.len z.cap] T.a1)::slc T.a3 4 z (b.rs.flatMap zw)::slc T.a39 1 y (body.flatMap zh)::lgQ lg M::slc T.a39 1 x (raw.flatMap zh)::dk M.d D::r) z 4 (b.rs.flatMap zw):=inferInstance
      have hs:Sat w' (pt c (.cells #[.int .i64 b.base,.int .i64 b.pid,.int .i64 b.epoch,.int .i64 b.seq,.int .i64 b.kind,.int .i64 b.time,.slice z.a z.len z.cap] T.a1)::slc T.a3 4 z (b.rs.flatMap zw)::slc T.a39 1 y (body.flatMap zh)::zy M.gap a ⟨ix,(⟨base,s.fin,[]⟩:SegA).add done⟩::lgQ lg M::slc T.a39 1 x (raw.flatMap zh)::dk M.d D::r):=hs
      have hml:((m:Nat):Int)=((frL b).length:Nat):=by rw [hfrb]
      show (Prog.call F.a84 [_,.agg _,.int .i64 ((m:Nat):Int)] _ _).wp P _ _ _
      rw [hml]
      refine zb (zvv (gap:=M.gap) (a:=a) (t:=⟨ix,(⟨base,s.fin,[]⟩:SegA).add done⟩) b z d1 d3 (by show ((⟨base,s.fin,[]⟩:SegA).add done).file.length+_<=_;rw [<- ha5];omega) hs) λ_ w' hs=>?_
      obtain ⟨rfl,hs⟩:=hs
      refine zd ?_
      have e6:((⟨base,s.fin,[]⟩:SegA).add done).add [b]=(⟨base,s.fin,[]⟩:SegA).add (done++[b]):=add_add _ _ _
      have hs:Sat w' (zy M.gap a ⟨ix,((⟨base,s.fin,[]⟩:SegA).add done).add [b]⟩::_):=hs
      rw [e6] at hs
      have hs:=z1s hs
      refine zm ?_
      refine za hs ?_
      refine wp_lt ?_
      rw [w64 (by omega) (by omega)]
      refine wp_lt ?_
      have en2:z05 ((⟨base,s.fin,[]⟩:SegA).add (done++[b])).bs=b.base+z00 b:=by
       show z05 ([]++(done++[b]).map BatM.p)=_
       rw [List.nil_append,List.map_append]
       exact z3d _ _
      rw [show z05 (SegM.s ⟨ix,(⟨base,s.fin,[]⟩:SegA).add (done++[b])⟩).bs=b.base+z00 b from en2]
      have hs:=z1c ⟨ix,(⟨base,s.fin,[]⟩:SegA).add (done++[b])⟩ hs
      have ec:(at_:Int)+((frL b).length:Nat)=((at_+m:Nat):Int):=by rw [hfrb];omega
      rw [ec]
      refine z0l k ⟨at_+m,b.base+z00 b,done++[b],rfl,by omega,by omega,?_,?_,?_,hs.sub⟩
      ·rw [ha3,List.append_assoc,List.drop_drop];rfl
      ·rw [ha4,List.drop_drop];omega
      ·rw [<- e6,z52,List.length_append,<- ha5]
       simp only [List.flatMap_cons,List.flatMap_nil,List.append_nil]
       omega
   clear hs
   rintro _ w3 ⟨rfl,hs⟩
   refine zl ?_
   have hs:=hs.pick [1]
   refine zb (zr8 (lg:=lg) a ⟨ix,s⟩ (by omega) hs) λ_ w' hs=>?_
   obtain ⟨z,rfl,hs⟩:=hs
   refine zd ?_
   have hfin2:∀ {w:World} {D':DiskA},Sat w (lgQ lg { M with z:=z,SM:=M.SM++[(a,⟨ix,s⟩)] }::dk M.d D'::r)->∃ M':LogM,(M'.d=M.d/\M'.pre=M.pre/\M'.seg=M.seg/\M'.gap=M.gap)/\M'.l=M.l++[s]/\M'.SM.length<=M.SM.length+1/\Sat w (lgQ lg M'::dk M.d D'::r):=λhs =>
    ⟨{ M with z:=z,SM:=M.SM++[(a,⟨ix,s⟩)] },⟨rfl,rfl,rfl,rfl⟩,by unfold LogM.l;simp,by simp,hs⟩
   refine zf (λhc=>?_) λhc=>?_
   ·have hc:mm=raw.length:=by omega
    rw [if_pos hc]
    exact ⟨rfl,rfl,hfin2 hs.sub⟩
   ·rw [if_neg (show ¬ mm=raw.length by omega)]
    refine zm ?_
    obtain ⟨hokm2,hs⟩:=z8w hs
    refine za hs ?_
    refine zb (z043 (d:=M.d) (A:=D) nm ((mm:Nat):Int) hs) λ_ w' hs=>?_
    obtain ⟨rfl,hs⟩:=hs
    refine zd ?_
    refine wp_lt ?_
    have hs:=z4t { M with z:=z,SM:=M.SM++[(a,⟨ix,s⟩)] } hokm2 (hs.pick [1,1])
    exact ⟨rfl,rfl,hfin2 hs.sub⟩
end
end Go.Dec
