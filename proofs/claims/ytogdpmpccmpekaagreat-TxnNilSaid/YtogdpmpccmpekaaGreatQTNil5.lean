/- What the claim of this folder leans on: our own texts, joined, without what it does not use. -/
import Derived.Test.YtogdpmpccmpekaaGreatQTNil4
set_option linter.unusedVariables false
set_option linter.unusedSimpArgs false
namespace Go.Proofs.YtogdpmpccmpekaaGreat
open Go.RowKit Go.Maps Go.Sort Go.Proofs
set_option maxRecDepth 100000 in
set_option maxHeartbeats 1000000 in
theorem z03y {H:Type} (F:Fence) (n:Nat) (h10:F.fn 226) (hro:F.round=none) (hn:1<=n) (l Bm b nn:Nat) (D0:DataW H) {R:Value->Option (DataW H × List MemPlace)} (J Jx:List (List UInt8)->World->Prop)
  (hY:∀ pre x W,J pre W->pre.length<Maps.size D0->YieldAt F (n-1) Tryz.prog l #[encStr x] W λe W'=>(e=.returned (.bool true)/\J (pre++[x]) W'/\KeepsWalks W W')\/(e=.returned (.bool false)/\Jx (pre++[x]) W'))
  (W:World) (hJ:AbidesFrom W.heap.size J) (hm:W.cell? ⟨Bm,0,none⟩=some (.map (some b))) (hown:W.ownsMap Tryz.prog 9 R b nn D0) (h0:J [] W) :
  CallsIn F n Tryz.prog 226 #[.func (.yield l) #[] #[],.pointer (some ⟨Bm,0,none⟩)] W λe W'=>(∃ v,e=.returned v)/\((∃ ss:List (List UInt8),ss.Perm (strKeys D0)/\J ss W')\/(∃ pre,True/\Jx pre W')):=by
 refine callsIn_of_wp Tryz.func226 rfl h10 ?_ hro;simp only [Tryz.ntmps226,List.size_toArray,List.length_cons,List.length_nil,Nat.reduceAdd,Nat.reduceSub,Array.replicate_succ,Array.replicate_zero,List.push_toArray,List.append_toArray,List.nil_append,List.cons_append]
 gi_wp2_with (first
  | (gi_at_range;refine wpListIn_range_own _ rfl _ 133 rfl 9 208 (string_keyed Tryz.underlying9) Tryz.underlying133 _ b nn _ rfl hown ?_;intro w0 hrg0 hg0 hs0)
  | gi_in)
 go_frame
 gi_loopw [3] (λ_ wr=>∃ (left:Lit->Bool) (cnt:Nat) (ss:List (List UInt8)),wr.ranges Tryz.prog 9 R b W.heap.size nn D0 left cnt/\ss.length+cnt<=Maps.size D0/\Collected D0 left ss/\J ss wr)
  (λ_ wr=>wr.rangeLeft b W.heap.size)
 case atStart =>
  exact ⟨_,_,[],hrg0,by simp,Collected.start D0,hJ [] W w0 none h0 hg0 (λr e=>by cases e)⟩
 case round =>
  obtain ⟨left,cnt,ss,hrg,hcs,hC,hJs⟩:=hrel
  gi_wp2_with (first
   | (gi_at_next;refine wpListIn_next_ranges _ rfl _ rfl 9 (string_keyed Tryz.underlying9) R encStr id (λkey kl hk=>by obtain ⟨x,hx,_⟩:=Maps.keyOf_str Tryz.underlying9 hk;exact ⟨x,hx⟩) (λv _ _=>⟨v,rfl⟩) b W.heap.size nn _ _ _ rfl hrg ?_ ?_)
   | gi_in)
  ·intro hc0 hl0
   gi_wp2
   go_end0
   exact ⟨⟨_,rfl⟩,.inl ⟨ss,hC.perm hown (string_keyed Tryz.underlying9) Tryz.underlying9 hl0,hJs⟩⟩
  ·intro x c kl yd yp w2 cnt2 hkey hlk hv hat hrg2 hlt hg2 hs2 hen;obtain ⟨x',ex,rfl,_⟩:=Maps.keyOf_str Tryz.underlying9 hkey;obtain rfl:x=x':=encStr_inj ex;have hJ2:J ss w2:=hJ ss wr w2 (some W.heap.size) hJs hg2 (λr e=>by cases e;exact ⟨Nat.le_refl _,hrg.iter_walk⟩);obtain ⟨fn,tmps,assign,body,hy,hR⟩:=hY ss x w2 hJ2 (by omega);clear hs2
   gi_wp2
   refine hR.mono ?_;rintro e W3 (⟨rfl,hJ3,hk3⟩|⟨rfl,hJx3⟩)
   ·gi_wp2
    have hrg3:=hrg2.of_walks hk3
    go_roundw
    case rel=>exact ⟨_,cnt2,ss++[x],hrg3,by simp;omega,hC.step hlk hat,hJ3⟩
    case measure=>rw [hrg3.left_eq,hrg.left_eq];exact hlt
   ·gi_wp2
    exact bodyPost_ret (results_none rfl _ _ _) rfl ⟨⟨_,rfl⟩,.inr ⟨ss++[x],trivial,hJx3⟩⟩
theorem z0a9 (mb:Option Nat) (w:World) :
  Calls Tryz.prog 158 #[.map mb] w λe w'=>e=.returned (.func (.func 226) #[] #[.pointer (some ⟨w.heap.size,0,none⟩)])/\w'=w.alloc (.cells #[.map mb] 133):=by
 refine Calls.mono (Dec.zf70_calls mb (w:=w) (R:=λvs w'=>vs=[.func (.func 226) #[] #[.pointer (some ⟨w.heap.size,0,none⟩)]]/\w'=w.alloc (.cells #[.map mb] 133)) ?_) λe w' ⟨vs,he,hv,hw⟩=>⟨by rw [he,hv];rfl,hw⟩
 unfold Dec.zf70;refine ⟨(⟨w.heap.size,0,none⟩,()),w.alloc (.cells #[.map mb] 133),?_,trivial,?_⟩
 ·simp only [Instr.box,Sem.run_bind,Dec.run_newVar,Result.andThen_ok,Sem.run_pure];rfl
 ·exact ⟨rfl,rfl,rfl⟩
def preF (p s:ByteArray):Bool:=p.toList.isPrefixOf s.toList
theorem z0d5 (s p:ByteArray):(decide (((ByteArray.size s:Nat):Int)>=((ByteArray.size p:Nat):Int)) && ByteArray.toList (ByteArray.extract s 0 (Int.toNat (((ByteArray.size p:Nat):Int)))) == ByteArray.toList p)=preF p s:=by
 unfold preF;rw [Int.toNat_natCast,ByteArray.toList_eq,ByteArray.toList_eq,ByteArray.toList_eq]
 have e1:(ByteArray.extract s 0 p.size).data.toList=s.data.toList.take p.size:=by simp [ByteArray.data_extract]
 have e2:p.size=p.data.toList.length:=by simp
 rw [e1,Bool.eq_iff_iff,Bool.and_eq_true,decide_eq_true_eq,beq_iff_eq,List.isPrefixOf_iff_prefix];constructor
 ·rintro ⟨-,h⟩;rw [<- h];exact List.take_prefix _ _
 ·intro h;have hl:=h.length_le;refine ⟨?_,?_⟩
  ·have:s.size=s.data.toList.length:=by simp
   omega
  ·rw [e2];exact (List.prefix_iff_eq_take.1 h).symm
theorem z04y (s p:ByteArray) (w:World):Calls Tryz.prog 159 #[.string s,.string p] w λe w'=>e=.returned (.bool (preF p s))/\w'=w:=by
 refine Calls.mono (Dec.zf157_calls s p (w:=w) (R:=λvs w'=>vs=[.bool (preF p s)]/\w'=w) ?_) λe w' ⟨vs,he,hv,hw⟩=>⟨by rw [he,hv];rfl,hw⟩
 unfold Dec.zf157
 refine Dec.wp_callS (preF p s,()) (Dec.zf52_calls s p (R:=λvs w'=>vs=[.bool (preF p s)]/\w'=w) ?_) rfl λw' hw=>⟨trivial,?_⟩
 ·unfold Dec.zf52;refine Dec.wp_must (λh=>?_) (Dec.wp_lt ⟨rfl,by rw [z0d5],rfl⟩);have h:=of_decide_eq_true h;omega
 ·exact Dec.wp_lt ⟨rfl,rfl,hw⟩
end Go.Proofs.YtogdpmpccmpekaaGreat
namespace Go.Proofs.YtogdpmpccmpekaaGreat
open Go.RowKit Go.Maps Go.Sort Go.Proofs Go.Shelf
attribute [local go_sem] Oper.semAt_some
def z5l (p:ByteArray) (ss:List (List UInt8)):List (List UInt8):=ss.filter λx=>preF p ⟨x.toArray⟩
theorem z0ar (p:ByteArray) (pre:List (List UInt8)) {x:List UInt8} (h:preF p ⟨x.toArray⟩=true):z5l p (pre++[x])=z5l p pre++[x]:=by simp [z5l,h]
theorem z04v (p:ByteArray) (pre:List (List UInt8)) {x:List UInt8} (h:¬ preF p ⟨x.toArray⟩=true):z5l p (pre++[x])=z5l p pre:=by simp [z5l,h]
theorem z0gb:(Tryz.prog.info? 9).map (λi=>(i.zero,i.size,i.bytes))=some (some (.string ByteArray.empty),1,16):=by kernel_rfl
set_option maxRecDepth 100000 in
set_option maxHeartbeats 2000000 in
theorem z04c     {H : Type} (n : Nat) (hn : 3 ≤ n) (d b nn : Nat) (p : ByteArray) (w : World) (D0 : DataW H) {R : Value → Option (DataW H × List MemPlace)} (hown : w.ownsMap Tryz.prog 9 R b nn D0) (hd : d < w.heap.size)
    (hc : w.cell? ⟨d, 4, none⟩ = some (.map (some b))) (hmax : Maps.size D0 ≤ 1000) (fin : Value → World → Prop)
    (hsort : ∀ (D : Nat) (ss : List (List UInt8)) (v : Value) (W : World), w.heap.size + 2 ≤ D → ss.Perm (strKeys D0) → Boxed W (w.heap.size + 1) 77 v → W.ownsRow (w.heap.size + 1) 9 1 v (z5l  p ss).length ((z5l  p ss).map encStr) → Below w.heap.size w W →
      W.heap[D]? = some (.deferred (some [])) → CallsIn Fence.wide (n - 1) Tryz.prog 160 #[v] W fun e W' => e = .returned (.tuple #[]) ∧ W'.cell? ⟨w.heap.size + 1, 0, none⟩ = some v ∧ W'.heap[D]? = some (.deferred (some [])) ∧ fin v (W'.putObj D (.deferred none))) :
    CallsIn Fence.wide n Tryz.prog 107 #[.pointer (some ⟨d, 0, none⟩), .string p] w fun e W' => ∃ v, e = .returned v ∧ fin v W' := by
  have h1 : 1 ≤ n := by omega
  obtain ⟨i0, hi, hz0, hz1, hz2⟩ := info_parts z0gb ;have hbl := hown.lt
  have hc2 : ((w.alloc (.cells #[.string p] 9)).alloc (.cells #[.slice none 0 0] 77)).cell? ⟨d, 4, none⟩ = some (.map (some b)) := by
    rw [World.cell?_alloc_past _ _ _ (by simp; omega), World.cell?_alloc_past _ _ _ hd]; exact hc
  refine callsIn_of_wp_marks Tryz.func107 rfl trivial ?_ rfl;simp only [Tryz.ntmps107, List.size_toArray, List.length_cons, List.length_nil, Nat.reduceAdd, Nat.reduceSub, Array.replicate_succ, Array.replicate_zero, List.push_toArray, List.append_toArray, List.nil_append, List.cons_append]
  gi_wp2_with (refine ⟨trivial, ?_⟩; gi_at_call 158; refine (callsIn_wide.2 (z0a9    _ _)).mono ?_; rintro e w' ⟨rfl, rfl⟩)
  have bP := Boxed.new w 9 (.string p);have bO := Boxed.new (w.alloc (.cells #[.string p] 9)) 77 (.slice none 0 0);have bM := Boxed.new ((w.alloc (.cells #[.string p] 9)).alloc (.cells #[.slice none 0 0] 77)) 133 (.map (some b));rw [World.size_alloc] at bO bM;rw [World.size_alloc] at bM;have hB0 : Below w.heap.size w (((w.alloc (.cells #[.string p] 9)).alloc (.cells #[.slice none 0 0] 77)).alloc (.cells #[.map (some b)] 133)) := (((Below.refl _ w).alloc (Nat.le_refl _) _).alloc (by simp) _).alloc (by simp; omega) _
  have hown0 : (((w.alloc (.cells #[.string p] 9)).alloc (.cells #[.slice none 0 0] 77)).alloc (.cells #[.map (some b)] 133)).ownsMap Tryz.prog 9 R b nn D0 := by
    obtain ⟨es, clock, hb, Ft, hs, hD⟩ := hown;exact ⟨es, clock, (hB0.block b hbl).trans hb, Ft, hs, hD⟩
  have hseq : SeqStops Fence.wide (n - 1) Tryz.prog 226 #[.pointer (some ⟨w.heap.size + 1 + 1, 0, none⟩)] encStr (fun ss => ss.Perm (strKeys D0)) (fun _ => True) (Maps.size D0) (((w.alloc (.cells #[.string p] 9)).alloc (.cells #[.slice none 0 0] 77)).alloc (.cells #[.map (some b)] 133)) := fun l J Jx W hW hJ hJx hY h0 => by
    have hown' : W.ownsMap Tryz.prog 9 R b nn D0 := by
      obtain ⟨es, clock, hb, Ft, hs, hD⟩ := hown0;exact ⟨es, clock, (hW.block b (by simp; omega)).trans hb, Ft, hs, hD⟩
    exact z03y     Fence.wide (n - 1) trivial rfl (by omega) l (w.heap.size + 1 + 1) b nn D0 J Jx hY W hJ ((hW.cell (p := ⟨w.heap.size + 1 + 1, 0, none⟩) (by simp)).trans bM.cell) hown' h0
  refine wpIn_rangeFunc_ownG rfl h1 (gf := 226) (lb := #[.pointer (some ⟨w.heap.size + 1 + 1, 0, none⟩)]) rfl trivial (enters_of Tryz.func226 (by kernel_rfl) rfl)
    (encs := fun x => #[encStr x]) (Kp := KeepsWalks) (S := fun ss => ss.Perm (strKeys D0)) (Sp := fun _ => True) (N := Maps.size D0) hseq walksK_t (fun W l o o' _ h _ hw => KeepsWalks.putObj _ h hw) (Below.refl _ _) (fun _ => rfl)
    (fun pre W => ((∃ v, Boxed W (w.heap.size + 1) 77 v ∧ W.ownsRow (w.heap.size + 1) 9 1 v (z5l  p pre).length ((z5l  p pre).map encStr) ∧ True) ∧ Boxed W w.heap.size 9 (.string p)) ∧ Below w.heap.size w W)
    (fun _ _ _ => False)
    (OwnFrom.and (OwnFrom.and (Own.from (holdsRow_own (w.heap.size + 1) (w.heap.size + 1) 77 9 1 (fun pre => (z5l  p pre).length) (fun pre => (z5l  p pre).map encStr) (fun _ _ => True)) _) (Own.from (boxed_own w.heap.size 9 (fun _ => .string p)) _)) (ownFrom_below (Nat.le_refl _) (by simp; omega)))
    (fun _ _ _ _ _ hs _ _ => hs)
    ⟨⟨⟨_, bO.alloc _, World.ownsRow_nil _ _ _ _, trivial⟩, (bP.alloc _).alloc _⟩, hB0⟩
    (fun x => { tmps := #[Value.pointer (some { block := d, off := 0 }), Value.string p, undef,
                Value.pointer (some { block := w.heap.size, off := 0 }), Value.slice none 0 0,
                Value.pointer (some { block := w.heap.size + 1, off := 0 }), encStr x,
                Value.pointer (some { block := d, off := 0 }), Value.bool false,
                Value.pointer (some { block := d, off := 0 }), Value.pointer (some { block := d, off := 0 }),
                Value.pointer (some { block := d, off := 4 }), Value.map (some b), .func (.func 226) #[] #[.pointer (some ⟨w.heap.size + 1 + 1, 0, none⟩)], encStr x, undef, undef, undef, undef, undef,
                undef, undef, undef, undef, undef], defers := [] }) ?assign ?body ?done ?stop
  case assign =>
    intro l x W K hK
    gi_wp2
    exact hK
  case body =>
    rintro l pre x W ⟨⟨⟨v, hv, hrow, -⟩, hbp⟩, hB⟩ hlt;have hcv := hv.cell;have hcp := hbp.cell;have hpl : (z5l  p pre).length ≤ pre.length := List.length_filter_le _ _
    have hml : 1000 ≤ maxLen := by decide
    have hvl := hv.lt
    gi_wp2_with (first
      | (refine ⟨trivial, fun _ => by omega, ?_⟩; gi_at_call 159; refine (CallsIn.inRound l (callsIn_wide.2 (z04y     ⟨x.toArray⟩ p W))).mono ?_; rintro e w' ⟨rfl, he⟩; have he := he.symm; subst he)
      | (gi_at_builtin; refine wpListIn_append_own _ rfl _ _ 77 rfl (w.heap.size + 1) 9 i0 (.string ByteArray.empty) 1 16 Tryz.underlying77 hi hz0 hz1 hz2 rfl (by decide) _ _ _ rfl (hrow.alloc _) ⟨W.heap.size, 0, none⟩ 1 1 [encStr x] rfl rfl (cell_one_new _ _ _) (by simp [Value.oneCell', encStr]) (by omega) (by omega) (by simp; omega) ?_; intro v' w1 hown' hgrow _; obtain ⟨g', cap', rfl⟩ := ownsRow_succ hown'; obtain ⟨hv1, hv2, hr2, hk2, hb2⟩ := hv.appended (by decide) hrow (by omega) (by omega) hown' hgrow; have hc1 := hv1.cell; have hf1 := hv1.frozen))
    · have hx : preF p ⟨x.toArray⟩ = true := by assumption
      exact ⟨hk2.from _, hk2.walks, ⟨⟨⟨_, hv2, by rw [z0ar    p pre hx]; simpa using hr2, trivial⟩, (hb2.block w.heap.size (by omega)).trans hbp⟩, hB.trans (hb2.mono (by omega))⟩⟩
    · have hx : ¬ preF p ⟨x.toArray⟩ = true := by rename_i hx; rw [hx]; simp
      exact ⟨KeepsFrom.refl _ _, (KeepsOthers.refl _).walks, ⟨⟨⟨v, hv, by rw [z04v     p pre hx]; exact hrow, trivial⟩, hbp⟩, hB⟩⟩
  case done =>
    rintro D ys W hD hS ⟨⟨⟨v, hv, hrow, -⟩, hbp⟩, hB⟩ hK;have hcv := hv.cell;have hvl := hv.lt
    have hD2 : w.heap.size + 2 ≤ D := by simp at hD; omega
    gi_wp2_with (refine ⟨trivial, ?_⟩; gi_at_call 160; refine (hsort D ys v W hD2 hS hv hrow hB hK).mono ?_; rintro e w' ⟨rfl, hc1, hK1, hfin⟩)
    refine ⟨by simp, .inl ⟨_, _, rfl, run_takeDeferred hK1, ?_⟩⟩;exact ⟨_, results_tmp rfl _ _ _, v, rfl, hfin⟩
  case stop =>
    rintro D c pre W _ _ h _;exact h.elim
end Go.Proofs.YtogdpmpccmpekaaGreat
namespace Go.Dec
open Go.Shelf Go.Proofs
def z0gy:Ren:=⟨fun|190=>160|125=>153|258=>228|128=>224|129=>225|302=>275|303=>276|304=>277|305=>278|306=>279|307=>280|308=>281|309=>282|310=>283|333=>312|329=>270|330=>271|334=>313|335=>314|336=>315|344=>340|n=>n,fun|31=>77|9=>9|3=>3|46=>255|0=>0|51=>335|53=>158|4=>4|183=>328|182=>327|131=>235|5=>5|218=>383|222=>386|228=>416|229=>417|n=>n,λn=>n⟩
theorem z06i:Lays.n190 P z0gy where
 mixed:=by kernel_rfl
 f125:=Tryz.func153.trans (congrArg some (by kernel_rfl))
 f128:=Tryz.func224.trans (congrArg some (by kernel_rfl))
 f129:=Tryz.func225.trans (congrArg some (by kernel_rfl))
 f190:=Tryz.func160.trans (congrArg some (by kernel_rfl))
 f258:=Tryz.func228.trans (congrArg some (by kernel_rfl))
 f302:=Tryz.func275.trans (congrArg some (by kernel_rfl))
 f303:=Tryz.func276.trans (congrArg some (by kernel_rfl))
 f304:=Tryz.func277.trans (congrArg some (by kernel_rfl))
 f305:=Tryz.func278.trans (congrArg some (by kernel_rfl))
 f306:=Tryz.func279.trans (congrArg some (by kernel_rfl))
 f307:=Tryz.func280.trans (congrArg some (by kernel_rfl))
 f308:=Tryz.func281.trans (congrArg some (by kernel_rfl))
 f309:=Tryz.func282.trans (congrArg some (by kernel_rfl))
 f310:=Tryz.func283.trans (congrArg some (by kernel_rfl))
 f329:=Tryz.func270.trans (congrArg some (by kernel_rfl))
 f330:=Tryz.func271.trans (congrArg some (by kernel_rfl))
 f333:=Tryz.func312.trans (congrArg some (by kernel_rfl))
 f334:=Tryz.func313.trans (congrArg some (by kernel_rfl))
 f335:=Tryz.func314.trans (congrArg some (by kernel_rfl))
 f336:=Tryz.func315.trans (congrArg some (by kernel_rfl))
 f344:=Tryz.func340.trans (congrArg some (by kernel_rfl))
 t0:=Tryz.underlying0
 a0:=Tryz.isAgg0
 z0:=Tryz.sizeOf0
 v0:=Tryz.zeroValue0
 t3:=Tryz.underlying3
 a3:=Tryz.isAgg3
 z3:=Tryz.sizeOf3
 v3:=Tryz.zeroValue3
 t4:=Tryz.underlying4
 a4:=Tryz.isAgg4
 z4:=Tryz.sizeOf4
 v4:=Tryz.zeroValue4
 t5:=Tryz.underlying5
 a5:=Tryz.isAgg5
 z5:=Tryz.sizeOf5
 v5:=Tryz.zeroValue5
 t9:=Tryz.underlying9
 a9:=Tryz.isAgg9
 z9:=Tryz.sizeOf9
 v9:=Tryz.zeroValue9
 t31:=Tryz.underlying77
 a31:=Tryz.isAgg77
 z31:=Tryz.sizeOf77
 v31:=Tryz.zeroValue77
 t46:=Tryz.underlying255
 a46:=Tryz.isAgg255
 z46:=Tryz.sizeOf255
 v46:=Tryz.zeroValue255
 t51:=Tryz.underlying335
 a51:=Tryz.isAgg335
 z51:=Tryz.sizeOf335
 v51:=Tryz.zeroValue335
 t53:=Tryz.underlying158
 a53:=Tryz.isAgg158
 z53:=Tryz.sizeOf158
 v53:=Tryz.zeroValue158
 t131:=Tryz.underlying235
 a131:=Tryz.isAgg235
 z131:=Tryz.sizeOf235
 v131:=Tryz.zeroValue235
 t182:=Tryz.underlying327
 a182:=Tryz.isAgg327
 z182:=Tryz.sizeOf327
 v182:=Tryz.zeroValue327
 t183:=Tryz.underlying328
 a183:=Tryz.isAgg328
 z183:=Tryz.sizeOf328
 v183:=Tryz.zeroValue328
 t218:=Tryz.underlying383
 a218:=Tryz.isAgg383
 z218:=Tryz.sizeOf383
 v218:=Tryz.zeroValue383
 t222:=Tryz.underlying386
 a222:=Tryz.isAgg386
 z222:=Tryz.sizeOf386
 v222:=Tryz.zeroValue386
 t228:=Tryz.underlying416
 a228:=Tryz.isAgg416
 z228:=Tryz.sizeOf416
 v228:=Tryz.zeroValue416
 t229:=Tryz.underlying417
 a229:=Tryz.isAgg417
 z229:=Tryz.sizeOf417
 v229:=Tryz.zeroValue417
theorem zu9:∀ x y:List UInt8,Op.bytesLess x y=true↔x<y
 | [],[]=>by simp [Op.bytesLess]
 | [],y::ys=>by simp [Op.bytesLess]
 | x::xs,[]=>by simp [Op.bytesLess]
 | x::xs,y::ys=>by
  rw [Op.bytesLess,List.cons_lt_cons_iff,<- zu9 xs ys];simp
def toK (s:ByteArray):List UInt8:=s.data.toList
def ofK (x:List UInt8):ByteArray:=⟨x.toArray⟩
theorem z0cw (s:ByteArray):ofK (toK s)=s:=by unfold ofK toK;simp
theorem zon (s:ByteArray):ByteArray.toList s=toK s:=ByteArray.toList_eq s
theorem z09p (s:ByteArray):encStr (toK s)=.string s:=by unfold encStr toK;simp
section
variable {w:World} {l:List HP}
theorem z05e {w':World} {os:Array Obj} (h:Sat w l) (he:w'.heap=w.heap++os) (h2:w'.os=w.os) (h3:w'.output=w.output):Sat w' l:=by
 refine zbf ⟨λb o hb=>?_,?_⟩ h
 ·have hb:w.heap[b]? = some o:=hb;show w'.heap[b]? = some o;rw [he,Array.getElem?_append_left (Array.getElem?_eq_some_iff.1 hb).1];exact hb
 ·show World.env' w=World.env' w';unfold World.env';rw [h2,h3]
theorem zmz (x:Sl) (xs:List ByteArray) (h63:xs.length<4611686018427387904) (hs:Sat w (slc T.a57 1 x (xs.flatMap z2m)::l)) :
  Ret P F.a147 #[x.v] w λvs w'=>vs=[]/\∃ ys:List ByteArray,ys.Perm xs/\ys.Pairwise (λa b=>Op.bytesLess (ByteArray.toList b) (ByteArray.toList a)=false)/\Sat w' (slc T.a57 1 x (ys.flatMap z2m)::l):=by
 have hl:x.len=xs.length:=hs.rd.len (enc:=z2m) (λ_=>rfl) (by decide);obtain ⟨xa,xl,xc⟩:=x;simp only at hl;subst hl
 by_cases h0:xs.length=0
 ·have e:xs=[]:=List.length_eq_zero_iff.1 h0;subst e;refine Calls.mono (Any.slices_Sort_string_none z06i xa xc w) λe w' h=>?_;obtain ⟨he,hw⟩:=h;subst hw;exact ⟨[],he,rfl,[],.refl _,.nil,hs⟩
 have hnd:=hs;obtain ⟨p1,p2,h1,h2,hd,hA,hl⟩:=hnd
 rcases hA with ⟨ha,hl0,hc0,-⟩|⟨b,off,arr,fr,ha,hb,hlen,hle,hsz,hcs,hf⟩
 ·exact absurd hl0 h0
 have ha:xa=some ⟨b,off,none⟩:=ha;subst ha;have hle:xs.length<=xc:=hle;have hsz:off+xc*1<=arr.size:=hsz
 have hP:Sat w (pt b (.cells arr T.a57 fr)::l):=⟨p1,p2,h1,h2,hd,hb,hl⟩
 have z4r:=hP.get;have hblt:b<w.heap.size:=(Array.getElem?_eq_some_iff.1 z4r).1
 have henc:∀ (zs:List ByteArray) (i:Nat),(zs.flatMap z2m)[i]? = (zs[i]?).map λs=>.string s:=λzs i=>by
  have:zs.flatMap z2m=zs.map λs=>Value.string s:=by
   induction zs with
   | nil=>rfl
   | cons z zs ih=>rw [List.flatMap_cons,List.map_cons,ih];rfl
  rw [this,List.getElem?_map]
 have hH:Go.Sort.Holds encStr w b off (xs.map toK).toArray:=λj hj=>by
  have hj:j<xs.length:=by simpa using hj
  have h3:=hcs j (by rw [hlen];show j<xs.length*1;omega);rw [henc,List.getElem?_eq_getElem hj] at h3
  have h4:((xs.map toK).toArray)[j]! = toK xs[j]:=by
   rw [getElem!_pos _ j (by simpa using hj)];simp
  refine ⟨?_,?_⟩
  ·rw [h4,z09p];unfold World.cell?;rw [z4r];exact h3
  ·rw [zet,z4r];have:=hf (off+j) (by omega) (by show off+j<off+xc*1;omega);simp only [zw1];rw [Bool.and_eq_false_iff]
   by_cases hq:fr.1<=off+j
   ·right;exact decide_eq_false λh=>this ⟨hq,h⟩
   ·left;exact decide_eq_false hq
 have hll:(xs.map toK).length=xs.length:=List.length_map ..;have hc:=Any.slices_Sort_string z06i b off xc (xs.map toK) w hH hblt (by rw [hll];exact h63);rw [hll] at hc;refine Calls.mono hc λe w' h=>?_;obtain ⟨he,n,os,hw⟩:=h;generalize hmq:(xs.map toK).mergeSort (λx y=>decide (x<=y))=ms at hw
 have hperm:ms.Perm (xs.map toK):=by rw [<- hmq];exact List.mergeSort_perm _ _
 have hpw:ms.Pairwise λx y=>decide (x<=y)=true:=by
  rw [<- hmq];refine List.pairwise_mergeSort (λa b c h1 h2=>?_) (λa b=>?_) _
  ·simp only [decide_eq_true_eq] at *;exact List.le_trans h1 h2
  ·simp only [Bool.or_eq_true,decide_eq_true_eq];exact List.le_total a b
 have hml:ms.length=xs.length:=by rw [hperm.length_eq,hll]
 have hofK:(xs.map toK).map ofK=xs:=by
  rw [List.map_map]
  conv=>rhs;rw [<- List.map_id xs]
  exact List.map_congr_left λs _=>z0cw s
 refine ⟨[],he,rfl,ms.map ofK,?_,?_,?_⟩
 ·have:=hperm.map ofK
  rwa [hofK] at this
 ·rw [List.pairwise_map];refine hpw.imp λ{a c} h=>?_;have h:a<=c:=of_decide_eq_true h;rw [zon,zon]
  have e:∀ z,toK (ofK z)=z:=λz=>by unfold toK ofK;simp
  rw [e,e]
  cases hq:Op.bytesLess c a with
  | false=>rfl
  | true=>exact absurd h (List.not_le.2 ((zu9 c a).1 hq))
 ·have hset:=hP.set (o':=.cells (Go.Sort.putCells encStr off ms.toArray arr) T.a57 fr)
  have hheap:w'.heap=(z3i w b (.cells (Go.Sort.putCells encStr off ms.toArray arr) T.a57 fr)).heap++os:=by
   rw [hw];show (w.heap.modify b (Go.Sort.onCells _))++os=w.heap.setIfInBounds b _++os
   congr 1
   apply Array.ext_getElem?;intro i;rw [Array.getElem?_modify,Array.getElem?_setIfInBounds]
   by_cases hib:b=i
   ·subst hib;rw [if_pos rfl,if_pos rfl,z4r,if_pos hblt];rfl
   ·rw [if_neg hib,if_neg hib]
  have hs2:=z05e hset hheap (by rw [hw];rfl) (by rw [hw];rfl);refine hs2.imp λq hq=>.inr ⟨b,off,_,fr,rfl,hq,?_,hle,?_,λi hi=>?_,hf⟩
  ·show ((ms.map ofK).flatMap z2m).length=xs.length*1
   have:∀ zs:List ByteArray,(zs.flatMap z2m).length=zs.length:=λzs=>by
    induction zs with
    | nil=>rfl
    | cons z zs ih=>rw [List.flatMap_cons,List.length_append,ih];simp [z2m];omega
   rw [this,List.length_map,hml];omega
  ·show off+xc*1<=(Go.Sort.putCells encStr off ms.toArray arr).size;unfold Go.Sort.putCells;rw [Array.size_mapIdx];exact hsz
  ·have him:i<ms.length:=by
    have:∀ zs:List ByteArray,(zs.flatMap z2m).length=zs.length:=λzs=>by
     induction zs with
     | nil=>rfl
     | cons z zs ih=>rw [List.flatMap_cons,List.length_append,ih];simp [z2m];omega
    rw [this,List.length_map] at hi;exact hi
   rw [henc,List.getElem?_map,List.getElem?_eq_getElem him];unfold Go.Sort.putCells;rw [Array.getElem?_mapIdx]
   have ha2:off+i<arr.size:=by omega
   rw [Array.getElem?_eq_getElem ha2];simp only [Option.map_some];rw [if_pos ⟨by omega,by rw [List.size_toArray];omega⟩]
   congr 1
   rw [Nat.add_sub_cancel_left,getElem!_pos _ i (by simpa using him)];simp [encStr,ofK]
end
open Go.Proofs Go.Proofs.YtogdpmpccmpekaaGreat
def z17 (p:ByteArray) (fs:List FileA):List ByteArray:=(fs.map (·.name)).filter (preF p)
def zg4 (W:World) (X:Nat->Bool):PH:=⟨λb=>if X b then W.heap[b]? else none,World.env' W⟩
section
variable {w W:World} {l:List HP} {X:Nat->Bool}
theorem zpn (hs:Sat w l) (hB:RowKit.Below w.heap.size w W):z88 l (zg4 W λb=>decide (b<w.heap.size)):=by
 refine zbf ⟨λb o h=>?_,?_⟩ hs
 ·have h:w.heap[b]? = some o:=h;have hlt:b<w.heap.size:=(Array.getElem?_eq_some_iff.1 h).1;show (if decide (b<w.heap.size)=true then W.heap[b]? else none)=some o;rw [if_pos (decide_eq_true hlt),hB.block b hlt,h]
 ·show World.env' w=World.env' W;unfold World.env';rw [hB.os,hB.output]
theorem zdw {b:Nat} {o:Obj} (hs:z88 l (zg4 W X)) (hX:X b=false) (hb:W.heap[b]? = some o):z88 (pt b o::l) (zg4 W λc=>X c || decide (c=b)):=by
 refine ⟨⟨λc=>if c=b then some o else none,World.env' W⟩,zg4 W X,⟨λc u h=>?_,rfl⟩,⟨λc u h=>?_,rfl⟩,λc=>?_,by simp [pt],hs⟩
 ·simp only at h;split at h
  ·rename_i hc;subst hc
   obtain rfl:=Option.some.inj h;show (if (X c || decide (c=c))=true then W.heap[c]? else none)=some o;rw [if_pos (by simp),hb]
  ·cases h
 ·have h:(if X c=true then W.heap[c]? else none)=some u:=h;split at h
  ·rename_i hc
   show (if (X c || decide (c=b))=true then W.heap[c]? else none)=some u;rw [if_pos (by rw [hc];rfl),h]
  ·cases h
 ·by_cases hc:c=b
  ·subst hc;right;show (if X c=true then W.heap[c]? else none)=none;rw [if_neg (by rw [hX];simp)]
  ·left;simp [hc]
theorem zc6 (hs:z88 l (zg4 W X)):Sat W l:=by
 refine zbf (p:=zg4 W X) ⟨λb o h=>?_,rfl⟩ hs;have h:(if X b=true then W.heap[b]? else none)=some o:=h;split at h
 ·exact h
 ·cases h
end
theorem zee:∀ {a b:List ByteArray},a.Perm b->(a.Pairwise λx y=>ltS y x=false)->(b.Pairwise λx y=>ltS x y=true)->a=b
 | a,[],hp,_,_=>hp.eq_nil
 | [],y::b,hp,_,_=>absurd hp.symm.eq_nil (by simp)
 | x::a,y::b,hp,ha,hb=>by
  rw [List.pairwise_cons] at ha hb
  have hxy:x=y:=by
   by_cases h:x=y
   ·exact h
   ·have hx:x ∈ b:=(List.mem_cons.1 (hp.mem_iff.1 (List.mem_cons_self ..))).resolve_left h;have hy:y ∈ a:=(List.mem_cons.1 (hp.mem_iff.2 (List.mem_cons_self ..))).resolve_left (λe=>h e.symm);have h1:=hb.1 x hx;rw [ha.1 y hy] at h1;cases h1
  subst hxy;rw [zee (List.Perm.cons_inv hp) ha.2 hb.2]
def z4v (x:List UInt8):ByteArray:=⟨x.toArray⟩
theorem z00o (xs:List ByteArray):xs.flatMap z2m=xs.map Value.string:=by
 induction xs with
 | nil=>rfl
 | cons x r ih=>rw [List.flatMap_cons,ih];rfl
theorem zkh {fs:List FileA} (h:fs.Pairwise λa b=>ltS a.name b.name=true) (p:ByteArray):(z17 p fs).Pairwise λx y=>ltS x y=true:=by
 unfold z17;refine List.Pairwise.filter _ ?_;rw [List.pairwise_map];exact h
theorem z0am {w:World} {m:Nat} {es:List (ByteArray × Nat)} {l:List HP} (hs:Sat w (z03 ekS evF m es::l)) (hlen:es.length<=1000) (hn:∀ x ∈ es,x.1.size<=24) :
  ∃ D0:DataW Unit,w.ownsMap Tryz.prog 9 (λ_=>some (.lit (.bool true),[])) m 1000 D0/\Maps.size D0<=1000/\((strKeys D0).map z4v).Perm (es.map Prod.fst):=by
 obtain ⟨E,c,hm,hs⟩:=hs.mapOpen;have hsz:=hm.size;obtain ⟨xs,h1,h2,h3,h4,h5⟩:=hm
 have hE:E.size<=1000:=by omega
 have hml:1000<=maxLen:=by decide
 have hkeys:∀ e ∈ E.toList,∃ x ∈ xs,e.key=.string x.1:=λe he=>by
  have:(e.key,e.val) ∈ E.toList.map (λe=>(e.key,e.val)):=List.mem_map.2 ⟨e,he,rfl⟩;rw [h3] at this;obtain ⟨x,hx,hxe⟩:=List.mem_map.1 this;exact ⟨x,hx,(Prod.mk.inj hxe).1.symm⟩
 have hrd:∀ e ∈ E.toList,∀ s,e.key=.string s->WideElems.rd (H:=Unit) Tryz.prog 9 (λ_=>some (.lit (.bool true),[])) e=some (.string s.data.toList,.lit (.bool true)):=λe he s hk=>by
  obtain ⟨x,hx,hxe⟩:=hkeys e he;rw [hk] at hxe
  obtain rfl:s=x.1:=by cases hxe;rfl
  have h24:=hn x (h1.mem_iff.1 hx);have:keyOf Tryz.prog 9 (.string x.1)=some (.string x.1.data.toList):=WideMaps.keyOf_string_mk (by kernel_rfl) (by omega);unfold WideElems.rd;rw [hk,this];rfl
 refine ⟨.map ((E.toList.map (WideElems.rg Tryz.prog 9 λ_=>some (.lit (.bool true),[]))).foldr DataW.insert []),⟨E,c,hs.get,⟨by omega,⟨h5,?_,?_⟩,λe he=>?_⟩,hE,rfl⟩,?_,?_⟩
 ·rw [List.Nodup,List.pairwise_map];exact h4.imp λh=>Nat.ne_of_lt h
 ·have hk:E.toList.map (·.key)=xs.map λx=>Value.string x.1:=by
   have:=congrArg (List.map Prod.fst) h3;rw [List.map_map,List.map_map] at this;exact this
  rw [hk,List.Nodup,List.pairwise_map];rw [List.Nodup,List.pairwise_map] at h2;exact h2.imp λh e=>h (Value.string.inj e)
 ·obtain ⟨x,hx,hxe⟩:=hkeys e he;exact ⟨_,hrd e he x.1 hxe⟩
 ·show ((E.toList.map _).foldr DataW.insert []).length<=1000;rw [length_sorted,List.length_map,Array.length_toList];exact hE
 ·have hp:=(WideShapes.sorted_perm (E.toList.map (WideElems.rg (H:=Unit) Tryz.prog 9 λ_=>some (.lit (.bool true),[])))).map (λp:Lit × DataW Unit=>z4v (Go.strOf p.1))
  have e1:(strKeys (DataW.map ((E.toList.map (WideElems.rg (H:=Unit) Tryz.prog 9 λ_=>some (.lit (.bool true),[]))).foldr DataW.insert []))).map z4v=((E.toList.map (WideElems.rg (H:=Unit) Tryz.prog 9 λ_=>some (.lit (.bool true),[]))).foldr DataW.insert []).map (λp:Lit × DataW Unit=>z4v (Go.strOf p.1)):=by
   simp only [strKeys,List.map_map];rfl
  rw [e1];refine hp.trans ?_;rw [List.map_map]
  have e2:E.toList.map ((λp:Lit × DataW Unit=>z4v (Go.strOf p.1))∘WideElems.rg Tryz.prog 9 λ_=>some (.lit (.bool true),[]))=xs.map Prod.fst:=by
   have h6:E.toList.map (λe=>match e.key with | .string s=>s|_=>⟨#[]⟩)=xs.map Prod.fst:=by
    have:=congrArg (List.map λx:Value × Value=>match x.1 with | .string s=>s|_=>⟨#[]⟩) h3;rw [List.map_map,List.map_map] at this;exact this
   rw [<- h6];refine List.map_congr_left λe he=>?_;obtain ⟨x,hx,hxe⟩:=hkeys e he;show z4v (Go.strOf (WideElems.rg (H:=Unit) Tryz.prog 9 (λ_=>some (.lit (.bool true),[])) e).1)=_;rw [WideElems.rg_of (hrd e he x.1 hxe),hxe];show z4v x.1.data.toList=x.1;exact z003 rfl
  rw [e2];exact h1.map _
section
variable {w:World} {l r:List HP} {d:Nat} {A:DiskA}
theorem zuh (p:ByteArray) [hf:Fo l dk d A r] (hs:Sat w l):Ret P F.a29 #[.pointer (some ⟨d,0,none⟩),.string p] w λvs w'=>∃ x:Sl,vs=[x.v]/\Sat w' (slc T.a57 1 x ((z17 p A.fs).flatMap z2m)::dk d A::r):=by
 have hs0:=hs.perm hf.perm;obtain ⟨m,FS,hp,hok,hs1⟩:=z2h hs0
 have hkv:(FS.map λt=>(t.f.name,t.at_)).map Prod.fst=(FS.map FileM.f).map (·.name):=by rw [List.map_map,List.map_map];rfl
 have hlen:(FS.map λt=>(t.f.name,t.at_)).length<=1000:=by
  have:=hp.length_eq;have:=hok.many;simp at *;omega
 obtain ⟨D0,hown,hsz,hkeys⟩:=z0am (hs1.pick [1]) hlen λx hx=>by
  obtain ⟨t,ht,rfl⟩:=List.mem_map.1 hx;exact hok.names _ (hp.mem_iff.1 (List.mem_map.2 ⟨t,ht,rfl⟩))
 rw [hkv] at hkeys;have hkeys:=hkeys.trans (hp.map (·.name));have hb:=hs1.get;have hd:d<w.heap.size:=(Array.getElem?_eq_some_iff.1 hb).1
 have hc:w.cell? ⟨d,4,none⟩=some (.map (some m)):=by rw [z3h hb];rfl
 have hfin:=callsIn_wide.1 (z04c (n:=3) (Nat.le_refl _) d m 1000 p w D0 hown hd hc hsz (λv W=>∃ x:Sl,v=x.v/\Sat W (slc T.a57 1 x ((z17 p A.fs).flatMap z2m)::dk d A::r)) ?_)
 ·exact Calls.mono hfin λe w' ⟨v,he,x,hv,hs⟩=>⟨[x.v],by rw [he,hv];rfl,x,rfl,hs⟩
 intro D ss v W hD hS hbox hrow hB hK;have hsR:=zpn hs0 hB;have hsR:=zdw hsR (b:=w.heap.size+1) (by simp) hbox
 have hDB:D≠w.heap.size+1:=by omega
 have hsR:=zdw hsR (b:=D) (by simp;omega) hK
 have hpS:((z5l p ss).map z4v).Perm (z17 p A.fs):=by
  have h1:=((hS.map z4v).trans hkeys).filter (preF p);rw [List.filter_map] at h1;exact h1
 have hflat:((z5l p ss).map z4v).flatMap z2m=(z5l p ss).map encStr:=by
  rw [z00o,List.map_map];rfl
 have hlen2:((z5l p ss).map z4v).length<576460752303423488:=by
  rw [hpS.length_eq]
  have h1:(z17 p A.fs).length<=A.fs.length:=by unfold z17;exact Nat.le_trans (List.length_filter_le _ _) (by simp)
  have:=hok.many;omega
 obtain ⟨x,rfl,hsx⟩:∃ x:Sl,v=x.v/\Sat W (slc T.a57 1 x (((z5l p ss).map z4v).flatMap z2m)::pt D (.deferred (some []))::pt (w.heap.size+1) (.cells #[v] 77)::dk d A::r):=by
  rw [hflat];obtain ⟨hxl,h|⟨g,cap,cur,rfl,hg,hgb,hcap,-,hcur,htk⟩⟩:=hrow
  ·obtain ⟨rfl,hn0⟩:=h;have:z5l p ss=[]:=List.length_eq_zero_iff.1 hn0;rw [this];exact ⟨⟨none,0,0⟩,rfl,(zc6 hsR).slc_nil⟩
  ·have hgB:g≠w.heap.size+1:=λe=>by
    subst e;have hbox:W.heap[w.heap.size+1]? = some (.cells #[_] 77 (0,0)):=hbox;rw [hbox] at hgb;cases hgb
   have hgD:g≠D:=λe=>by subst e;rw [hK] at hgb;cases hgb
   have hsR:=zc6 (zdw hsR (b:=g) (by simp;omega) hgb);refine ⟨⟨some ⟨g,0,none⟩,(z5l p ss).length,cap⟩,rfl,hsR.imp λq hq=>.inr ⟨g,0,cur,(0,0),rfl,hq,by simp,hcap,by simp [hcur],λi hi=>?_,z2g _ _⟩⟩;rw [<- htk,List.length_take] at hi;rw [<- htk,Nat.zero_add,List.getElem?_take,if_pos (by omega)];simp
 refine callsIn_wide.2 (Calls.mono (zmz x _ (Nat.lt_trans hlen2 (by omega)) hsx) ?_);rintro e w' ⟨vs,rfl,rfl,ys,hys,hso,hs'⟩;have hB1:=(hs'.pick [2]).get;have hD1:=(hs'.pick [1]).get;refine ⟨rfl,by rw [z3h hB1];rfl,hD1,x,rfl,?_⟩;have hset:Sat (z3i w' D (.deferred none)) _:=(hs'.pick [1]).set (o':=.deferred none);rw [zee (hys.trans hpS) hso (zkh hok.sorted p)] at hset;exact hset.sub
end
def zhe (x:Sl):List Value:=[x.v]
instance:Enc1 zhe .slc (λx=>x):=⟨λ_=>rfl⟩
instance:EncN zhe 1:=⟨λ_=>rfl,by decide,by simp [zhe,Value.oneCell']⟩
def zbr (l:List HP):List Sl->List (List UInt8)->Prop
 | [],[]=>True
 | x::xs,b::bs=>(∀ w,Sat w l->Rd w 1 x (b.flatMap zk))/\zbr l xs bs
 | _,_=>False
theorem zbr.length {l:List HP}:∀ {xs:List Sl} {bs:List (List UInt8)},zbr l xs bs->xs.length=bs.length
 | [],[],_=>rfl
 | _::_,_::_,h=>by rw [List.length_cons,List.length_cons,h.2.length]
theorem zbr.get {l:List HP}:∀ {xs:List Sl} {bs:List (List UInt8)} (h:zbr l xs bs) (i:Nat) (h1:i<xs.length) (h2:i<bs.length),∀ w,Sat w l->Rd w 1 xs[i] (bs[i].flatMap zk)
 | _::_,_::_,h,0,_,_=>h.1
 | _::_,_::_,h,i+1,h1,h2=>h.2.get i (by simpa using h1) (by simpa using h2)
theorem z41 {bs:List (List UInt8)} {i:Nat} (hi:i<bs.length):(bs.take (i+1)).flatten=(bs.take i).flatten++bs[i]:=by
 rw [List.take_add_one,List.getElem?_eq_getElem hi,List.flatten_append];simp
section
variable {w:World} {l r r0:List HP} {d:Nat} {A:DiskA}
theorem zj2 (hok:okA A) {n:ByteArray} (hn:z3u n=true) {bs:List UInt8} (hb:bs.length<=A.free) (hm:¬ (z2b A.fs n=false/\A.fs.length>=128)) :
  okA { A with fs:=if z2b A.fs n then A.fs.map (z26 n λf=>{ f with b:=f.b++bs }) else z4s ⟨n,bs,0⟩ A.fs }:=by
 have hr:=hok.room;have hu:=hok.used;unfold DiskA.free at hb
 by_cases h:z2b A.fs n=true
 ·rw [if_pos h];obtain ⟨f,hf,rfl⟩:=z6t.1 h;obtain ⟨s,u,hsu⟩:=List.append_of_mem hf
  have hpm:A.fs.Perm (f::(s++u)):=by rw [hsu];exact List.perm_middle
  have hnd:=(hpm.map (·.name)).nodup_iff.1 (z3q hok.sorted);rw [List.map_cons,List.nodup_cons] at hnd;have hne:∀ g ∈ s++u,g.name≠f.name:=λg hg e=>hnd.1 (List.mem_map.2 ⟨g,hg,e⟩);have h1:=ze5 (g:=λf=>{ f with b:=f.b++bs }) hpm hne
  have h2:used A.fs=f.b.length+used (s++u):=by rw [z4d hpm,z2a]
  refine ⟨hok.room,?_,by show (A.fs.map _).length<=_;rw [List.length_map];exact hok.many,hok.left,zdy (za3 λ_=>rfl) hok.sorted,λg hg=>?_,λg hg=>?_⟩
  ·show used (A.fs.map _)<=_;rw [h1];show (f.b++bs).length+_<=_;rw [List.length_append];omega
  ·obtain ⟨g,hg',rfl⟩:=List.mem_map.1 hg;have:=hok.kept g hg';unfold z26;split
   ·show g.kept<=(g.b++bs).length;rw [List.length_append];omega
   ·exact this
  ·obtain ⟨g,hg',rfl⟩:=List.mem_map.1 hg;rw [za3 (by intro _;rfl)];exact hok.names g hg'
 ·have h:z2b A.fs n=false:=by simpa using h
  rw [if_neg (by rw [h];simp)];have hne:=z6u.1 h;have hp:=z6y ⟨n,bs,0⟩ A.fs;refine ⟨hok.room,?_,?_,hok.left,zh1 _ hne hok.sorted,λg hg=>?_,λg hg=>?_⟩
  ·show used (z4s _ _)<=_;rw [z4d hp,z2a];show bs.length+_<=_;omega
  ·show (z4s _ _).length<=_;rw [hp.length_eq,List.length_cons];have:=hok.many;have:A.fs.length≠128:=λe=>hm ⟨h,by omega⟩;omega
  ·rcases zhw.1 hg with rfl|hg
   ·exact Nat.zero_le _
   ·exact hok.kept g hg
  ·rcases zhw.1 hg with rfl|hg
   ·exact zwh hn
   ·exact hok.names g hg
theorem zoi (x:FileA) (g:FileA->FileA) (hg:(g x).name=x.name):∀ {fs:List FileA},(∀ f ∈ fs,f.name≠x.name)->(z4s x fs).map (z26 x.name g)=z4s (g x) fs
 | [],_=>by simp [z4s,z26]
 | f::r,h=>by
  have hf:z26 x.name g f=f:=by rw [z26,if_neg (h f (List.mem_cons_self ..))]
  have hr:r.map (z26 x.name g)=r:=by
   conv=>rhs;rw [<- List.map_id r]
   exact List.map_congr_left λy hy=>by rw [z26,if_neg (h y (List.mem_cons_of_mem _ hy))];rfl
  rw [z4s,z4s,hg];split
  ·rw [List.map_cons,List.map_cons,hf,hr,z26,if_pos rfl]
  ·rw [List.map_cons,hf,zoi x g hg λy hy=>h y (List.mem_cons_of_mem _ hy)]
theorem znp (n:ByteArray) (ps:Sl) (xs:List Sl) (bs:List (List UInt8)) [hps:FocR r ps 1 (xs.flatMap zhe)] (hbs:zbr r xs bs) (hlen:bs.length<=1000) (hsum:∀ b ∈ bs,b.length<=100000000) [hf:Fo l dk d A r] (hs:Sat w l) :
  Ret P F.a25 #[.pointer (some ⟨d,0,none⟩),.string n,ps.v] w λvs w'=>vs=[.int .i64 (z0b A n bs.flatten).1]/\Sat w' (dk d (z0b A n bs.flatten).2::r) :=
 zy4 _ n ps <| by
  delta z0ea AA AN AR AS AU AW Aa Ab Ac Ad Af Ag Aj Ak Al Am An Ao Ap Ar Av Aw Az Ba Bb Bc;unfold z0b;have hxl:=hbs.length
  have hok0:okA A:=by obtain ⟨m,FS,hp,hok,hs⟩:=z2h (hs.perm hf.perm);exact hok
  have hfr:A.free<=4194304:=by have:=hok0.room;unfold DiskA.free;omega
  refine ziz hs (λhg w' hs=>?_) λhg w' hs=>?_
  ·rw [if_pos hg];exact ⟨rfl,hs⟩
  rw [if_neg (by rw [hg];simp)];have hpl:=hs.slen ps (xs:=xs) (enc:=zhe);refine zb (z0cs n hs) λ_ _ hs=>?_;obtain ⟨rfl,hs⟩:=hs;refine zd (zi (λh=>?_) λh=>?_)
  ·have h:z3u n=false:=by simpa using h
   rw [if_pos h];exact ⟨rfl,rfl,hs⟩
  have hn:z3u n=true:=by simpa using h
  rw [if_neg (by rw [hn];simp)];refine zj (λv w'=>bs.flatten.length<=A.free/\v=(((bs.flatten.length:Nat):Int),())/\Sat w' (dk d A::r)) ?_ ?_
  ·refine z0a (λk v w=>∃ i:Nat,v=((((bs.take i).flatten.length:Nat):Int),(i:Int),())/\i<=xs.length/\xs.length-i=k/\(bs.take i).flatten.length<=A.free/\Sat w (dk d A::r)) xs.length ⟨0,rfl,by omega,rfl,by simp,hs⟩ ?_;clear hs;rintro k _ w ⟨i,rfl,hi,hk,hsm,hs⟩;refine zh (zi (λhc=>?_) λhc=>?_)
   ·have hil:i<xs.length:=by omega
    have hib:i<bs.length:=by omega
    refine z1g hs i hil ?_;have hrl:xs[i].len=bs[i].length:=(hbs.get i hil hib _ hs.tail).len (enc:=zk) (λ_=>rfl) (by decide);have hbi:=hsum _ (List.getElem_mem hib);refine zb (z0ce hs) λ_ _ hs=>?_;obtain ⟨rfl,hs⟩:=hs;refine zd ?_;have ew:IntKind.wrap .i64 ((A.free:Int)-((bs.take i).flatten.length:Nat))=(A.free:Int)-((bs.take i).flatten.length:Nat):=z05z;rw [ew];refine zi (λh3=>?_) λh3=>?_
    ·refine zm (zm ?_);rw [if_pos]
     ·exact ⟨rfl,rfl,hs⟩
     ·left
      have h4:(bs.take (i+1)).flatten.length<=bs.flatten.length:=by
       have:=congrArg (λl:List (List UInt8)=>l.flatten.length) (List.take_append_drop (i+1) bs);simp only [List.flatten_append,List.length_append] at this;omega
      rw [z41 hib,List.length_append] at h4;omega
    ·refine z27 (y:=(((bs.take (i+1)).flatten.length:Nat):Int)) ?_ ?_
     ·refine z22 (us':=[.int .i64 (((bs.take (i+1)).flatten.length:Nat):Int),.int .i64 ((i+1:Nat):Int)]) (by (try simp (disch:=omega) only [w64]);first|rfl|(congr;omega)) (z0x (xs.length-(i+1)) ?_);refine ⟨i+1,rfl,by omega,rfl,?_,hs⟩;rw [z41 hib,List.length_append];omega
     ·rw [z41 hib,List.length_append,w64 (by omega) (by omega)];omega
   ·refine zm (zg ?_);rw [List.take_of_length_le (by omega)] at hsm ⊢;exact ⟨hsm,rfl,hs⟩
  clear hs;rintro _ w ⟨hfit,rfl,hs⟩;refine zh ?_;obtain ⟨m,FS,hp,hok,hs⟩:=z2h hs;have hou:=hok.used;have hor:=hok.room;have hfit':=hfit;unfold DiskA.free at hfit'
  (repeat (first|with_reducible (first|refine zh ?_|refine zf ?_|refine z04 ?_|refine z8 hs ?_|refine zl hs ?_|refine ze ?_|refine zt hs λ_ hs=>?_|refine zu hs λ_ _ hs=>?_|refine zr hs λ_ _ hs=>?_|refine zy hs λ_ hs=>?_|refine zv hs λ_ hs=>?_)|(apply wp_must;(focus first|trivial|omega|assumption))|refine z1i ?_|refine wp_lt ?_))
  have hnot:∀ (g:Bool),z2b A.fs n=g->¬ (g=false/\A.fs.length>=128)->(if bs.flatten.length>A.free\/(z2b A.fs n=false/\A.fs.length>=128) then ((5:Int),A) else
    (0,z3e { A with fs:=if z2b A.fs n then A.fs.map (z26 n λf=>{ f with b:=f.b++bs.flatten }) else z4s ⟨n,bs.flatten,0⟩ A.fs })) =
    (0,z3e { A with fs:=if z2b A.fs n then A.fs.map (z26 n λf=>{ f with b:=f.b++bs.flatten }) else z4s ⟨n,bs.flatten,0⟩ A.fs }):=λg hg h=>by
   rw [if_neg];rintro (h1|⟨h1,h2⟩)
   ·omega
   ·exact h ⟨by rw [<- hg,h1],h2⟩
  refine z02m hs (λb hb=>?_) λhb=>?_
  all_goals refine wp_lt ?_
  all_goals refine zj (λv w'=>∃ (t:FileM) (FS':List FileM) (fs1:List FileA),v=(some ⟨t.at_,0,none⟩,())/\t.f.name=n/\fs1.Perm (t.f::FS'.map FileM.f)/\(∀ g ∈ FS'.map FileM.f,g.name≠t.f.name)/\used fs1=used A.fs/\¬ (z2b A.fs n=false/\A.fs.length>=128) /\
    fs1.map (z26 n λf=>{ f with b:=f.b++bs.flatten })=(if z2b A.fs n then A.fs.map (z26 n λf=>{ f with b:=f.b++bs.flatten }) else z4s ⟨n,bs.flatten,0⟩ A.fs) /\
    Sat w' (pt t.at_ (.cells #[t.x.v,.int .i64 t.f.kept] T.a9)::slc T.a63 1 t.x (t.f.b.flatMap zk)::HP.all (FS'.map z45)::pt d (.cells #[.int .i64 A.left,.bool A.gone,.int .i64 A.room,.int .i64 (used A.fs),.map (some m)] T.a8)::z03 ekS evF m ((t::FS').map λt=>(t.f.name,t.at_))::r)) ?_ ?_
  ·obtain ⟨t,ht,rfl,rfl,hA⟩:=zac hp hb;have hhas:z2b A.fs t.f.name=true:=z6t.2 ⟨_,hA,rfl⟩;refine z06 ?_ (by simp);obtain ⟨FS',hpm,hs⟩:=z8d hs ht;obtain ⟨h1,h2,-⟩:=apart hp hok hpm;refine zg ⟨t,FS',A.fs,rfl,rfl,h1,h2,rfl,by rw [hhas];simp,by rw [if_pos hhas],?_⟩;have hs:=(hs.pick [4]).mapPerm (hpm.map λt=>(t.f.name,t.at_));exact hs.sub
  rotate_left
  ·have hno:=z8t hp hb;have hhas:=z6u.2 hno;refine z18 ?_ (by simp)
   (repeat (first|with_reducible (first|refine zh ?_|refine zf ?_|refine z04 ?_|refine z8 hs ?_|refine zl hs ?_|refine ze ?_|refine zt hs λ_ hs=>?_|refine zu hs λ_ _ hs=>?_|refine zr hs λ_ _ hs=>?_|refine zy hs λ_ hs=>?_|refine zv hs λ_ hs=>?_)|(apply wp_must;(focus first|trivial|omega|assumption))|refine z1i ?_|refine wp_lt ?_))
   refine zd3 hs ?_
   have hml:(FS.map λt=>(t.f.name,t.at_)).length=A.fs.length:=by rw [List.length_map,<- hp.length_eq,List.length_map]
   rw [hml];refine zi (λh3=>?_) λh3=>?_
   ·refine zm ?_;rw [if_pos (.inr ⟨hhas,by omega⟩)];exact ⟨rfl,rfl,z2l m hp hok hs⟩
   refine zr hs λa w' hs=>?_
   (repeat (first|with_reducible (first|refine zh ?_|refine zf ?_|refine z04 ?_|refine z8 hs ?_|refine zl hs ?_|refine ze ?_|refine zt hs λ_ hs=>?_|refine zu hs λ_ _ hs=>?_|refine zr hs λ_ _ hs=>?_|refine zy hs λ_ hs=>?_|refine zv hs λ_ hs=>?_)|(apply wp_must;(focus first|trivial|omega|assumption))|refine z1i ?_|refine wp_lt ?_))
   refine z4x hs (FS.map λt=>(t.f.name,t.at_)) (.inr ⟨hb,rfl⟩) a λw' hs=>zg ⟨⟨a,⟨none,0,0⟩,⟨n,[],0⟩⟩,FS,z4s ⟨n,[],0⟩ A.fs,rfl,rfl,(z6y _ _).trans (.cons _ hp.symm),λg hg=>hno g (hp.mem_iff.1 hg),?_,by omega,?_,?_⟩
   ·rw [z4d (z6y _ _),z2a];exact Nat.zero_add _
   ·rw [if_neg (by rw [hhas];simp)];exact zoi ⟨n,[],0⟩ (λf=>{ f with b:=f.b++bs.flatten }) rfl hno
   ·exact (hs.slc_nil (T:=T.a63) (sz:=1)).pick [2,0,2,1,0]
  all_goals clear hs
  all_goals rintro _ w ⟨t,FS',fs1,rfl,htn,h1,h2,hus,hno,hfin,hs⟩
  all_goals refine zh ?_
  all_goals rw [hnot _ rfl hno,<- hfin]
  all_goals subst htn
  all_goals refine zj (λ_ w'=>∃ x1:Sl,Sat w' (pt t.at_ (.cells #[x1.v,.int .i64 t.f.kept] T.a9)::slc T.a63 1 x1 ((t.f.b++bs.flatten).flatMap zk)::HP.all (FS'.map z45)::pt d (.cells #[.int .i64 A.left,.bool A.gone,.int .i64 A.room,.int .i64 (used A.fs),.map (some m)] T.a8)::z03 ekS evF m ((t::FS').map λt=>(t.f.name,t.at_))::r)) ?_ ?_
  ·refine z0a (λk v w=>∃ (i:Nat) (x1:Sl),v=((i:Int),())/\i<=xs.length/\xs.length-i=k/\Sat w (pt t.at_ (.cells #[x1.v,.int .i64 t.f.kept] T.a9)::slc T.a63 1 x1 ((t.f.b++(bs.take i).flatten).flatMap zk)::HP.all (FS'.map z45)::pt d (.cells #[.int .i64 A.left,.bool A.gone,.int .i64 A.room,.int .i64 (used A.fs),.map (some m)] T.a8)::z03 ekS evF m ((t::FS').map λt=>(t.f.name,t.at_))::r)) xs.length ⟨0,t.x,rfl,by omega,rfl,by simpa using hs⟩ ?_;clear hs;rintro k _ w ⟨i,x1,rfl,hi,hk,hs⟩;refine zh (zi (λhc=>?_) λhc=>?_)
   ·have hil:i<xs.length:=by omega
    have hib:i<bs.length:=by omega
    refine z1g hs i hil ?_
    have hrd:FocR r xs[i] 1 (bs[i].flatMap zk):=⟨hbs.get i hil hib⟩
    have hbi:=hsum _ (List.getElem_mem hib)
    have hsm:(bs.take i).flatten.length<=bs.flatten.length:=by
     have:=congrArg (λl:List (List UInt8)=>l.flatten.length) (List.take_append_drop i bs);simp only [List.flatten_append,List.length_append] at this;omega
    have htb:t.f.b.length<=used fs1:=z9i (h1.mem_iff.2 (List.mem_cons_self ..))
    (repeat (first|with_reducible (first|refine zh ?_|refine zf ?_|refine z04 ?_|refine z8 hs ?_|refine zl hs ?_|refine ze ?_|refine zt hs λ_ hs=>?_|refine zu hs λ_ _ hs=>?_|refine zr hs λ_ _ hs=>?_|refine zy hs λ_ hs=>?_|refine zv hs λ_ hs=>?_)|(apply wp_must;(focus first|trivial|omega|assumption))|refine z1i ?_|refine wp_lt ?_))
    refine wp_app' hs (xs:=t.f.b++(bs.take i).flatten) (ys:=bs[i]) (enc:=zk) (λz w' hs=>?_) (by rw [List.length_append];omega)
    (repeat (first|with_reducible (first|refine zh ?_|refine zf ?_|refine z04 ?_|refine z8 hs ?_|refine zl hs ?_|refine ze ?_|refine zt hs λ_ hs=>?_|refine zu hs λ_ _ hs=>?_|refine zr hs λ_ _ hs=>?_|refine zy hs λ_ hs=>?_|refine zv hs λ_ hs=>?_)|(apply wp_must;(focus first|trivial|omega|assumption))|refine z1i ?_|refine wp_lt ?_))
    refine z22 (us':=[.int .i64 ((i+1:Nat):Int)]) (by (try simp (disch:=omega) only [w64]);first|rfl|(congr;omega)) (z0x (xs.length-(i+1)) ?_);refine ⟨i+1,z,rfl,by omega,rfl,?_⟩;rw [z41 hib,<- List.append_assoc];exact hs.sub
   ·refine zm (zg ⟨x1,?_⟩)
    rwa [List.take_of_length_le (l:=bs) (by omega)] at hs
  rotate_left
  ·refine z0a (λk v w=>∃ (i:Nat) (x1:Sl),v=((i:Int),())/\i<=xs.length/\xs.length-i=k/\Sat w (pt t.at_ (.cells #[x1.v,.int .i64 t.f.kept] T.a9)::slc T.a63 1 x1 ((t.f.b++(bs.take i).flatten).flatMap zk)::HP.all (FS'.map z45)::pt d (.cells #[.int .i64 A.left,.bool A.gone,.int .i64 A.room,.int .i64 (used A.fs),.map (some m)] T.a8)::z03 ekS evF m ((t::FS').map λt=>(t.f.name,t.at_))::r)) xs.length ⟨0,t.x,rfl,by omega,rfl,by simpa using hs⟩ ?_;clear hs;rintro k _ w ⟨i,x1,rfl,hi,hk,hs⟩;refine zh (zi (λhc=>?_) λhc=>?_)
   ·have hil:i<xs.length:=by omega
    have hib:i<bs.length:=by omega
    refine z1g hs i hil ?_
    have hrd:FocR r xs[i] 1 (bs[i].flatMap zk):=⟨hbs.get i hil hib⟩
    have hbi:=hsum _ (List.getElem_mem hib)
    have hsm:(bs.take i).flatten.length<=bs.flatten.length:=by
     have:=congrArg (λl:List (List UInt8)=>l.flatten.length) (List.take_append_drop i bs);simp only [List.flatten_append,List.length_append] at this;omega
    have htb:t.f.b.length<=used fs1:=z9i (h1.mem_iff.2 (List.mem_cons_self ..))
    (repeat (first|with_reducible (first|refine zh ?_|refine zf ?_|refine z04 ?_|refine z8 hs ?_|refine zl hs ?_|refine ze ?_|refine zt hs λ_ hs=>?_|refine zu hs λ_ _ hs=>?_|refine zr hs λ_ _ hs=>?_|refine zy hs λ_ hs=>?_|refine zv hs λ_ hs=>?_)|(apply wp_must;(focus first|trivial|omega|assumption))|refine z1i ?_|refine wp_lt ?_))
    refine wp_app' hs (xs:=t.f.b++(bs.take i).flatten) (ys:=bs[i]) (enc:=zk) (λz w' hs=>?_) (by rw [List.length_append];omega)
    (repeat (first|with_reducible (first|refine zh ?_|refine zf ?_|refine z04 ?_|refine z8 hs ?_|refine zl hs ?_|refine ze ?_|refine zt hs λ_ hs=>?_|refine zu hs λ_ _ hs=>?_|refine zr hs λ_ _ hs=>?_|refine zy hs λ_ hs=>?_|refine zv hs λ_ hs=>?_)|(apply wp_must;(focus first|trivial|omega|assumption))|refine z1i ?_|refine wp_lt ?_))
    refine z22 (us':=[.int .i64 ((i+1:Nat):Int)]) (by (try simp (disch:=omega) only [w64]);first|rfl|(congr;omega)) (z0x (xs.length-(i+1)) ?_);refine ⟨i+1,z,rfl,by omega,rfl,?_⟩;rw [z41 hib,<- List.append_assoc];exact hs.sub
   ·refine zm (zg ⟨x1,?_⟩)
    rwa [List.take_of_length_le (l:=bs) (by omega)] at hs
  all_goals clear hs
  all_goals rintro _ w ⟨x1,hs⟩
  all_goals refine zh ?_
  all_goals have hu3:=ze5 (g:=λf=>{ f with b:=f.b++bs.flatten }) h1 h2
  all_goals have hu4:used fs1=t.f.b.length+used (FS'.map FileM.f):=by rw [z4d h1,z2a]
  all_goals have hu5:used (fs1.map (z26 t.f.name λf=>{ f with b:=f.b++bs.flatten }))=used A.fs+bs.flatten.length:=by (rw [hu3];show (t.f.b++bs.flatten).length+_=_;rw [List.length_append];omega)
  all_goals have ew:IntKind.wrap .i64 (((used A.fs:Nat):Int)+((bs.flatten.length:Nat):Int))=((used (fs1.map (z26 t.f.name λf=>{ f with b:=f.b++bs.flatten })):Nat):Int):=by rw [hu5,w64 (by omega) (by omega)];omega
  all_goals refine zf ?_
  all_goals refine z8 hs ?_
  all_goals rw [ew]
  all_goals (repeat (first|with_reducible (first|refine zh ?_|refine zf ?_|refine z04 ?_|refine z8 hs ?_|refine zl hs ?_|refine ze ?_|refine zt hs λ_ hs=>?_|refine zu hs λ_ _ hs=>?_|refine zr hs λ_ _ hs=>?_|refine zy hs λ_ hs=>?_|refine zv hs λ_ hs=>?_)|(apply wp_must;(focus first|trivial|omega|assumption))|refine z1i ?_|refine wp_lt ?_))
  all_goals have hs:=z7c (FS:=FS') ⟨t.at_,x1,{ t.f with b:=t.f.b++bs.flatten }⟩ hs
  all_goals have hp':(((⟨t.at_,x1,{ t.f with b:=t.f.b++bs.flatten }⟩:FileM)::FS').map FileM.f).Perm (fs1.map (z26 t.f.name λf=>{ f with b:=f.b++bs.flatten })):=(z7w (g:=λf=>{ f with b:=f.b++bs.flatten }) h1 h2).symm
  all_goals have hok':=zj2 hok hn hfit hno
  all_goals rw [<- hfin] at hok'
  all_goals have hs:Sat _ (z03 ekS evF m (((⟨t.at_,x1,{ t.f with b:=t.f.b++bs.flatten }⟩:FileM)::FS').map λt=>(t.f.name,t.at_))::_):=hs.pick [2]
  all_goals rw [hg] at hs
  all_goals refine zb (zdz (l':=r) hg hok' hp' hs) λ_ _ hs=>?_
  all_goals obtain ⟨rfl,hs⟩:=hs
  all_goals refine zd ?_
  all_goals exact ⟨rfl,rfl,hs⟩
end
theorem ze4 {fs:List FileA} {g:FileA->FileA} (hb:∀ f,(g f).b=f.b):used (fs.map g)=used fs:=by
 unfold used;rw [List.map_map]
 congr 1
 exact List.map_congr_left λf _=>by show (g f).b.length=_;rw [hb]
theorem zuk {A:DiskA} (hok:okA A) {g:FileA->FileA} (hn:∀ f,(g f).name=f.name) (hb:∀ f,(g f).b=f.b) (hk:∀ f,f.kept<=f.b.length->(g f).kept<=f.b.length):okA { A with fs:=A.fs.map g }:=by
 refine ⟨hok.room,by show used (A.fs.map g)<=_;rw [ze4 hb];exact hok.used,by show (A.fs.map g).length<=_;rw [List.length_map];exact hok.many,hok.left,zdy hn hok.sorted,λf hf=>?_,λf hf=>?_⟩
 ·obtain ⟨f,hf',rfl⟩:=List.mem_map.1 hf;rw [hb];exact hk f (hok.kept f hf')
 ·obtain ⟨f,hf',rfl⟩:=List.mem_map.1 hf;rw [hn];exact hok.names f hf'
def za4 (f:FileA):FileA:={ f with kept:=f.b.length }
def z36 (ns:List ByteArray) (f:FileA):FileA:=if ns.any (λm=>decide (m=f.name)) then za4 f else f
theorem zdo (ns:List ByteArray) (f:FileA):(z36 ns f).name=f.name:=by unfold z36;split <;> rfl
theorem zkc (ns:List ByteArray) (f:FileA):(z36 ns f).b=f.b:=by unfold z36;split <;> rfl
theorem zwc (ns:List ByteArray) (f:FileA) (h:f.kept<=f.b.length):(z36 ns f).kept<=f.b.length:=by
 unfold z36;split
 ·exact Nat.le_refl _
 ·exact h
theorem z017:z36 []=id:=by funext f;simp [z36]
theorem zwd (ns:List ByteArray) (n:ByteArray) (f:FileA):z26 n za4 (z36 ns f)=z36 (ns++[n]) f:=by
 unfold z26;rw [zdo];unfold z36;rw [List.any_append]
 by_cases h1:f.name=n
 ·rw [if_pos h1]
  have:(ns.any (λm=>decide (m=f.name)) || [n].any (λm=>decide (m=f.name)))=true:=by simp [h1]
  rw [if_pos this];split <;> rfl
 ·rw [if_neg h1]
  have:(ns.any (λm=>decide (m=f.name)) || [n].any (λm=>decide (m=f.name)))=ns.any (λm=>decide (m=f.name)):=by simp [Ne.symm h1]
  rw [this]
theorem z04w (s:ByteArray):Go.Proofs.YtogdpmpccmpekaaGreat.preF (ByteArray.mk #[]) s=true:=by
 unfold Go.Proofs.YtogdpmpccmpekaaGreat.preF;rw [show (ByteArray.mk #[]).toList=[] from by rw [ByteArray.toList_eq]];rfl
theorem zdq (fs:List FileA):z17 (ByteArray.mk #[]) fs=fs.map (·.name):=List.filter_eq_self.2 λs _=>z04w s
theorem z04b (fs:List FileA):fs.map (z36 (fs.map (·.name)))=fs.map (z4n []):=by
 refine List.map_congr_left λf hf=>?_;unfold z36 z4n;rw [if_pos (show ((fs.map (·.name)).any λm=>decide (m=f.name))=true by simp;exact ⟨f,hf,rfl⟩),if_pos (show zd8 [] f.name=true from rfl)];rfl
theorem z018 {ns:List ByteArray} (h:ns≠[]) (fs:List FileA):fs.map (z36 ns)=fs.map (z4n ns):=by
 refine List.map_congr_left λf hf=>?_
 have e:zd8 ns f.name=ns.any (λm=>decide (m=f.name)):=by
  unfold zd8
  cases ns with
  | nil=>exact absurd rfl h
  | cons _ _=>rfl
 unfold z36 z4n;rw [e];rfl
theorem z03i {fs:List FileA} {g:FileA->FileA} (hn:∀ f,(g f).name=f.name) (n:ByteArray):z2b (fs.map g) n=z2b fs n:=by
 unfold z2b;rw [List.any_map]
 congr 1
 funext f;show decide ((g f).name=n)=_;rw [hn]
section
variable {w:World} {l r r0:List HP} {d:Nat} {A:DiskA}
theorem z0dh (nx:Sl) (ns:List ByteArray) [hns:FocR r nx 1 (ns.flatMap z2m)] (hlen:ns.length<=100000) [hf:Fo l dk d A r] (hs:Sat w l) :
  Ret P F.a33 #[.pointer (some ⟨d,0,none⟩),nx.v] w λvs w'=>vs=[.int .i64 (z29 A ns).1]/\Sat w' (dk d (z29 A ns).2::r) :=
 zyb _ nx <| by
  delta z0eh AN AO AS AW Aa Ab Ac Ad Ak Al Am An Ao Ap Aq Ar Av Az Bd Be Bf;unfold z29
  refine ziz hs (λhg w' hs=>?_) λhg w' hs=>?_
  ·rw [if_pos hg];exact ⟨rfl,hs⟩
  rw [if_neg (by rw [hg];simp)]
  have hpl:=hs.slen nx (xs:=ns) (enc:=z2m)
  have hok0:okA A:=by obtain ⟨m,FS,hp,hok,hs⟩:=z2h hs;exact hok
  refine zj (λv w'=>ns.all (z2b A.fs)=true/\Sat w' (dk d A::r)) ?_ ?_
  ·refine z0a (λk v w=>∃ i:Nat,v=((i:Int),())/\i<=ns.length/\ns.length-i=k/\(ns.take i).all (z2b A.fs)=true/\Sat w (dk d A::r)) ns.length ⟨0,rfl,by omega,rfl,rfl,hs⟩ ?_
   clear hs
   rintro k _ w ⟨i,rfl,hi,hk,hall,hs⟩
   refine zh ?_
   refine zi (λhc=>?_) λhc=>?_
   ·have hil:i<ns.length:=by omega
    refine z1g hs i hil ?_
    have htk:(ns.take (i+1)).all (z2b A.fs)=z2b A.fs ns[i]:=by
     rw [List.take_add_one,List.getElem?_eq_getElem hil,List.all_append,hall];simp
    obtain ⟨m,FS,hp,hok,hs⟩:=z2h hs
    (repeat (first|with_reducible (first|refine zh ?_|refine zf ?_|refine z04 ?_|refine z8 hs ?_|refine zl hs ?_|refine ze ?_|refine zt hs λ_ hs=>?_|refine zu hs λ_ _ hs=>?_|refine zr hs λ_ _ hs=>?_|refine zy hs λ_ hs=>?_|refine zv hs λ_ hs=>?_)|(apply wp_must;(focus first|trivial|omega|assumption))|refine z1i ?_|refine wp_lt ?_))
    refine z5p hs (λb hb=>?_) λhb=>?_
    ·obtain ⟨t,ht,rfl,hnm,hA⟩:=zac hp hb
     refine z06 ?_ (by simp)
     refine z22 (us':=[.int .i64 ((i+1:Nat):Int)]) (by (try simp (disch:=omega) only [w64]);first|rfl|(congr;omega)) ?_
     refine z0x (ns.length-(i+1)) ?_
     exact ⟨i+1,rfl,by omega,rfl,by rw [htk];exact z6t.2 ⟨_,hA,hnm⟩,z2l m hp hok hs⟩
    ·refine z18 ?_ (by rfl)
     refine zm (zm ?_)
     have:ns.all (z2b A.fs)=false:=by
      rw [<- List.take_append_drop (i+1) ns,List.all_append,htk,z6u.2 (z8t hp hb)];rfl
     rw [if_pos this]
     exact ⟨rfl,rfl,z2l m hp hok hs⟩
   ·refine zm (zg ⟨?_,hs⟩)
    rwa [List.take_of_length_le (by omega)] at hall
  clear hs
  rintro _ w ⟨hall,hs⟩
  refine zh ?_
  rw [if_neg (by rw [hall];simp)]
  refine zj (λv w'=>∃ (nx1:Sl) (ns1:List ByteArray) (r1:List HP),v=(nx1,())/\ns1.length<=100000/\ns1.all (z2b A.fs)=true/\A.fs.map (z36 ns1)=A.fs.map (z4n ns)/\(∃ h:FocR (slc T.a57 1 nx1 (ns1.flatMap z2m)::r) nx1 1 (ns1.flatMap z2m),True) /\
    (Sat w' (dk d A::r1))/\(r1=r/\(∃ _h:FocR r nx1 1 (ns1.flatMap z2m),True)\/r1=slc T.a57 1 nx1 (ns1.flatMap z2m)::r)) ?_ ?_
  ·refine zi (λh=>?_) λh=>?_
   ·have hnil:ns=[]:=List.length_eq_zero_iff.1 (by omega)
    subst hnil
    refine zb (zuh (ByteArray.mk #[]) hs) λ_ _ hs=>?_
    obtain ⟨x,rfl,hs⟩:=hs
    refine zd ?_
    refine zg ?_
    refine ⟨x,z17 (ByteArray.mk #[]) A.fs,_,rfl,?_,?_,?_,⟨inferInstance,trivial⟩,(hs.pick [1]),.inr rfl⟩
    ·rw [zdq,List.length_map];have:=hok0.many;omega
    ·rw [zdq,List.all_map,List.all_eq_true]
     exact λf hf=>z6t.2 ⟨f,hf,rfl⟩
    ·rw [zdq];exact z04b A.fs
   ·refine zg ?_
    refine ⟨nx,ns,r,rfl,hlen,hall,z018 (λe=>by subst e;simp at hpl;omega) A.fs,⟨inferInstance,trivial⟩,hs,.inl ⟨rfl,hns,trivial⟩⟩
  clear hs
  rintro _ w ⟨nx1,ns1,r1,rfl,hlen1,hall1,hmark,-,hs,hr1⟩
  refine zh ?_
  have hR1:FocR r1 nx1 1 (ns1.flatMap z2m):=by
   rcases hr1 with ⟨rfl,h,-⟩|rfl
   ·exact h
   ·infer_instance
  have hsub:∀ {H:HP} {w:World},Sat w (H::r1)->Sat w (H::r):=λ{H w} h=>by
   rcases hr1 with ⟨rfl,-⟩|rfl
   ·exact h
   ·exact h.sub
  have hpl1:=hs.slen nx1 (xs:=ns1) (enc:=z2m)
  refine zj (λv w'=>Sat w' (dk d { A with fs:=A.fs.map (z36 ns1) }::r1)) ?_ ?_
  ·refine z0a (λk v w=>∃ i:Nat,v=((i:Int),())/\i<=ns1.length/\ns1.length-i=k/\Sat w (dk d { A with fs:=A.fs.map (z36 (ns1.take i)) }::r1)) ns1.length ⟨0,rfl,by omega,rfl,by rw [List.take_zero,z017,List.map_id];exact hs⟩ ?_
   clear hs
   rintro k _ w ⟨i,rfl,hi,hk,hs⟩
   refine zh ?_
   refine zi (λhc=>?_) λhc=>?_
   ·have hil:i<ns1.length:=by omega
    refine z1g hs i hil ?_
    obtain ⟨m,FS,hp,hok,hs⟩:=z2h hs
    (repeat (first|with_reducible (first|refine zh ?_|refine zf ?_|refine z04 ?_|refine z8 hs ?_|refine zl hs ?_|refine ze ?_|refine zt hs λ_ hs=>?_|refine zu hs λ_ _ hs=>?_|refine zr hs λ_ _ hs=>?_|refine zy hs λ_ hs=>?_|refine zv hs λ_ hs=>?_)|(apply wp_must;(focus first|trivial|omega|assumption))|refine z1i ?_|refine wp_lt ?_))
    refine z5p hs (λb hb=>?_) λhb=>?_
    ·obtain ⟨t,ht,rfl,hnm,hA⟩:=zac hp hb
     obtain ⟨FS',hpm,hs⟩:=z8d hs ht
     obtain ⟨h1,h2,-⟩:=apart hp hok hpm
     (repeat (first|with_reducible (first|refine zh ?_|refine zf ?_|refine z04 ?_|refine z8 hs ?_|refine zl hs ?_|refine ze ?_|refine zt hs λ_ hs=>?_|refine zu hs λ_ _ hs=>?_|refine zr hs λ_ _ hs=>?_|refine zy hs λ_ hs=>?_|refine zv hs λ_ hs=>?_)|(apply wp_must;(focus first|trivial|omega|assumption))|refine z1i ?_|refine wp_lt ?_))
     rw [hs.slen t.x (xs:=t.f.b) (enc:=zk)] at hs
     have hs:=z7c (FS:=FS') ⟨t.at_,t.x,za4 t.f⟩ hs
     have hs:Sat _ (z03 ekS evF m (((⟨t.at_,t.x,za4 t.f⟩:FileM)::FS').map λt=>(t.f.name,t.at_))::_):=(hs.pick [2]).mapPerm (hpm.map λt=>(t.f.name,t.at_))
     have hstep:(A.fs.map (z36 (ns1.take i))).map (z26 t.f.name za4)=A.fs.map (z36 (ns1.take (i+1))):=by
      rw [List.map_map,List.take_add_one,List.getElem?_eq_getElem hil]
      refine List.map_congr_left λf _=>?_
      show z26 t.f.name za4 (z36 _ f)=_
      rw [zwd,hnm];rfl
     have hp':(((⟨t.at_,t.x,za4 t.f⟩:FileM)::FS').map FileM.f).Perm (A.fs.map (z36 (ns1.take (i+1)))):=by
      rw [<- hstep]
      exact (z7w (g:=za4) h1 h2).symm
     refine z22 (us':=[.int .i64 ((i+1:Nat):Int)]) (by (try simp (disch:=omega) only [w64]);first|rfl|(congr;omega)) ?_
     refine z0x (ns1.length-(i+1)) ?_
     refine ⟨i+1,rfl,by omega,rfl,?_⟩
     exact z2l m (A:={ A with fs:=A.fs.map (z36 (ns1.take (i+1))) }) hp' (zuk hok0 (zdo _) (zkc _) (zwc _)) hs (by rw [ze4 (zkc _),ze4 (zkc _)])
    ·exfalso
     have h3:=z6u.2 (z8t hp hb)
     have h4:z2b A.fs ns1[i]=true:=List.all_eq_true.1 hall1 _ (List.getElem_mem hil)
     rw [z03i (zdo _),h4] at h3
     cases h3
   ·refine zm (zg ?_)
    rwa [List.take_of_length_le (by omega)] at hs
  clear hs
  rintro _ w hs
  refine zh ?_
  rw [hmark] at hs
  obtain ⟨m,FS,hp,hok,hs⟩:=z2h (hsub hs)
  have hs:Sat w (pt d (.cells #[.int .i64 A.left,.bool A.gone,.int .i64 A.room,.int .i64 (used (A.fs.map (z4n ns))),.map (some m)] T.a8)::_):=hs
  (repeat (first|with_reducible (first|refine zh ?_|refine zf ?_|refine z04 ?_|refine z8 hs ?_|refine zl hs ?_|refine ze ?_|refine zt hs λ_ hs=>?_|refine zu hs λ_ _ hs=>?_|refine zr hs λ_ _ hs=>?_|refine zy hs λ_ hs=>?_|refine zv hs λ_ hs=>?_)|(apply wp_must;(focus first|trivial|omega|assumption))|refine z1i ?_|refine wp_lt ?_))
  rw [hg] at hs
  refine zb (zdz (l':=r) (A:=A) hg hok hp hs) λ_ _ hs=>?_
  obtain ⟨rfl,hs⟩:=hs
  refine zd ?_
  exact ⟨rfl,rfl,hs⟩
end
theorem z05w {a b:List FileA} (h:a.Sublist b):used a<=used b:=by
 induction h with
 | slnil=>exact Nat.le_refl _
 | cons x _ ih=>rw [z2a];omega
 | cons_cons x _ ih=>rw [z2a,z2a];omega
def z0r (fs:List FileA) (n:ByteArray):Option (List UInt8 × Nat):=(fs.find? λf=>decide (f.name=n)).map λf=>(f.b,f.kept)
theorem z00h (n:ByteArray):z0r [] n=none:=rfl
theorem z44 (f:FileA) (fs:List FileA) (n:ByteArray):z0r (f::fs) n=if f.name=n then some (f.b,f.kept) else z0r fs n:=by
 unfold z0r;rw [List.find?_cons]
 by_cases h:f.name=n
 ·simp [h]
 ·simp [h]
theorem z8p {fs:List FileA} {n:ByteArray}:z0r fs n=none↔∀ f ∈ fs,f.name≠n:=by
 unfold z0r;rw [Option.map_eq_none_iff,List.find?_eq_none];simp
theorem zen {fs:List FileA} {f:FileA} (hn:(fs.map (·.name)).Nodup) (h:f ∈ fs):z0r fs f.name=some (f.b,f.kept):=by
 unfold z0r;rw [zbv hn h rfl];rfl
theorem zvx {fs:List FileA} {n:ByteArray} {p:List UInt8 × Nat} (h:z0r fs n=some p):(⟨n,p.1,p.2⟩:FileA) ∈ fs:=by
 unfold z0r at h;rw [Option.map_eq_some_iff] at h;obtain ⟨f,hf,rfl⟩:=h;have h1:=List.mem_of_find?_eq_some hf;have h2:=List.find?_some hf
 have h2:f.name=n:=by simpa using h2
 subst h2;exact h1
theorem z7e {fs:List FileA} {n:ByteArray}:z2b fs n=(z0r fs n).isSome:=by
 unfold z2b z0r;rw [Option.isSome_map,Bool.eq_iff_iff,List.any_eq_true,List.find?_isSome]
theorem zli (n:ByteArray) (g:FileA->FileA) (hg:∀ f,(g f).name=f.name) (m:ByteArray):∀ fs:List FileA,
  z0r (fs.map (z26 n g)) m=if m=n then (z0r fs n).map λp=>((g ⟨n,p.1,p.2⟩).b,(g ⟨n,p.1,p.2⟩).kept) else z0r fs m
 | []=>by simp [z00h]
 | f::fs=>by
  rw [List.map_cons,z44,zli n g hg m fs,z44,z44,za3 hg]
  by_cases h1:m=n
  ·subst h1;rw [if_pos rfl,if_pos rfl]
   by_cases h2:f.name=m
   ·rw [if_pos h2,if_pos h2];subst h2;unfold z26;rw [if_pos rfl];rfl
   ·rw [if_neg h2,if_neg h2]
  ·rw [if_neg h1,if_neg h1]
   by_cases h2:f.name=m
   ·rw [if_pos h2,if_pos h2];unfold z26;rw [if_neg (by rw [h2];exact h1)]
   ·rw [if_neg h2,if_neg h2]
theorem zlh (x:FileA) (m:ByteArray):∀ {fs:List FileA},(∀ f ∈ fs,f.name≠x.name)->z0r (z4s x fs) m=if m=x.name then some (x.b,x.kept) else z0r fs m
 | [],_=>by
  show z0r [x] m=_;rw [z44]
  by_cases h:m=x.name
  ·rw [if_pos h.symm,if_pos h]
  ·rw [if_neg h,if_neg λe=>h e.symm]
 | f::fs,h=>by
  have hf:=h f (List.mem_cons_self ..);have ih:=zlh x m (fs:=fs) λg hg=>h g (List.mem_cons_of_mem _ hg);unfold z4s;split
  ·rw [z44]
   by_cases h:m=x.name
   ·rw [if_pos h.symm,if_pos h]
   ·rw [if_neg h,if_neg λe=>h e.symm]
  ·rw [z44,ih,z44]
   by_cases h:m=x.name
   ·subst h;simp [hf]
   ·rw [if_neg h,if_neg h]
theorem zil (ns:List ByteArray) (m:ByteArray):∀ fs:List FileA,z0r (fs.map (z4n ns)) m=(z0r fs m).map λp=>if zd8 ns m then (p.1,p.1.length) else p
 | []=>rfl
 | f::fs=>by
  have hn:(z4n ns f).name=f.name:=by unfold z4n;split <;> rfl
  rw [List.map_cons,z44,zil ns m fs,z44,hn]
  by_cases h:f.name=m
  ·subst h;rw [if_pos rfl,if_pos rfl];unfold z4n;split
   ·rename_i h;simp [h]
   ·rename_i h;simp [h]
  ·rw [if_neg h,if_neg h]
theorem zic {A:DiskA} {n:ByteArray} {bs:List UInt8} (h:(z0b A n bs).1≠0):(z0b A n bs).2=A:=by
 unfold z0b at h ⊢;split
 ·rfl
 ·split
  ·rfl
  ·split
   ·rfl
   ·rename_i h1 h2 h3
    rw [if_neg h1,if_neg h2,if_neg h3] at h;exact absurd rfl h
theorem zl3 {A:DiskA} {n:ByteArray} {bs:List UInt8} (hok:okA A) (h:(z0b A n bs).1=0):A.gone=false/\z3u n=true/\bs.length<=A.free/\okA (z0b A n bs).2 /\
  (z0b A n bs).2.room=A.room/\used (z0b A n bs).2.fs=used A.fs+bs.length /\
  ∀ m,z0r (z0b A n bs).2.fs m=if m=n then some (((z0r A.fs n).map Prod.fst).getD []++bs,((z0r A.fs n).map Prod.snd).getD 0) else z0r A.fs m:=by
 unfold z0b at h ⊢;split at h
 ·cases h
 rename_i h1
 split at h
 ·cases h
 rename_i h2
 split at h
 ·cases h
 rename_i h3
 rw [if_neg h1,if_neg h2,if_neg h3]
 have hn:z3u n=true:=by simpa using h2
 have h4:=zj2 hok hn (bs:=bs) (by omega) (λhh=>h3 (.inr hh));refine ⟨by simpa using h1,hn,by omega,zhx h4,by rw [zih],?_,λm=>?_⟩
 ·rw [z93];show used (if z2b A.fs n=true then _ else _)=_;have hnd:=z3q hok.sorted;split
  ·rename_i hh
   obtain ⟨f,hf,rfl⟩:=z6t.1 hh;obtain ⟨s,u,hsu⟩:=List.append_of_mem hf
   have hp:A.fs.Perm (f::(s++u)):=by rw [hsu];exact List.perm_middle
   have hne:∀ g ∈ s++u,g.name≠f.name:=λg hg e=>by
    have h5:=(hp.map (·.name)).nodup_iff.1 hnd;rw [List.map_cons,List.nodup_cons] at h5;exact h5.1 (List.mem_map.2 ⟨g,hg,e⟩)
   rw [ze5 hp hne,z4d hp,z2a,List.length_append];omega
  ·rw [z4d (z6y _ _),z2a];show bs.length+_=_;omega
 ·rw [z93];show z0r (if z2b A.fs n=true then _ else _) m=_;split
  ·rename_i hh
   rw [zli n (λf=>{ f with b:=f.b++bs }) (λf=>rfl)]
   by_cases hm:m=n
   ·rw [if_pos hm,if_pos hm];rw [z7e] at hh;obtain ⟨p,hp⟩:=Option.isSome_iff_exists.1 hh;rw [hp];rfl
   ·rw [if_neg hm,if_neg hm]
  ·rename_i hh
   have hh:z2b A.fs n=false:=by simpa using hh
   rw [zlh _ _ (z6u.1 hh)]
   by_cases hm:m=n
   ·rw [if_pos hm,if_pos hm,z8p.2 (z6u.1 hh)];rfl
   ·rw [if_neg hm,if_neg hm]
theorem zgj {A:DiskA} {n:ByteArray} {bs:List UInt8} (hg:A.gone=false) (hn:z3u n=true) (hb:bs.length<=A.free) (hf:z0r A.fs n≠none\/A.fs.length<128):(z0b A n bs).1=0:=by
 unfold z0b;rw [if_neg (by rw [hg];simp),if_neg (by rw [hn];simp),if_neg];rintro (h|⟨h1,h2⟩)
 ·omega
 ·rcases hf with hf|hf
  ·rw [z7e] at h1
   cases hq:z0r A.fs n with
   | none=>exact hf hq
   | some q=>rw [hq] at h1;cases h1
  ·omega
theorem zgi {A:DiskA} {n:ByteArray} {bs:List UInt8} (hn:z3u n=true):(z0b A n bs).1=0\/((z0b A n bs).1=9/\A.gone=true)\/((z0b A n bs).1=5/\A.gone=false):=by
 unfold z0b;split
 ·exact .inr (.inl ⟨rfl,by assumption⟩)
 ·rename_i h
  rw [if_neg (by rw [hn];simp)];split
  ·exact .inr (.inr ⟨rfl,by simpa using h⟩)
  ·exact .inl rfl
theorem zi3 {A:DiskA} {n:ByteArray}:((z29 A [n]).1=0/\A.gone=false/\(z0r A.fs n).isSome=true/\(z29 A [n]).2=z3e { A with fs:=A.fs.map (z4n [n]) })\/((z29 A [n]).1=9/\A.gone=true/\(z29 A [n]).2=A)\/((z29 A [n]).1=3/\A.gone=false/\z0r A.fs n=none/\(z29 A [n]).2=A):=by
 unfold z29;split
 ·exact .inr (.inl ⟨rfl,by assumption,rfl⟩)
 ·rename_i h
  have hg:A.gone=false:=by simpa using h
  split
  ·rename_i h2
   refine .inr (.inr ⟨rfl,hg,?_,rfl⟩);simp only [List.all_cons,List.all_nil,Bool.and_true] at h2;rw [z7e] at h2
   cases hq:z0r A.fs n with
   | none=>rfl
   | some q=>rw [hq] at h2;cases h2
  ·rename_i h2
   refine .inl ⟨rfl,hg,?_,rfl⟩;simp only [List.all_cons,List.all_nil,Bool.and_true] at h2;rw [z7e] at h2
   cases hq:z0r A.fs n with
   | none=>rw [hq] at h2;exact absurd rfl h2
   | some q=>rfl
theorem z04h {A:DiskA} (hok:okA A) (ns:List ByteArray):okA { A with fs:=A.fs.map (z4n ns) } :=
 zuk hok (λf=>by unfold z4n;split <;> rfl) (λf=>by unfold z4n;split <;> rfl) (λf h=>by unfold z4n;split;exact Nat.le_refl _;exact h)
theorem z001 (n m:ByteArray):zd8 [n] m=decide (n=m):=by
 unfold zd8;simp
theorem z0bc {A:DiskA} {n:ByteArray} (hok:okA A) (h:(z29 A [n]).1=0):A.gone=false/\okA (z29 A [n]).2/\(z29 A [n]).2.room=A.room/\used (z29 A [n]).2.fs=used A.fs/\(z29 A [n]).2.fs.length=A.fs.length /\
  ∀ m,z0r (z29 A [n]).2.fs m=(z0r A.fs m).map λp=>if n=m then (p.1,p.1.length) else p:=by
 rcases zi3 (A:=A) (n:=n) with ⟨h1,h2,h3,h4⟩|⟨h1,-,-⟩|⟨h1,-,-,-⟩
 ·rw [h4];refine ⟨h2,zhx (z04h hok _),by rw [zih],?_,?_,λm=>?_⟩
  ·rw [z93]
   exact ze4 λf=>by unfold z4n;split <;> rfl
  ·rw [z93];exact List.length_map ..
  ·rw [z93];show z0r (A.fs.map (z4n [n])) m=_;rw [zil]
   congr 1
   funext p;rw [z001]
   by_cases hm:n=m <;> simp [hm]
 ·rw [h1] at h;cases h
 ·rw [h1] at h;cases h
def z5e (e:EntA):List Value:=[.int .i64 e.offset,.int .i64 e.place,.int .i64 e.before]
instance:EncA z5e [.int .i64,.int .i64,.int .i64] (λe=>(e.offset,e.place,e.before,())):=⟨λ_=>rfl⟩
instance:EncN z5e 3:=⟨λ_=>rfl,by decide,by simp [z5e,Value.oneCell']⟩
instance:EncF z5e 0 (.int .i64) (λe=>e.offset):=⟨λ_=>rfl⟩
instance:EncF z5e 1 (.int .i64) (λe=>e.place):=⟨λ_=>rfl⟩
structure okX (X:IdxA):Prop where
 gap:1<=X.gap/\X.gap<=4194304
 place : -1<=X.place/\X.place<=4194304
 ent:∀ e ∈ X.l,0<=e.place/\e.place<=X.place
 len:(X.l.length:Int)<=X.place+1
def z2s (b:Nat) (X:IdxA):HP:=HP.ex λz:Sl=>HP.and (okX X) (HP.star (pt b (.cells #[.int .i64 X.offset,.int .i64 X.place,.int .i64 X.late,.int .i64 X.gap,.slice z.a z.len z.cap] T.a11)) (slc T.a10 3 z (X.l.flatMap z5e)))
section
variable {w:World} {l r:List HP} {b:Nat} {X:IdxA}
theorem zhm (hs:Sat w (z2s b X::l)):∃ z:Sl,okX X/\Sat w (pt b (.cells #[.int .i64 X.offset,.int .i64 X.place,.int .i64 X.late,.int .i64 X.gap,.slice z.a z.len z.cap] T.a11)::slc T.a10 3 z (X.l.flatMap z5e)::l):=by
 obtain ⟨z,hs⟩:=hs.ex;obtain ⟨h,hs⟩:=hs.and;exact ⟨z,h,hs.star⟩
theorem z9t (X:IdxA) {z:Sl} (h:okX X) (hs:Sat w (pt b (.cells #[.int .i64 X.offset,.int .i64 X.place,.int .i64 X.late,.int .i64 X.gap,.slice z.a z.len z.cap] T.a11)::slc T.a10 3 z (X.l.flatMap z5e)::l)):Sat w (z2s b X::l) :=
 .ex_mk z (.and_mk h (.star_mk hs))
theorem z0gu {gap:Int} (h:1<=gap/\gap<=4194304):okX (zex gap):=⟨h,by show -1<=(-1:Int)/\(-1:Int)<=4194304;omega,(λ_ h=>by cases h),by show (0:Int) <= -1+1;omega⟩
theorem z0cl (gap:Int) (h:1<=gap/\gap<=4194304) (hs:Sat w l):Ret P F.a51 #[.int .i64 gap] w λvs w'=>∃ b,vs=[.pointer (some ⟨b,0,none⟩),.int .i64 0]/\Sat w' (z2s b (zex gap)::l) :=
 zyu gap <| by
  delta z0f0 Aa Ab Ac Ad Af Ag;refine z06 (zr hs λa w' hs=>?_);refine ⟨rfl,a,rfl,?_⟩;have h0:Sat w' (slc T.a10 3 ⟨none,0,0⟩ ((zex gap).l.flatMap z5e)::_):=hs.slc_nil;exact z9t (zex gap) (z:=⟨none,0,0⟩) (z0gu h) (h0.pick [1])
theorem z0ck (o p t:Int) (hs:Sat w l):Ret P F.a52 #[.int .i64 o,.int .i64 p,.int .i64 t] w λvs w'=>vs=[.bool (decide (zdp o p t))]/\Sat w' l :=
 zyv o p t <| by
  delta z0f1 Ab Aj;refine wp_lt ⟨rfl,?_,hs⟩
  congr 2
  rw [Bool.eq_iff_iff,decide_eq_true_iff (p:=zdp o p t)];unfold zdp;simp only [Bool.and_eq_true,decide_eq_true_eq];constructor
  ·rintro ⟨⟨⟨⟨⟨h1,h2⟩,h3⟩,h4⟩,h5⟩,h6⟩;exact ⟨⟨h1,h2⟩,⟨h3,h4⟩,h5,h6⟩
  ·rintro ⟨⟨h1,h2⟩,⟨h3,h4⟩,h5,h6⟩;exact ⟨⟨⟨⟨⟨h1,h2⟩,h3⟩,h4⟩,h5⟩,h6⟩
theorem z04k {X:IdxA} (h:okX X) {o p t:Int} (hm:zdp o p t) (h2:¬ (o<=X.offset\/p<=X.place)):okX ⟨o,p,max X.late t,X.gap,z54 X o p⟩:=by
 obtain ⟨h3,h4,h5,h6⟩:=h;obtain ⟨-,hp,-⟩:=hm;refine ⟨h3,by show -1<=p/\p<=4194304;omega,λe he=>?_,?_⟩
 ·show 0<=e.place/\e.place<=p;have he:e ∈ z54 X o p:=he;unfold z54 at he;split at he
  ·rcases List.mem_append.1 he with he|he
   ·have:=h5 e he;omega
   ·simp at he;subst he;simp only;omega
  ·have:=h5 e he;omega
 ·show ((z54 X o p).length:Int)<=p+1;unfold z54;split
  ·rw [List.length_append];simp only [List.length_cons,List.length_nil];omega
  ·omega
theorem z0cv (o p t:Int) (ho : -9223372036854775808<=o/\o<9223372036854775808) (hp : -9223372036854775808<=p/\p<9223372036854775808) [hf:Fo l z2s b X r] (hs:Sat w l) :
  Ret P F.a49 #[.pointer (some ⟨b,0,none⟩),.int .i64 o,.int .i64 p,.int .i64 t] w λvs w'=>vs=[.int .i64 (zc1 X o p t).1]/\Sat w' (z2s b (zc1 X o p t).2::r) :=
 zys _ o p t <| by
  delta z0ey AA AC AD AE AN AP AR AS AZ Aa Ab Ac Ah Ak Al Ao Av Az B9 BG Bc Bf;have hs:=hs.perm hf.perm;refine wp_lt (z06 ?_ (by simp));refine zb (z0ck o p t hs) λ_ w' hs=>?_;obtain ⟨rfl,hs⟩:=hs;refine zd (wp_lt ?_);unfold zc1;refine zi (λh=>?_) λh=>?_
  ·have h:¬ zdp o p t:=by simpa using h
   rw [if_pos h];exact ⟨rfl,rfl,hs⟩
  have h:zdp o p t:=by simpa using h
  rw [if_neg (λhh=>hh h)];obtain ⟨z,hok,hs⟩:=zhm hs;have hl:=hs.slen z (xs:=X.l) (enc:=z5e);refine zf (z8 hs ?_);refine z04 (z8 hs ?_);refine wp_lt (zi (λh2=>?_) λh2=>?_)
  ·rw [if_pos h2];exact ⟨rfl,rfl,z9t X hok hs⟩
  rw [if_neg h2];have hok2:=z04k hok h h2;have hlen:=hok.len;have hpl:=hok.place;refine zf (z8 hs ?_);refine wp_lt (zt hs λw' hs=>?_);refine z04 (z8 hs ?_)
  have hgl:∀ (h0:X.l≠[]),X.l.getLast? = some (X.l[X.l.length-1]'(by have:=List.length_pos_iff.2 h0;omega)):=λh0=>by
   have:=List.length_pos_iff.2 h0;rw [List.getLast?_eq_getElem?,List.getElem?_eq_getElem (by omega)]
  refine ze7 (xs:=X.l) (enc:=z5e) hs (match X.l.getLast? with|none=>0|some e=>e.place) (λhg=>?_) ?_
  ·have h0:X.l≠[]:=by
    rintro h0;rw [h0] at hl;rw [hl] at hg;cases hg
   have:=List.length_pos_iff.2 h0;refine ⟨X.l.length-1,by omega,?_,?_⟩
   ·rw [w64 (by omega) (by omega)];omega
   ·rw [hgl h0]
  refine z04 (z8 hs ?_);refine ze (zj (λ_ w'=>∃ z':Sl,Sat w' (pt b (.cells #[.int .i64 X.offset,.int .i64 X.place,.int .i64 X.late,.int .i64 X.gap,.slice z'.a z'.len z'.cap] T.a11)::slc T.a10 3 z' ((z54 X o p).flatMap z5e)::r)) ?_ ?_)
  ·have hnew:z04d X p=true↔(((z.len:Nat):Int)=0\/IntKind.wrap .i64 (p-match X.l.getLast? with|none=>0|some e=>e.place)>=X.gap):=by
    unfold z04d
    by_cases h0:X.l=[]
    ·rw [h0];simp only [List.getLast?_nil,true_iff];left;rw [hl,h0];rfl
    ·rw [hgl h0];have hlp:=List.length_pos_iff.2 h0;have hb:=hok.ent _ (List.getElem_mem (show X.l.length-1<X.l.length by omega));simp only [decide_eq_true_eq];rw [w64 (by omega) (by omega)];omega
   unfold z54;refine zi (λh3=>?_) λh3=>?_
   ·rw [if_pos (hnew.2 h3)];refine zj (λq w'=>∃ z':Sl,q=(z',())/\Sat w' (slc T.a10 3 z' ((X.l++[(⟨o,p,X.late⟩:EntA)]).flatMap z5e)::pt b (.cells #[.int .i64 X.offset,.int .i64 X.place,.int .i64 X.late,.int .i64 X.gap,.slice z.a z.len z.cap] T.a11)::r)) ?_ ?_
    ·refine zt hs λw' hs=>zf (z0y hs ?_);refine zf (z8 hs ?_)
     refine z7o hs (enc:=z5e) [(⟨o,p,X.late⟩:EntA)] λy w' hs=>⟨(by first|trivial|(repeat (first|exact trivial|exact λ_=>z09 hs|exact λ_=>z0g hs|refine And.intro ?_ ?_))),?_⟩
     refine ze (wp_app' (xs:=X.l) (ys:=[(⟨o,p,X.late⟩:EntA)]) (enc:=z5e) hs (λz' w' hs=>?_) (by simp only [List.length_cons,List.length_nil];omega));exact ze (zg ⟨z',rfl,hs.sub⟩)
    ·rintro _ w2 ⟨z',rfl,hs⟩;refine zf (zy hs λw' hs=>?_);exact zg ⟨z',hs.sub⟩
   ·rw [if_neg λhh=>h3 (hnew.1 hh)];exact zg ⟨z,hs⟩
  rintro _ w2 ⟨z',hs⟩;refine zf (z8 hs ?_);refine zf ?_
  have e:(if t>X.late then t else X.late)=max X.late t:=by split <;> omega
  rw [e];have hA:(Addr.add ⟨b,0,none⟩ 0)=⟨b,0,none⟩:=rfl;rw [hA]
  refine z0dv hs (by rfl) (by rfl) (by simp [Value.oneCell']) λw' hs=>⟨trivial,?_⟩
  refine ⟨rfl,rfl,?_⟩;exact z9t ⟨o,p,max X.late t,X.gap,z54 X o p⟩ (z:=z') hok2 hs
theorem z09r (i:Int) (hi:i<X.l.length) [hf:Fo l z2s b X r] (hs:Sat w l) :
  Ret P F.a50 #[.pointer (some ⟨b,0,none⟩),.int .i64 i] w λvs w'=>vs=[.agg (z5e (if i<0 then ⟨0,0,0⟩ else X.l.getD i.toNat ⟨0,0,0⟩)).toArray,.bool (decide (0<=i))]/\Sat w' (z2s b X::r) :=
 zyt _ i <| by
  delta z0ez AH AK AN Aa Ab Ak Ao B9 BE;have hs:=hs.perm hf.perm;refine zu hs λa w' hs=>zi (λh=>?_) λh=>?_
  ·refine zv hs λw' hs=>zl hs ?_;rw [if_pos h];refine ⟨rfl,?_,hs.tail⟩;rw [decide_eq_false (by omega)];rfl
  ·refine zf ?_;obtain ⟨z,hok,hs⟩:=zhm (hs.pick [1]);refine z8 hs (z5b hs (xs:=X.l) (enc:=z5e) i.toNat (by omega) ?_);refine zv hs λw' hs=>zl hs ?_;rw [if_neg h];refine ⟨rfl,?_,z9t X (z:=z) hok hs.sub⟩;rw [decide_eq_true (by omega),List.getD_eq_getElem?_getD,List.getElem?_eq_getElem (by omega)];rfl
theorem zi1 (n : Nat) (hn : n < 4611686018427387904) (f : FuncId) (cap : Array Value) (p : Nat → Bool) (hok : (P.funcs[f]?).any (fun fn => fn.body.isSome && fn.name != "runtime.NumGoroutine") = true)
  (hp:∀ (i:Nat) (w:World),i<n->Sat w l->Ret P f (#[.int .i64 (i:Int)]++cap) w λvs w'=>vs=[.bool (p i)]/\Sat w' l) (hs:Sat w l) :
  Ret P F.a177 #[.int .i64 (n:Int),.func (.func f) #[] cap] w λvs w'=>∃ i:Nat,i<=n/\(0<i->p (i-1)=false)/\(i<n->p i=true)/\vs=[.int .i64 (i:Int)]/\Sat w' l :=
 zs7 _ _ <| by
  delta z084 AU AV Aa Ab Ac Al Av Aw Ay;refine wp_lt (zj (λq w'=>∃ i:Nat,i<=n/\(0<i->p (i-1)=false)/\(i<n->p i=true)/\q=((i:Int),())/\Sat w' l) ?_ ?_);rotate_left
  ·rintro _ w' ⟨i,h1,h2,h3,rfl,hs⟩;exact wp_lt ⟨rfl,i,h1,h2,h3,rfl,hs⟩
  refine z0a (λm v w=>∃ i j:Nat,v=((i:Int),((j:Int),()))/\i<=j/\j<=n/\j-i=m/\(0<i->p (i-1)=false)/\(j<n->p j=true)/\Sat w l) n ⟨0,n,rfl,by omega,by omega,rfl,(λh=>by omega),(λh=>by omega),hs⟩ ?_;clear hs;rintro m _ w ⟨i,j,rfl,hij,hjn,hm,h1,h2,hs⟩;refine zh (zi (λhc=>?_) λhc=>?_);rotate_left
  ·have:i=j:=by omega
   subst this;exact zm (zg ⟨i,hjn,h1,h2,rfl,hs⟩)
  have hc:i<j:=by omega
  have e:IntKind.wrap .i64 (Int.fdiv (IntKind.wrap .u64 (IntKind.wrap .i64 ((i:Int)+j))) 2)=(((i+j) / 2:Nat):Int):=by
   rw [w64 (x:=(i:Int)+j) (by omega) (by omega),zl0 (by omega) (by omega)]
   have:Int.fdiv ((i:Int)+j) 2=(((i+j) / 2:Nat):Int):=by
    rw [Int.fdiv_eq_ediv_of_nonneg _ (by omega)];omega
   rw [this,w64 (by omega) (by omega)]
  refine z27 (y:=(((i+j) / 2:Nat):Int)) ?_ e
  refine z02j hok (p ((i+j) / 2),()) (hp ((i+j) / 2) w (by omega) hs) rfl λw' hs=>⟨trivial,?_⟩
  refine zh (z3j ?_);refine zi (λh3=>?_) λh3=>?_
  ·have h3:p ((i+j) / 2)=false:=by simpa using h3
   refine z27 (y:=(((i+j) / 2+1:Nat):Int)) ?_ (by rw [w64 (by omega) (by omega)];omega);refine z5a (z0x (j-((i+j) / 2+1)) ⟨(i+j) / 2+1,j,rfl,by omega,hjn,rfl,λ_=>by rw [Nat.add_sub_cancel];exact h3,h2,hs⟩)
  ·have h3:p ((i+j) / 2)=true:=by simpa using h3
   refine wp_lt (z5a ?_);refine z0x ((i+j) / 2-i) ⟨i,(i+j) / 2,rfl,by omega,by omega,rfl,h1,λ_=>h3,hs⟩
theorem z09v (i:Nat) (a0 a1:Nat) (o:Int) {r1 r2:List HP} {z:Sl} (hi:i<X.l.length) [h0:FocB l a0 (.cells [.pointer (some ⟨b,0,none⟩)].toArray T.a31) r1] [h1:FocB l a1 (.cells [.int .i64 o].toArray T.a14) r2]
  [h2:FocB l b (.cells [.int .i64 X.offset,.int .i64 X.place,.int .i64 X.late,.int .i64 X.gap,.slice z.a z.len z.cap].toArray T.a11) r] [h3:FocR l z 3 (X.l.flatMap z5e)] (hs:Sat w l) :
  Ret P F.a48 #[.int .i64 (i:Int),.pointer (some ⟨a0,0,none⟩),.pointer (some ⟨a1,0,none⟩)] w λvs w'=>vs=[.bool (decide (X.l[i].offset>o))]/\Sat w' l :=
 zyr _ _ _ <| by
  delta z0ex AC AE AN AR Ab Aj Ak Ao B6 B7;refine zt hs λw' hs=>z8 hs (zf ?_);refine z8 hs (z02l hs (xs:=X.l) (enc:=z5e) i hi ?_);refine z8 hs (wp_lt ?_);exact ze ⟨rfl,rfl,hs⟩
def orE (o:Option EntA):EntA:=o.getD ⟨0,0,0⟩
theorem z00f {l:List EntA} {i:Nat} (hi:i<=l.length):(if ((i:Int)-1)<0 then (⟨0,0,0⟩:EntA) else l.getD ((i:Int)-1).toNat ⟨0,0,0⟩)=orE (l.take i).getLast? /\ decide (0<=(i:Int)-1)=(l.take i).getLast?.isSome:=by
 rw [z02a hi]
 by_cases h:i=0
 ·subst h;exact ⟨rfl,rfl⟩
 ·rw [if_neg h,if_neg (by omega),List.getD_eq_getElem?_getD,show ((i:Int)-1).toNat=i-1 by omega,List.getElem?_eq_getElem (by omega)];exact ⟨rfl,decide_eq_true (by omega)⟩
theorem z0c9 (o:Int) (hm:X.l.Pairwise λa b=>a.offset<b.offset) [hf:Fo l z2s b X r] (hs:Sat w l) :
  Ret P F.a47 #[.pointer (some ⟨b,0,none⟩),.int .i64 o] w λvs w'=>vs=[.agg (z5e (orE (z3l X.l o))).toArray,.bool (z3l X.l o).isSome]/\Sat w' (z2s b X::r) :=
 zyq _ o <| by
  delta z0ew AB AC AE AH AK AN Aa Ab Ac Ad Af Ag Aj Ak Am Ao Av B9 BE Bt
  have hs:=hs.perm hf.perm
  refine zr hs λa0 w' hs=>?_
  refine zr hs λa1 w' hs=>?_
  refine zu hs λa2 w' hs=>?_
  refine z8 hs ?_
  refine z06 ?_ (by simp)
  refine zj (λq w'=>q=((z3l X.l o).isSome,())/\Sat w' (pt a2 (.cells [.int .i64 (orE (z3l X.l o)).offset,.int .i64 (orE (z3l X.l o)).place,.int .i64 (orE (z3l X.l o)).before].toArray T.a10)::z2s b X::r)) ?_ ?_
  rotate_left
  ·rintro _ w2 ⟨rfl,hs⟩
   refine zl hs ?_
   exact ⟨rfl,rfl,hs.tail⟩
  obtain ⟨z,hok,hs⟩:=zhm (hs.pick [3])
  have hl:=hs.slen z (xs:=X.l) (enc:=z5e)
  have hlen:=hok.len
  have hpl:=hok.place
  refine zt hs λw' hs=>?_
  refine z0y hs ?_
  refine z8 hs ?_
  refine zf ?_
  refine z8 hs ?_
  rw [hl]
  refine zb (zi1 X.l.length (by omega) F.a48 #[.pointer (some ⟨a0,0,none⟩),.pointer (some ⟨a1,0,none⟩)] (λi=>decide ((X.l.getD i ⟨0,0,0⟩).offset>o)) (by kernel_rfl) (λi w hi hs=>?_) hs) λ_ w' hs=>?_
  ·have e:X.l.getD i ⟨0,0,0⟩=X.l[i]:=by rw [List.getD_eq_getElem?_getD,List.getElem?_eq_getElem hi];rfl
   simp only [e]
   exact z09v (X:=X) i a0 a1 o hi hs
  obtain ⟨i,hi,h1,h2,rfl,hs⟩:=hs
  refine zd ?_ (by first|trivial|(repeat (first|exact trivial|exact λ_=>z09 hs|exact λ_=>z0g hs|refine And.intro ?_ ?_)))
  refine ze ?_
  rw [w64 (by omega) (by omega)]
  replace hs:Sat _ (z2s b X::pt a2 (.cells [.int .i64 0,.int .i64 0,.int .i64 0].toArray T.a10)::pt a0 (.cells [.pointer (some ⟨b,0,none⟩)].toArray T.a31)::r):=z9t X (z:=z) hok hs.sub
  refine zb (z09r (b:=b) ((i:Int)-1) (by omega) hs) λ_ w' hs=>?_
  obtain ⟨rfl,hs⟩:=hs
  have hcut:z3l X.l o=(X.l.take i).getLast? := by
   unfold z3l
   rw [zjd hi (hm.imp λ{a b} hab=>by simp only [decide_eq_true_eq];omega)]
   ·intro h h0
    have:=h1 h0
    rw [List.getD_eq_getElem?_getD,List.getElem?_eq_getElem h] at this
    have:decide (X.l[i-1].offset>o)=false:=this
    simpa using this
   ·intro h
    have:=h2 h
    rw [List.getD_eq_getElem?_getD,List.getElem?_eq_getElem h] at this
    have:decide (X.l[i].offset>o)=true:=this
    simpa using this
  obtain ⟨c1_,c2_⟩:=z00f (l:=X.l) hi
  rw [c1_,c2_,<- hcut]
  refine ⟨((orE (z3l X.l o)).offset,(orE (z3l X.l o)).place,(orE (z3l X.l o)).before,(z3l X.l o).isSome,()),rfl,(by first|trivial|(repeat (first|exact trivial|exact λ_=>z09 hs|exact λ_=>z0g hs|refine And.intro ?_ ?_))),zne _ _ _ _ ?_⟩
  refine zv hs λw' hs=>?_
  refine wp_lt ?_
  refine ze ?_
  exact zg ⟨rfl,hs.sub⟩
end
structure SegM where
 ix:Nat
 s:SegA
structure LogM where
 d:Nat
 pre:ByteArray
 seg:Int
 gap:Int
 z:Sl
 SM:List (Nat × SegM)
structure LogA where
 d:Nat
 pre:ByteArray
 seg:Int
 gap:Int
 l:List SegA
def LogM.l (M:LogM):List SegA:=M.SM.map λt=>t.2.s
def LogM.A (M:LogM):LogA:=⟨M.d,M.pre,M.seg,M.gap,M.l⟩
def z1v (b:Nat):List Value:=[.pointer (some ⟨b,0,none⟩)]
instance:Enc1 z1v .ptr (λb=>some ⟨b,0,none⟩):=⟨λ_=>rfl⟩
instance:EncN z1v 1:=⟨λ_=>rfl,by decide,by simp [z1v,Value.oneCell']⟩
def z0t (gap:Int) (a:Nat) (t:SegM):HP:=HP.star (pt a (.cells #[.pointer (some ⟨t.ix,0,none⟩),.int .i64 t.s.base,.int .i64 t.s.fin,.int .i64 (z0s t.s.bs),.int .i64 (z1o (-1) t.s.bs),.int .i64 (t.s.file.length:Nat)] T.a56)) (z2s t.ix (t.s.idx gap))
structure okM (gap seg:Int) (pre:ByteArray):Prop where
 gap:1<=gap/\gap<=4194304
 seg:64<=seg/\seg<=4194304
 pre:z2n pre=true
def lgQ (lg:Nat) (M:LogM):HP:=HP.and (okM M.gap M.seg M.pre) (HP.star (pt lg (.cells #[.pointer (some ⟨M.d,0,none⟩),.string M.pre,.int .i64 M.seg,.int .i64 M.gap,.slice M.z.a M.z.len M.z.cap] T.a55))
 (HP.star (slc T.a36 1 M.z ((M.SM.map Prod.fst).flatMap z1v)) (HP.all (M.SM.map λt=>z0t M.gap t.1 t.2))))
def lgP (lg:Nat) (A:LogA):HP:=HP.ex λM:LogM=>HP.and (M.A=A) (lgQ lg M)
def z050:Option Nat->Option Addr
 | none=>none
 | some b=>some ⟨b,0,none⟩
section
variable {w:World} {l r:List HP} {lg:Nat} {M:LogM} {A:LogA} {gap:Int} {a:Nat} {t:SegM}
theorem z4i (hs:Sat w (z0t gap a t::l)):Sat w (pt a (.cells #[.pointer (some ⟨t.ix,0,none⟩),.int .i64 t.s.base,.int .i64 t.s.fin,.int .i64 (z0s t.s.bs),.int .i64 (z1o (-1) t.s.bs),.int .i64 (t.s.file.length:Nat)] T.a56)::z2s t.ix (t.s.idx gap)::l):=hs.star
theorem z30 (t:SegM) (hs:Sat w (pt a (.cells #[.pointer (some ⟨t.ix,0,none⟩),.int .i64 t.s.base,.int .i64 t.s.fin,.int .i64 (z0s t.s.bs),.int .i64 (z1o (-1) t.s.bs),.int .i64 (t.s.file.length:Nat)] T.a56)::z2s t.ix (t.s.idx gap)::l)):Sat w (z0t gap a t::l):=.star_mk hs
theorem z35 (hs:Sat w (lgQ lg M::l)):okM M.gap M.seg M.pre/\Sat w (pt lg (.cells #[.pointer (some ⟨M.d,0,none⟩),.string M.pre,.int .i64 M.seg,.int .i64 M.gap,.slice M.z.a M.z.len M.z.cap] T.a55)::slc T.a36 1 M.z ((M.SM.map Prod.fst).flatMap z1v)::HP.all (M.SM.map λt=>z0t M.gap t.1 t.2)::l):=by
 obtain ⟨h,hs⟩:=hs.and;have hs:=hs.star;exact ⟨h,((hs.pick [1]).star).pick [2]⟩
theorem z1t (M:LogM) (h:okM M.gap M.seg M.pre) (hs:Sat w (pt lg (.cells #[.pointer (some ⟨M.d,0,none⟩),.string M.pre,.int .i64 M.seg,.int .i64 M.gap,.slice M.z.a M.z.len M.z.cap] T.a55)::slc T.a36 1 M.z ((M.SM.map Prod.fst).flatMap z1v)::HP.all (M.SM.map λt=>z0t M.gap t.1 t.2)::l)):Sat w (lgQ lg M::l):=by
 refine .and_mk h (.star_mk ?_);exact ((hs.pick [1,1]).star_mk).pick [1]
theorem z97 (hs:Sat w (lgP lg A::l)):∃ M:LogM,M.A=A/\Sat w (lgQ lg M::l):=by
 obtain ⟨M,hs⟩:=hs.ex;obtain ⟨h,hs⟩:=hs.and;exact ⟨M,h,hs⟩
theorem z50 (M:LogM) (hs:Sat w (lgQ lg M::l)):Sat w (lgP lg M.A::l):=.ex_mk M (.and_mk rfl hs)
theorem zls:∀ (j n:Nat),z33 (j+1) n=z5y (n / 16 ^ j % 16)::z33 j n
 | 0,n=>by simp [z33]
 | j+1,n=>by
  show z33 (j+1) (n / 16)++[z5y (n % 16)]=_;rw [zls j (n / 16)]
  have e:n / 16 / 16 ^ j=n / 16 ^ (j+1):=by rw [Nat.div_div_eq_div_mul,Nat.pow_succ,Nat.mul_comm]
  rw [e];rfl
theorem z0b7 (k:Nat) (c:UInt8):∀ (xs:List UInt8),(List.replicate (k+1) (0:UInt8)++xs).set k c=List.replicate k 0++c::xs:=by
 induction k with
 | zero=>intro xs;rfl
 | succ k ih=>intro xs;rw [List.replicate_succ,List.cons_append,List.set_cons_succ,ih,List.replicate_succ,List.cons_append]
theorem z0g5 (n:Nat) (h:n<18446744073709551616):BitVec.toNat (BitVec.ofInt 64 (n:Int) &&& BitVec.ofInt 64 15)=n % 16:=by
 rw [BitVec.ofInt_natCast,BitVec.toNat_and,BitVec.toNat_ofNat,Nat.mod_eq_of_lt h];show n &&& 15=n % 16;exact Nat.and_two_pow_sub_one_eq_mod n 4
theorem z0bx {k:Nat} (h:k<16):bt (ByteArray.mk #[48,49,50,51,52,53,54,55,56,57,97,98,99,100,101,102]) (k:Int)=(((z5y k).toNat:Nat):Int):=by
 have:∀ k:Fin 16,bt (ByteArray.mk #[48,49,50,51,52,53,54,55,56,57,97,98,99,100,101,102]) (k.val:Int)=(((z5y k.val).toNat:Nat):Int):=by decide +kernel
 exact this ⟨k,h⟩
theorem z0du {P:Program} {t el:TypeId} {bytes:Nat} {Q:Post} {S:World->Prop} {k:Sl->Prog} [ht:SlT P t el 1 bytes] [hz:Zer P el (.int .u8 0)] (n:Nat) (hs:Sat w l) (h:∀ x w',Sat w' (slc el 1 x ((List.replicate n (0:UInt8)).flatMap zk)::l)->(k x).wp P S w' Q) (hb:n*bytes<=281474976710656/\n<=9223372036854775807) (hS:∀ w',S w':=by exact λ_=>trivial) :
  (Prog.act (Instr.makeSlice t (.int .i64 (n:Int)) (.int .i64 (n:Int))) sL (u1 k)).wp P S w Q:=by
 obtain ⟨i,z,hi,h2,h3,h4,h5⟩:=ht.parts
 have hz':z=.int .u8 0:=by
  have:=hz.ok;unfold zbq at this;rw [hi] at this;simp only at this;rw [h4] at this;exact Option.some.inj this
 have hrun:=run_make (P:=P) w t el i z ht.ok.1 hi h4 .i64 .i64 n n (by omega) (Int.le_refl _) (by rw [h3,<- Int.natCast_mul,Nat.mul_comm];omega) (by omega);simp only [Int.toNat_natCast] at hrun;have hp:=hs.push (o:=.cells (madeCells z.cells (n*i.size)) el) (w':=w.alloc (.cells (madeCells z.cells (n*i.size)) el)) rfl;refine ⟨(⟨some ⟨w.heap.size,0,none⟩,n,n⟩,()),_,hrun,hS _,h ⟨some ⟨w.heap.size,0,none⟩,n,n⟩ _ ?_⟩;refine hp.imp λp hp=>.inr ⟨w.heap.size,0,_,_,rfl,hp,by rw [z3z,List.length_replicate],Nat.le_refl _,by rw [size_madeCells,h2];simp,λj hj=>?_,z2g _ _⟩;rw [z3z,List.length_replicate,Nat.mul_one] at hj;rw [h2,Nat.mul_one,Nat.zero_add,zby,hz']
 have e1:(madeCells (Value.int .u8 0).cells n)[j]? = some (.int .u8 0):=by
  rw [Array.getElem?_eq_getElem (by rw [size_madeCells];exact hj)];simp [madeCells,Value.cells,Nat.mod_one]
 rw [e1,List.getElem?_map,List.getElem?_replicate,if_pos hj];rfl
theorem z99 (base:Int) (h:0<=base/\base<17592186044416) (x:ByteArray) (hx:x.size<=100) {d_:Value} {seg gp:Value} {zz:Value} (pre:ByteArray) (hp:pre.size<=100) [hf:FocB l lg (.cells [d_,.string pre,seg,gp,zz].toArray T.a55) r] (hs:Sat w l) :
  Ret P F.a119 #[.pointer (some ⟨lg,0,none⟩),.int .i64 base,.string x] w λvs w'=>vs=[.string (zx pre base (bl x))]/\Sat w' l :=
 zr9 _ base x <| by
  delta z078 AC AE AS AU Aa Ab Ac Ak Al Ao Av Az B3 Bc Bd Be;refine z0du 11 hs (λz w' hs=>?_) (by omega);refine zj (λ_ w'=>Sat w' (slc T.a63 1 z ((z33 11 base.toNat).flatMap zk)::l)) ?_ ?_
  ·refine z0a (λm v w=>∃ j:Nat,v=(((base.toNat / 16 ^ j:Nat):Int),((10-(j:Int)),()))/\j<=11/\11-j=m/\Sat w (slc T.a63 1 z ((List.replicate (11-j) 0++z33 j base.toNat).flatMap zk)::l)) 11 ⟨0,by rw [Nat.pow_zero,Nat.div_one,Int.toNat_of_nonneg h.1];rfl,by omega,rfl,by simpa [z33] using hs⟩ ?_;clear hs;rintro m _ w ⟨j,rfl,hj,hm,hs⟩;refine zh (zi (λhc=>?_) λhc=>?_);rotate_left
   ·have:j=11:=by omega
    subst this;exact zm (zg (by simpa using hs))
   have hj2:j<=10:=by omega
   have hb:base.toNat / 16 ^ j<18446744073709551616:=by
    have:=Nat.div_le_self base.toNat (16 ^ j);omega
   have hmod:=Nat.mod_lt (base.toNat / 16 ^ j) (show 0<16 by omega);rw [z0g5 _ hb,w64 (by omega) (by omega)];refine wp_must (by omega) ?_;rw [z0bx hmod];refine zq3 hs (xs:=List.replicate (11-j) 0++z33 j base.toNat) (enc:=zk) (10-j) (by rw [List.length_append,List.length_replicate];omega) (z5y (base.toNat / 16 ^ j % 16)) λw' hs=>z27 (y:=((base.toNat / 16 ^ (j+1):Nat):Int)) ?_ ?_
   ·refine z27 (y:=10-((j+1:Nat):Int)) ?_ (by rw [w64 (by omega) (by omega)];omega);refine z0x (11-(j+1)) ⟨j+1,rfl,by omega,rfl,?_⟩;have e:=z0b7 (10-j) (z5y (base.toNat / 16 ^ j % 16)) (z33 j base.toNat);rw [show 10-j+1=11-j by omega] at e;rw [e,<- zls] at hs;rw [show 11-(j+1)=10-j by omega];exact hs
   ·rw [z94 _ (by omega)];show ((base.toNat / 16 ^ j / 16:Nat):Int)=_;rw [Nat.div_div_eq_div_mul,<- Nat.pow_succ]
  clear hs;rintro _ w hs;refine zh (zt hs λw' hs=>?_);refine zf (z8 hs ?_);refine wp_must (by omega) (zq5 (bs:=z33 11 base.toNat) hs ?_);have h11:=z6w 11 base.toNat;have s1:(pre++ByteArray.mk #[45]).size=pre.size+1:=ByteArray.size_append ..;have s2:(ByteArray.mk (z33 11 base.toNat).toArray).size=11:=h11;refine wp_must (by omega) ?_
  have s3:(pre++ByteArray.mk #[45]++ByteArray.mk (z33 11 base.toNat).toArray).size=pre.size+12:=by rw [ByteArray.size_append,s1,s2]
  refine wp_must (by omega) (wp_lt ?_);refine ze ⟨rfl,?_,hs.tail⟩
  congr 2
  apply zcl;rw [z6q];unfold bl;simp only [ByteArray.data_append,Array.toList_append,List.append_assoc];rfl
theorem z0gv {a d:Nat} (hd:d<16) (ha:a<576460752303423488):BitVec.toNat (BitVec.ofInt 64 ((a:Int)*16) ||| BitVec.ofInt 64 (d:Int))=16*a+d:=by
 have e:(a:Int)*16=((16*a:Nat):Int):=by omega
 rw [e,BitVec.ofInt_natCast,BitVec.ofInt_natCast,BitVec.toNat_or,BitVec.toNat_ofNat,BitVec.toNat_ofNat,Nat.mod_eq_of_lt (show 16*a<2 ^ 64 by omega),Nat.mod_eq_of_lt (show d<2 ^ 64 by omega)];exact (Nat.two_pow_add_eq_or_of_lt (i:=4) hd a).symm
theorem zk9:∀ {r:List UInt8} {x v k:Nat},z48 x r=some v->x<16 ^ k->v<16 ^ (k+r.length)
 | [],x,v,k,h,hx=>by simp [z48] at h;subst h;simpa using hx
 | c::r,x,v,k,h,hx=>by
  unfold z48 at h
  cases hd:z6v c with
  | none=>rw [hd] at h;cases h
  | some d =>
   rw [hd] at h;have hd:=(z0ch hd).2;have:=zk9 (k:=k+1) h (by rw [Nat.pow_succ];omega);rw [List.length_cons,show k+(r.length+1)=k+1+r.length by omega];exact this
theorem zdb (s:ByteArray) (i j:Nat):bl (s.extract i j)=((bl s).drop i).take (j-i):=by
 unfold bl;rw [ByteArray.data_extract,Array.toList_extract,List.extract_eq_take_drop]
theorem ztl (n x:ByteArray) (hn:n.size<=1000) (hx:x.size<=100) {d_:Value} {seg gp:Value} {zz:Value} (pre:ByteArray) (hp:pre.size<=100) [hf:FocB l lg (.cells [d_,.string pre,seg,gp,zz].toArray T.a55) r] (hs:Sat w l) :
  Ret P F.a114 #[.pointer (some ⟨lg,0,none⟩),.string n,.string x] w λvs w'=>vs=[.int .i64 (((z1m pre n (bl x)).getD 0:Nat):Int),.bool (z1m pre n (bl x)).isSome]/\Sat w' l :=
 zr4 _ n x <| by
  delta z073 AP AU Aa Ab Ac Aj Ak Al Ao Av Aw Bc Bd Bg Bh;refine zf (z8 hs ?_)
  have e1:IntKind.wrap .i64 (((ByteArray.size pre:Nat):Int)+1)=((pre.size+1:Nat):Int):=by rw [w64 (by omega) (by omega)];omega
  have e2:IntKind.wrap .i64 (((pre.size+1:Nat):Int)+11)=((pre.size+12:Nat):Int):=by rw [w64 (by omega) (by omega)];omega
  have e3:IntKind.wrap .i64 (((pre.size+12:Nat):Int)+((ByteArray.size x:Nat):Int))=((pre.size+12+x.size:Nat):Int):=by rw [w64 (by omega) (by omega)];omega
  rw [e1];refine wp_lt ?_;rw [e2,e3];refine wp_must ?_ ?_
  ·intro h
   have h:((n.size:Nat):Int)=((pre.size+12+x.size:Nat):Int):=by simpa using h
   omega
  have hb:z1m pre n (bl x)=if n.size=pre.size+12+x.size/\(bl n).drop (pre.size+12)=bl x then z48 0 (((bl n).drop (pre.size+1)).take 11) else none:=by
   unfold z1m;rw [z10,z10,z10]
  refine zi (λh=>?_) λh=>?_
  ·have:z1m pre n (bl x)=none:=by
    rw [hb,if_neg];rintro ⟨h1,h2⟩
    rcases h with h|h
    ·apply h;rw [h1]
    ·apply h;rw [Int.toNat_natCast];apply zcl;rw [zdb,h2,List.take_of_length_le];rw [z10];omega
   rw [this];exact ⟨rfl,rfl,hs⟩
  have h1:n.size=pre.size+12+x.size:=by
   have:¬ (((n.size:Nat):Int)≠((pre.size+12+x.size:Nat):Int)):=λhh=>h (.inl hh);omega
  have h2:(bl n).drop (pre.size+12)=bl x:=by
   have h3:ByteArray.extract n (pre.size+12) n.size=x:=by
    apply Decidable.byContradiction;intro hh;exact h (.inr (by rw [Int.toNat_natCast];exact hh))
   rw [<- h3,zdb,List.take_of_length_le];rw [List.length_drop,z10];omega
  rw [if_pos ⟨h1,h2⟩] at hb;refine wp_must (by omega) ?_;rw [Int.toNat_natCast,Int.toNat_natCast]
  have h4:(ByteArray.extract n (pre.size+1) (pre.size+12)).data.toList=((bl n).drop (pre.size+1)).take 11:=by
   have:=zdb n (pre.size+1) (pre.size+12);rw [show pre.size+12-(pre.size+1)=11 by omega] at this;exact this
  refine zjs hs λy w' hs=>?_;rw [h4] at hs;generalize hcs:((bl n).drop (pre.size+1)).take 11=cs at *
  have hcl:cs.length=11:=by rw [<- hcs,List.length_take,List.length_drop,z10];omega
  have hl:=hs.slen y (xs:=cs) (enc:=zk);rw [hb];refine zj (λq w'=>∃ v:Nat,z48 0 cs=some v/\q=((v:Int),())/\Sat w' l) ?_ ?_;rotate_left
  ·rintro _ w2 ⟨v,hv,rfl,hs⟩;refine wp_lt ?_;rw [hv];exact ⟨rfl,rfl,hs⟩
  refine z0a (λm q w=>∃ i v:Nat,q=((v:Int),((i:Int),()))/\i<=11/\11-i=m/\z48 0 (cs.take i)=some v/\Sat w (slc T.a63 1 y (cs.flatMap zk)::l)) 11 ⟨0,0,rfl,by omega,rfl,rfl,hs⟩ ?_;clear hs;rintro m _ w ⟨i,v,rfl,hi,hm,hv,hs⟩;refine zh (zi (λhc=>?_) λhc=>?_);rotate_left
  ·refine zm (zg ⟨v,?_,rfl,hs.tail⟩)
   rwa [List.take_of_length_le (by omega)] at hv
  have hil:i<cs.length:=by omega
  have hvl:=zk9 (k:=0) hv (by omega);rw [List.length_take] at hvl
  have hvl2:v<1152921504606846976 / 16:=by
   have h5:16 ^ (0+min i cs.length)<=16 ^ 10:=Nat.pow_le_pow_right (by omega) (by omega);omega
  have hstep:z48 0 (cs.take (i+1))=(z6v cs[i]).map λd=>16*v+d:=by
   rw [List.take_succ_eq_append_getElem hil,zhk,hv];show z48 v [cs[i]]=_;unfold z48;cases z6v cs[i] <;> rfl
  have hcut:∀ j,z48 0 (cs.take j)=none->z48 0 cs=none:=λj hj=>by
   rw [<- List.take_append_drop j cs,zhk,hj];rfl
  refine z1g hs (xs:=cs) (enc:=zk) i hil (wp_lt ?_);refine wp_lt ?_
  have hgo:∀ {w:World} (d:Nat),z6v cs[i]=some d->Sat w (slc T.a63 1 y (cs.flatMap zk)::l)->∃ i' v':Nat,((((16*v+d:Nat):Int),(((i+1:Nat):Int),())):Int × Int × Unit)=((v':Int),((i':Int),()))/\i'<=11/\11-i'=11-(i+1)/\z48 0 (cs.take i')=some v'/\Sat w (slc T.a63 1 y (cs.flatMap zk)::l):=λd hd hs =>
   ⟨i+1,16*v+d,rfl,by omega,rfl,by rw [hstep,hd];rfl,hs⟩
  have hcb:=(cs[i]).toNat_lt
  have ei:IntKind.wrap .i64 ((i:Int)+1)=((i+1:Nat):Int):=by rw [w64 (by omega) (by omega)];omega
  refine zj (λq w'=>∃ d:Nat,z6v cs[i]=some d/\q=(((16*v+d:Nat):Int),())/\Sat w' (slc T.a63 1 y (cs.flatMap zk)::l)) ?_ ?_;rotate_left
  ·rintro _ w2 ⟨d,hd,rfl,hs⟩;rw [ei];exact z0x (11-(i+1)) (hgo d hd hs)
  have hor:∀ d:Nat,d<16->IntKind.wrap .i64 (((BitVec.toNat (BitVec.ofInt 64 (IntKind.wrap .i64 ((v:Int)*16)) ||| BitVec.ofInt 64 (d:Int)):Nat):Int))=((16*v+d:Nat):Int):=λd hd=>by
   rw [w64 (x:=(v:Int)*16) (by omega) (by omega),z0gv hd (by omega),w64 (by omega) (by omega)]
  refine zi (λh5=>?_) λh5=>?_
  ·have hd:z6v cs[i]=some ((cs[i]).toNat-48):=by unfold z6v;rw [if_pos (by omega)]
   have e5:IntKind.wrap .i64 (IntKind.wrap .u8 ((((cs[i]).toNat:Nat):Int)-48))=(((cs[i]).toNat-48:Nat):Int):=by
    rw [wu8 (by omega) (by omega),w64 (by omega) (by omega)];omega
   rw [e5];refine z27 (y:=((16*v+((cs[i]).toNat-48):Nat):Int)) ?_ (hor _ (by omega));exact zg ⟨_,hd,rfl,hs⟩
  refine wp_lt (zi (λh6=>?_) λh6=>?_)
  ·have hd:z6v cs[i]=some ((cs[i]).toNat-87):=by unfold z6v;rw [if_neg (by omega),if_pos (by omega)]
   have e5:IntKind.wrap .i64 (IntKind.wrap .u8 (IntKind.wrap .u8 ((((cs[i]).toNat:Nat):Int)-97)+10))=(((cs[i]).toNat-87:Nat):Int):=by
    rw [wu8 (x:=(((cs[i]).toNat:Nat):Int)-97) (by omega) (by omega),wu8 (by omega) (by omega),w64 (by omega) (by omega)];omega
   rw [e5];refine z27 (y:=((16*v+((cs[i]).toNat-87):Nat):Int)) ?_ (hor _ (by omega));exact zg ⟨_,hd,rfl,hs⟩
  ·have hd:z6v cs[i]=none:=by unfold z6v;rw [if_neg (by omega),if_neg (by omega)]
   have hno:z48 0 cs=none:=hcut (i+1) (by rw [hstep,hd];rfl);rw [hno];exact zm (zm (zm ⟨rfl,rfl,hs.tail⟩))
theorem zoe (base fin:Int) (hb:0<=base/\base<9223372036854775808) (hf:0<=fin/\fin<9223372036854775808) (hs:Sat w l):Ret P F.a127 #[.int .i64 base,.int .i64 fin] w λvs w'=>∃ z:Sl,vs=[z.v]/\Sat w' (slc T.a63 1 z ((shL base fin).flatMap zk)::l) :=
 zrh base fin <| by
  delta z07g AO Ab Bc
  refine zat hs (enc:=zk) [(83:UInt8)] λz1 w' hs=>?_
  refine zb (z5o base hb hs) λ_ w' hs=>?_
  obtain ⟨z2,rfl,hs⟩:=hs
  refine zd ?_
  refine zb (z5o fin hf hs) λ_ w' hs=>?_
  obtain ⟨z3,rfl,hs⟩:=hs
  refine zd ?_
  refine zat hs (enc:=z0h) [z1,z2,z3] λz4 w' hs=>?_
  have u1_:=z1y base
  have u2_:=z1y fin
  have f1:FocR (slc T.a53 1 z4 ([z1,z2,z3].flatMap z0h)::slc T.a63 1 z3 ((uI fin).flatMap zk)::slc T.a63 1 z2 ((uI base).flatMap zk)::slc T.a63 1 z1 (([83]:List UInt8).flatMap zk)::l) z1 1 (([83]:List UInt8).flatMap zk):=inferInstance
  have f2:FocR (slc T.a53 1 z4 ([z1,z2,z3].flatMap z0h)::slc T.a63 1 z3 ((uI fin).flatMap zk)::slc T.a63 1 z2 ((uI base).flatMap zk)::slc T.a63 1 z1 (([83]:List UInt8).flatMap zk)::l) z2 1 ((uI base).flatMap zk):=inferInstance
  have f3:FocR (slc T.a53 1 z4 ([z1,z2,z3].flatMap z0h)::slc T.a63 1 z3 ((uI fin).flatMap zk)::slc T.a63 1 z2 ((uI base).flatMap zk)::slc T.a63 1 z1 (([83]:List UInt8).flatMap zk)::l) z3 1 ((uI fin).flatMap zk):=inferInstance
  refine zb (ztz z4 [(z1,[83]),(z2,uI base),(z3,uI fin)] (λp hp=>?_) (by show 3<=1000000;omega) hs) λ_ w' hs=>?_
  ·simp only [List.mem_cons,List.not_mem_nil,or_false] at hp
   rcases hp with rfl|rfl|rfl
   ·exact ⟨f1,by show (1:Nat)<=_;omega⟩
   ·exact ⟨f2,by show (uI base).length<=_;omega⟩
   ·exact ⟨f3,by show (uI fin).length<=_;omega⟩
  obtain ⟨z5,rfl,hs⟩:=hs
  refine zd ?_
  refine ⟨rfl,z5,rfl,?_⟩
  have e:([(z1,[83]),(z2,uI base),(z3,uI fin)]:List (Sl × List UInt8)).flatMap Prod.snd=shB base fin:=by simp [shB]
  rw [e] at hs
  have hs:Sat _ (slc T.a63 1 z5 ((shL base fin).flatMap zk)::_):=hs
  exact hs.sub
theorem z03k (x:Sl) (body:List UInt8) (base:Int) (hb:0<=base/\base<9223372036854775808) [hx:FocR l x 1 (body.flatMap zk)] (hn:body.length<=1000000000) (hs:Sat w l) :
  Ret P F.a128 #[x.v,.int .i64 base] w λvs w'=>∃ v:Int,vs=[.int .i64 v,.bool (z6j base body).isSome]/\(∀ f,z6j base body=some f->v=f)/\Sat w' l :=
 zri x base <| by
  delta z07h AY Aa Ab Ac Ad Aj Al Am Av B2 Bs;refine zb (zou x body hn hs) λ_ w' hs=>?_;obtain ⟨p,rfl,hs⟩:=hs;refine zd (zb (zjz (p:=p) hs) λ_ _ hs=>?_);obtain ⟨rfl,hs⟩:=hs;refine zd (zb (zg8 (p:=p) hs) λ_ _ hs=>?_);obtain ⟨rfl,hs⟩:=hs;refine zd (zb (zg8 (p:=p) hs) λ_ _ hs=>?_);obtain ⟨rfl,hs⟩:=hs;refine zd (wp_lt ?_);refine wp_lt (wp_lt ?_);refine zb (zo2 (p:=p) hs) λ_ w' hs=>?_;obtain ⟨e,rfl,he,hs⟩:=hs;refine zd ?_;have eh:z6j base body=if (z0n (z0n (z14 (some body)).2).2).2=some []/\(z14 (some body)).1=83/\((z0n (z14 (some body)).2).1:Int)=base/\base<=1099511627776/\(z0n (z0n (z14 (some body)).2).2).1<=1099511627776/\((z0n (z0n (z14 (some body)).2).2).1=0\/base<(z0n (z0n (z14 (some body)).2).2).1) then some ((z0n (z0n (z14 (some body)).2).2).1:Int) else none:=rfl;generalize z6j base body=HS at eh he ⊢;generalize z14 (some body)=k at eh he ⊢;generalize z0n k.2=m at eh he ⊢;generalize z0n m.2=q at eh he ⊢;have ew:IntKind.wrap .u64 base=base:=zl0 (by omega) (by omega);rw [ew];refine zi (λh=>?_) λh=>?_
  ·have:HS=none:=by
    rw [eh,if_neg];rintro ⟨h1,h2,h3,h4,h5,-⟩;have h6:=he.2 h1
    rcases h with (((h|h)|h)|h)|h
    ·exact h h6
    ·apply h;rw [h2];rfl
    ·exact h h3
    ·omega
    ·omega
   rw [this];exact ⟨rfl,0,rfl,(λf hf=>by cases hf),hs⟩
  have h1:q.2=some []:=he.1 (Decidable.byContradiction λhh=>h (.inl (.inl (.inl (.inl hh)))))
  have h2:k.1=83:=by
   have:((k.1:Nat):Int)=83:=Decidable.byContradiction λhh=>h (.inl (.inl (.inl (.inr hh))));omega
  have h3:((m.1:Nat):Int)=base:=Decidable.byContradiction λhh=>h (.inl (.inl (.inr hh)))
  have h4:base<=1099511627776:=by
   apply Decidable.byContradiction;intro hh;exact h (.inl (.inr (by omega)))
  have h5:q.1<=1099511627776:=by
   apply Decidable.byContradiction;intro hh;exact h (.inr (by omega))
  rw [w64 (by omega) (by omega)];refine wp_lt (wp_lt ?_);refine ⟨rfl,((q.1:Nat):Int),?_,?_,hs⟩
  ·congr 2
   rw [eh]
   by_cases h6:q.1=0\/base<q.1
   ·rw [if_pos ⟨h1,h2,h3,h4,h5,h6⟩]
    have:(((q.1:Nat):Int) == 0 || decide (((q.1:Nat):Int)>base))=true:=by
     rw [Bool.or_eq_true,beq_iff_eq,decide_eq_true_eq];omega
    rw [this];rfl
   ·rw [if_neg λhh=>h6 hh.2.2.2.2.2]
    have:(((q.1:Nat):Int) == 0 || decide (((q.1:Nat):Int)>base))=false:=by
     rw [Bool.or_eq_false_iff,beq_eq_false_iff_ne,decide_eq_false_iff_not];omega
    rw [this];rfl
  ·intro f hf;rw [eh] at hf;split at hf
   ·exact Option.some.inj hf
   ·cases hf
theorem zx9 (x:Int) (rs:List RecM) (i:Nat) (hi:i<rs.length):z6n x (rs.take (i+1))=max (z6n x (rs.take i)) rs[i].time:=by
 rw [List.take_succ_eq_append_getElem hi];unfold z6n;rw [List.foldl_append];rfl
theorem z041 (b:BatM) [hb:FocR l b.x 4 (b.rs.flatMap z0f)] (hlen:b.rs.length<=1000000000) (hs:Sat w l):Ret P F.a129 #[.agg (z01 b).toArray] w λvs w'=>vs=[.int .i64 (z3o b)]/\Sat w' l :=
 zrj b.base b.pid b.epoch b.seq b.kind b.time b.x <| by
  delta z07i AH AK AN AR AU Aa Ab Ac Af Ak Al Av Aw Bw By Bz;have hl:=hs.slen b.x (xs:=b.rs) (enc:=z0f);refine zr hs λa0 w' hs=>z8 hs (zj (λq w'=>q=(z6n (-1) b.rs,())/\Sat w' (pt a0 (.cells (cB b) T.a0)::l)) ?_ ?_)
  ·refine z0a (λm v w=>∃ i:Nat,v=(z6n (-1) (b.rs.take i),((i:Int),()))/\i<=b.rs.length/\b.rs.length-i=m/\Sat w (pt a0 (.cells (cB b) T.a0)::l)) b.rs.length ⟨0,rfl,by omega,rfl,hs⟩ ?_;clear hs;rintro m _ w ⟨i,rfl,hi,hm,hs⟩;refine zh (zi (λhc=>?_) λhc=>?_);rotate_left
   ·refine zm (zg ⟨?_,hs⟩);rw [List.take_of_length_le (by omega)]
   have hil:i<b.rs.length:=by omega
   refine z5b hs (xs:=b.rs) (enc:=z0f) i hil (zu hs λc w' hs=>?_);refine zv hs λw' hs=>z8 hs ?_;refine z27 (y:=z6n (-1) (b.rs.take (i+1))) ?_ (by rw [zx9 _ _ _ hil];split <;> omega);rw [wS (i:=i) (by omega)];exact z0x (b.rs.length-(i+1)) ⟨i+1,rfl,by omega,rfl,hs.sub⟩
  clear hs;rintro _ w ⟨rfl,hs⟩;refine zh (z8 hs ?_);refine zj (λq w'=>q=(z3o b,())/\Sat w' (pt a0 (.cells (cB b) T.a0)::l)) ?_ ?_
  ·unfold z3o;refine zi (λh=>?_) λh=>?_
   ·refine z8 hs (wp_lt ?_);refine zg ⟨?_,hs⟩;rw [if_pos (List.length_eq_zero_iff.1 (by omega))]
   ·refine zg ⟨?_,hs⟩;rw [if_neg (by rintro h0;rw [h0] at hl;simp at hl;omega)]
  rintro _ w2 ⟨rfl,hs⟩;exact wp_lt ⟨rfl,rfl,hs.tail⟩
theorem z0cr (seg gap:Int) (hs:Sat w l):Ret P F.a130 #[.agg #[.int .i64 seg,.int .i64 gap]] w λvs w'=>vs=[.bool (decide ((64<=seg/\seg<=4194304)/\(1<=gap/\gap<=4194304)))]/\Sat w' l :=
 zrk seg gap <| by
  delta z07j AD AR Ab Af Aj Bk;refine zr hs λa0 w' hs=>z8 hs (z8 hs ?_);refine z8 hs (z8 hs ?_);refine wp_lt ⟨rfl,?_,hs.tail⟩
  congr 2
  rw [Bool.eq_iff_iff,decide_eq_true_iff];simp only [Bool.and_eq_true,decide_eq_true_eq];omega
theorem z04z (s:ByteArray) (hs:Sat w l):Ret P F.a126 #[.string s] w λvs w'=>vs=[.bool (z2n s)]/\Sat w' l :=
 zrg s <| by
  delta z07f AW Aa Ab Ac Ak Av Az Bc Bg Bh;unfold z2n;refine zi (λh=>?_) λh=>?_
  ·rw [decide_eq_false (by omega),Bool.false_and];exact ⟨rfl,rfl,hs⟩
  rw [decide_eq_true (by omega),Bool.true_and];refine zjs hs λx w' hs=>?_;have hl:=hs.slen x (xs:=bl s) (enc:=zk);have hsz:=z10 s;refine zj (λ_ w'=>((bl s).all λc=>(97<=c.toNat && c.toNat<=122) || (48<=c.toNat && c.toNat<=57))=true/\Sat w' l) ?_ ?_;rotate_left
  ·rintro _ w2 ⟨h2,hs⟩;rw [h2];exact ⟨rfl,rfl,hs⟩
  refine z0a (λm v w=>∃ i:Nat,v=((i:Int),())/\i<=(bl s).length/\(bl s).length-i=m/\(((bl s).take i).all λc=>(97<=c.toNat && c.toNat<=122) || (48<=c.toNat && c.toNat<=57))=true/\Sat w (slc T.a63 1 x ((bl s).flatMap zk)::l)) (bl s).length ⟨0,rfl,by omega,rfl,rfl,hs⟩ ?_;clear hs;rintro m _ w ⟨i,rfl,hi,hm,hall,hs⟩;refine zh (zi (λhc=>?_) λhc=>?_);rotate_left
  ·refine zm (zg ⟨?_,hs.tail⟩)
   rwa [List.take_of_length_le (by omega)] at hall
  have hil:i<(bl s).length:=by omega
  refine z1g hs (xs:=bl s) (enc:=zk) i hil (wp_lt ?_)
  have hstep:(((bl s).take (i+1)).all λc=>(97<=c.toNat && c.toNat<=122) || (48<=c.toNat && c.toNat<=57))=((97<=(bl s)[i].toNat && (bl s)[i].toNat<=122) || (48<=(bl s)[i].toNat && (bl s)[i].toNat<=57)):=by
   rw [List.take_succ_eq_append_getElem hil,List.all_append,hall];simp
  refine zbo (λh3=>?_) λh3=>?_
  ·refine zm (zm ⟨rfl,?_,hs.tail⟩)
   have hf:((97<=(bl s)[i].toNat && (bl s)[i].toNat<=122) || (48<=(bl s)[i].toNat && (bl s)[i].toNat<=57))=false:=by
    rw [Bool.eq_false_iff];intro hh;simp only [Bool.not_eq_true',Bool.or_eq_false_iff,Bool.and_eq_false_iff,decide_eq_false_iff_not] at h3;simp only [Bool.or_eq_true,Bool.and_eq_true,decide_eq_true_eq] at hh;omega
   have:((bl s).all λc=>(97<=c.toNat && c.toNat<=122) || (48<=c.toNat && c.toNat<=57))=false:=by
    rw [<- List.take_append_drop (i+1) (bl s),List.all_append,hstep,hf];rfl
   rw [this]
  ·rw [wS (i:=i) (by omega)];refine z0x ((bl s).length-(i+1)) ⟨i+1,rfl,by omega,rfl,?_,hs⟩;rw [hstep];simp only [Bool.not_eq_false',Bool.or_eq_true,Bool.and_eq_true,decide_eq_true_eq] at h3;simp only [Bool.or_eq_true,Bool.and_eq_true,decide_eq_true_eq];omega
end
instance (priority:=low) AddrIs.adds {a:Addr} {b off n:Nat} [h:AddrIs a b off]:AddrIs (a.add n) b (off+n):=⟨by rw [h.ok,z2d]⟩
section
variable {P:Program} {w:World} {Q:Post} {S:World->Prop}
theorem zxe {g:Prop} {o:Option Addr} {f:Addr->Prog} (h:(f ⟨0,0,none⟩).wp P S w Q) (hg:¬ g):(Prog.ex [.adr] (c1 λx=>g->o=some x) (u1 f)).wp P S w Q:=⟨(⟨0,0,none⟩,()),λh=>absurd h hg,h⟩
theorem zxd {g:Prop} {m:Sem Value} {p:Pr} {f:p.D->Prog} (x:p.D) (hg:¬ g) (h:(f x).wp P S w Q):(Prog.read g m (.one (.one p)) (u1 f)).wp P S w Q:=⟨(x,()),λh=>absurd h hg,h⟩
end
def SegA.add (s:SegA) (bs:List BatM):SegA:=⟨s.base,s.fin,s.bs++bs.map BatM.p⟩
theorem zjw (s:SegA):s.add []=s:=by unfold SegA.add;simp
theorem zti (s:SegA) (a b:List BatM):(s.add a).add b=s.add (a++b):=by unfold SegA.add;simp
theorem z0cd (bs:List BatM):(bs.map BatM.p).flatMap frL=bs.flatMap frL:=by
 rw [List.flatMap_map];rfl
theorem z95 (s:SegA) (bs:List BatM):(s.add bs).file=s.file++bs.flatMap frL:=by
 unfold SegA.file SegA.add;simp only [List.flatMap_append,z0cd,List.append_assoc]
theorem z0a3 (gap:Int) (s:SegA) (b:BatM):(s.add [b]).idx gap=(zc1 (s.idx gap) b.base (s.file.length:Nat) (z3o b)).2:=by
 unfold SegA.idx SegA.add;show zdg (zex gap) _ (s.bs++[b.p])=_;rw [zey,z4h];rw [show ((((shL s.base s.fin).length+(s.bs.flatMap frL).length:Nat)):Int)=((shL s.base s.fin).length:Int)+((s.bs.flatMap frL).length:Int) by omega];rfl
theorem zce {α β:Type} (f:α->β) (l:List α):(l.map f).getLast? = l.getLast?.map f:=by simp
section
variable {w:World} {l r:List HP} {lg:Nat} {M:LogM} {A:LogA} {gap:Int} {a:Nat} {t:SegM}
theorem z0av [hf:Fo l (z0t gap) a t r] (hs:Sat w l):Ret P F.a132 #[.pointer (some ⟨a,0,none⟩)] w λvs w'=>vs=[.int .i64 t.s.reach]/\Sat w' (z0t gap a t::r) :=
 zrm _ <| by
  delta z07l AC AE AR Ab Ac Al Ao;have hs:=z4i (hs.perm hf.perm);refine zt hs λw' hs=>zf (z8 hs ?_);refine zf (z8 hs ?_);refine zf (z8 hs ?_);refine z27 (y:=t.s.reach) ?_ (by unfold SegA.reach;split <;> split <;> omega);exact ze ⟨rfl,rfl,z30 t hs⟩
theorem zov (base fin:Int) (hb:0<=base/\base<9223372036854775808) (hf':0<=fin/\fin<9223372036854775808) [hf:Fo l lgQ lg M r] (hs:Sat w l) :
  Ret P F.a123 #[.pointer (some ⟨lg,0,none⟩),.int .i64 base,.int .i64 fin] w λvs w'=>∃ a ix,vs=[.pointer (some ⟨a,0,none⟩)]/\Sat w' (z0t M.gap a ⟨ix,⟨base,fin,[]⟩⟩::lgQ lg M::r) :=
 zrd _ base fin <| by
  delta z07c AO AR Ab Ac Ad Af Ag Ak Al Ao BD;obtain ⟨hok,hs⟩:=z35 (hs.perm hf.perm);refine zf (z8 hs ?_);refine zb (z0cl M.gap hok.gap hs) λ_ w' hs=>?_;obtain ⟨ix,rfl,hs⟩:=hs;refine zd (wp_lt ?_);refine zb (zoe base fin hb hf' hs) λ_ w' hs=>?_;obtain ⟨z,rfl,hs⟩:=hs;refine zd ?_;have hl:=hs.slen z (xs:=shL base fin) (enc:=zk);refine zr hs λa w' hs=>⟨rfl,a,ix,rfl,?_⟩
  have hs:Sat w' (pt a (.cells #[.pointer (some ⟨ix,0,none⟩),.int .i64 base,.int .i64 fin,.int .i64 (z0s []),.int .i64 (z1o (-1) []),.int .i64 ((SegA.file ⟨base,fin,[]⟩).length:Nat)] T.a56)::slc T.a63 1 z ((shL base fin).flatMap zk)::z2s ix ((SegA.mk base fin []).idx M.gap)::pt lg (.cells #[.pointer (some ⟨M.d,0,none⟩),.string M.pre,.int .i64 M.seg,.int .i64 M.gap,.slice M.z.a M.z.len M.z.cap] T.a55)::slc T.a36 1 M.z ((M.SM.map Prod.fst).flatMap z1v)::HP.all (M.SM.map λt=>z0t M.gap t.1 t.2)::r):=by
   have e:(SegA.file ⟨base,fin,[]⟩).length=z.len:=by rw [z4h,hl];simp
   rw [e];exact hs
  have hs:=z1t M hok (hs.pick [3,3,3]);exact z30 ⟨ix,⟨base,fin,[]⟩⟩ (hs.sub)
theorem z029 (b:BatM) (hv:z02 b=0) [hf:Fo l (z0t gap) a t r] [hb:FocR r b.x 4 (b.rs.flatMap z0f)] (hlen:t.s.file.length+(frL b).length<=1000000000) (hs:Sat w l) :
  Ret P F.a133 #[.pointer (some ⟨a,0,none⟩),.agg (z01 b).toArray,.int .i64 ((frL b).length:Nat)] w λvs w'=>vs=[]/\Sat w' (z0t gap a ⟨t.ix,t.s.add [b]⟩::r) :=
 zrn _ b.base b.pid b.epoch b.seq b.kind b.time b.x _ <| by
  delta z07m AC AE AR AS Ab Ac Ad Af Al Am Ao Av Bq Bw Bx;obtain ⟨h64,-⟩:=z2x hv;obtain ⟨-,-,⟨-,hba,-⟩,-,-⟩:=z1d b hv;have hs:=z4i (hs.perm hf.perm);refine zr hs λa0 w' hs=>zl hs (zb (z041 b (by omega) hs) λ_ w' hs=>?_);obtain ⟨rfl,hs⟩:=hs;refine zd (wp_lt ?_);refine zt hs λw' hs=>zf (z8 hs ?_);refine z8 hs (zf ?_);refine z8 hs (zb (z0cv (b:=t.ix) b.base ((t.s.file.length:Nat):Int) (z3o b) (by omega) (by omega) hs) λ_ w' hs=>?_);obtain ⟨rfl,hs⟩:=hs;refine zd (ze ?_);refine zl hs (zb (zan b hs) λ_ w' hs=>?_);obtain ⟨rfl,hs⟩:=hs;refine zd (zf ?_);refine zy hs λw' hs=>zf (z8 hs ?_);refine zf (zy hs λw' hs=>?_);refine zf (z8 hs ?_);refine zf ?_;rw [w64 (by omega) (by omega)];refine zy hs λw' hs=>⟨rfl,rfl,?_⟩
  have e1:z1u b=z0s (t.s.add [b]).bs:=by
   show _=z0s (t.s.bs++[b.p]);rw [z60];unfold z1u;rw [if_neg (by rw [hv];simp)];rfl
  have e2:(if z3o b>z1o (-1) t.s.bs then z3o b else z1o (-1) t.s.bs)=z1o (-1) (t.s.add [b]).bs:=by
   show _=z1o (-1) (t.s.bs++[b.p]);rw [ziv];show _=max _ (z3o b);split <;> omega
  have e3:((t.s.file.length:Nat):Int)+((frL b).length:Nat)=(((t.s.add [b]).file.length:Nat):Int):=by
   rw [z95,List.length_append];simp
  rw [e1,e2,e3,<- z0a3] at hs;have hs:Sat w' (pt a (.cells #[.pointer (some ⟨t.ix,0,none⟩),.int .i64 (t.s.add [b]).base,.int .i64 (t.s.add [b]).fin,.int .i64 (z0s (t.s.add [b]).bs),.int .i64 (z1o (-1) (t.s.add [b]).bs),.int .i64 ((t.s.add [b]).file.length:Nat)] T.a56)::_):=hs;exact z30 ⟨t.ix,t.s.add [b]⟩ hs.sub
theorem ziu [hf:Fo l lgQ lg M r] (hlen:M.SM.length<=1000000000) (hs:Sat w l):Ret P F.a118 #[.pointer (some ⟨lg,0,none⟩)] w λvs w'=>vs=[.pointer (z050 (M.SM.getLast?.map Prod.fst))]/\Sat w' (lgQ lg M::r) :=
 zr8 _ <| by
  delta z077 AC AE AN Aa Ab Ad Ak Ao Av Bq;obtain ⟨hok,hs⟩:=z35 (hs.perm hf.perm);have hl:=hs.slen M.z (xs:=M.SM.map Prod.fst) (enc:=z1v);rw [List.length_map] at hl;refine zf (z8 hs ?_);refine zi (λh=>?_) λh=>?_
  ·have:M.SM=[]:=List.length_eq_zero_iff.1 (by omega);rw [this];rw [this] at hs;have hs:=z1t M hok (by rw [this];exact hs);exact ⟨rfl,rfl,hs⟩
  have h0:0<M.SM.length:=by omega
  refine zt hs λw' hs=>zf (z8 hs ?_);refine zf (z8 hs ?_);rw [w64 (by omega) (by omega)];refine z1g hs (xs:=M.SM.map Prod.fst) (enc:=z1v) (M.SM.length-1) (by rw [List.length_map];omega) (ze ?_);refine ⟨rfl,?_,z1t M hok hs⟩
  have e:M.SM.getLast?.map Prod.fst=some ((M.SM.map Prod.fst)[M.SM.length-1]'(by rw [List.length_map];omega)):=by
   rw [List.getLast?_eq_getElem?,List.getElem?_eq_getElem (by omega)];simp
  rw [e];rfl
theorem zbh {SM:List (Nat × SegM)} (hs:Sat w (HP.all (SM.map λt=>z0t gap t.1 t.2)::l)) {i:Nat} (hi:i<SM.length) :
  Sat w (z0t gap SM[i].1 SM[i].2::HP.all ((SM.eraseIdx i).map λt=>z0t gap t.1 t.2)::l):=by
 exact ((hs.all_perm ((z7y hi).map _))).all_cons
theorem z89 {SM:List (Nat × SegM)} {i:Nat} (hi:i<SM.length) (hs:Sat w (z0t gap SM[i].1 SM[i].2::HP.all ((SM.eraseIdx i).map λt=>z0t gap t.1 t.2)::l)) :
  Sat w (HP.all (SM.map λt=>z0t gap t.1 t.2)::l):=by
 have h1:Sat w (HP.all ((SM[i]::SM.eraseIdx i).map λt=>z0t gap t.1 t.2)::l):=hs.all_put;exact h1.all_perm ((z7y hi).symm.map _)
theorem zk5 [hf:Fo l lgQ lg M r] (hs:Sat w l):Ret P F.a108 #[.pointer (some ⟨lg,0,none⟩)] w λvs w'=>vs=[.int .i64 (z19 M.l)]/\Sat w' (lgQ lg M::r) :=
 zqy _ <| by
  delta z06x AN AR AZ Aa Ab Ac Ah Ak Al Ao Bq;obtain ⟨hok,hs⟩:=z35 (hs.perm hf.perm);have hl:=hs.slen M.z (xs:=M.SM.map Prod.fst) (enc:=z1v);rw [List.length_map] at hl;refine z04 (z8 hs ?_);refine zi (λh=>?_) λh=>?_
  ·have h:M.SM=[]:=by
    rcases h with h|h
    ·cases h
    ·exact List.length_eq_zero_iff.1 (by omega)
   have e:z19 M.l=0:=by unfold LogM.l;rw [h];rfl
   rw [e];exact ⟨rfl,rfl,z1t M hok hs⟩
  have h0:0<M.SM.length:=by
   apply Nat.pos_of_ne_zero;intro h1;exact h (.inr (by omega))
  refine zf (z8 hs ?_);refine z9j hs (xs:=M.SM.map Prod.fst) (enc:=z1v) 0 (by rw [List.length_map];exact h0) ?_ rfl rfl
  have e0:(M.SM.map Prod.fst)[0]'(by rw [List.length_map];exact h0)=M.SM[0].1:=by simp
  rw [e0];refine zf ?_;have hs:=z4i (zbh (hs.pick [2]) h0);refine z8 hs (wp_lt ?_)
  have e:z19 M.l=M.SM[0].2.s.base:=by
   obtain ⟨x,xs,hx⟩:=List.exists_cons_of_length_pos h0;simp only [LogM.l,hx,List.map_cons,z19,List.getElem_cons_zero]
  rw [e];refine ⟨rfl,rfl,?_⟩;have hs:=z89 h0 (z30 M.SM[0].2 hs);exact z1t M hok (hs.pick [1,1])
theorem zcv [hf:Fo l lgQ lg M r] (hlen:M.SM.length<=1000000000) (hs:Sat w l):Ret P F.a109 #[.pointer (some ⟨lg,0,none⟩)] w λvs w'=>vs=[.int .i64 (zn M.l)]/\Sat w' (lgQ lg M::r) :=
 zqz _ <| by
  delta z06y AZ Aa Ab Ac Ad Ah Ak Al Am B2;obtain ⟨hok,hs⟩:=z35 (hs.perm hf.perm);have hl:=hs.slen M.z (xs:=M.SM.map Prod.fst) (enc:=z1v);rw [List.length_map] at hl;refine z04 (z8 hs ?_);refine zi (λh=>?_) λh=>?_
  ·have h:M.SM=[]:=by
    rcases h with h|h
    ·cases h
    ·exact List.length_eq_zero_iff.1 (by omega)
   have e:zn M.l=0:=by unfold LogM.l;rw [h];rfl
   rw [e];exact ⟨rfl,rfl,z1t M hok hs⟩
  have h0:0<M.SM.length:=by
   apply Nat.pos_of_ne_zero;intro h1;exact h (.inr (by omega))
  have hs:=z1t M hok hs;refine zb (ziu (lg:=lg) hlen hs) λ_ w' hs=>?_;obtain ⟨rfl,hs⟩:=hs;refine zd ?_
  have e1:M.SM.getLast? = some (M.SM[M.SM.length-1]'(by omega)):=by
   rw [List.getLast?_eq_getElem?,List.getElem?_eq_getElem (by omega)]
  rw [e1];obtain ⟨-,hs⟩:=z35 hs;have hs:=zbh (hs.pick [2]) (show M.SM.length-1<M.SM.length by omega);refine zb (z0av (gap:=M.gap) (a:=M.SM[M.SM.length-1].1) hs) λ_ w' hs=>?_;obtain ⟨rfl,hs⟩:=hs;refine zd (wp_lt ?_)
  have e:zn M.l=(M.SM[M.SM.length-1]'(by omega)).2.s.reach:=by
   unfold LogM.l zn;rw [zce,e1];rfl
  rw [e];have hs:=z89 (show M.SM.length-1<M.SM.length by omega) hs;exact ⟨rfl,rfl,z1t M hok (hs.pick [1,1])⟩
def z7z (seg:Int) (l:List SegA) (n:Nat):Bool:=match l.getLast? with
 | none=>false
 | some s=>decide (z0s s.bs=0) || decide (((s.file.length+n:Nat):Int)<=seg)
theorem z0cc (n:Nat) (hn:n<=1000000000) [hf:Fo l lgQ lg M r] (hlen:M.SM.length<=1000000000) (hfl:∀ s ∈ M.l,s.file.length<=1000000000) (hs:Sat w l):Ret P F.a117 #[.pointer (some ⟨lg,0,none⟩),.int .i64 (n:Int)] w λvs w'=>vs=[.bool (z7z M.seg M.l n)]/\Sat w' (lgQ lg M::r) :=
 zr7 _ _ <| by
  delta z076 AC AD AE Ab Ad Ah Aj Av B2;refine zb (ziu (lg:=lg) hlen hs) λ_ w' hs=>?_;obtain ⟨rfl,hs⟩:=hs;refine zd (zt hs λw' hs=>?_)
  by_cases h0:M.SM=[]
  ·have e:z7z M.seg M.l n=false:=by unfold LogM.l z7z;rw [h0];rfl
   rw [e,h0];refine zxe ?_ (λh=>by cases h);refine zxd (0:Int) (λh=>by cases h) (zxe ?_ (λh=>by cases h.1));refine zxd (0:Int) (λh=>by cases h.1) (zxe ?_ (λh=>by cases h.1));refine zxd (0:Int) (λh=>by cases h.1) (wp_lt ?_);exact ze ⟨rfl,rfl,hs⟩
  have hp:=List.length_pos_iff.2 h0
  have e1:M.SM.getLast? = some (M.SM[M.SM.length-1]'(by omega)):=by
   rw [List.getLast?_eq_getElem?,List.getElem?_eq_getElem (by omega)]
  have e:z7z M.seg M.l n=(decide (z0s (M.SM[M.SM.length-1]'(by omega)).2.s.bs=0) || decide ((((M.SM[M.SM.length-1]'(by omega)).2.s.file.length+n:Nat):Int)<=M.seg)):=by
   unfold LogM.l z7z;rw [zce,e1];rfl
  have hfl':=hfl _ (List.mem_map.2 ⟨_,List.getElem_mem (show M.SM.length-1<M.SM.length by omega),rfl⟩);rw [e,e1];obtain ⟨hok,hs⟩:=z35 hs;have hs:=z4i (zbh (hs.pick [2]) (show M.SM.length-1<M.SM.length by omega));refine z04 (z8 hs ?_);refine z04 (z8 hs ?_);refine z04 (z8 hs ?_);rw [w64 (by omega) (by omega)];refine wp_lt (ze ?_);have hs:=z89 (show M.SM.length-1<M.SM.length by omega) (z30 (M.SM[M.SM.length-1]'(by omega)).2 hs);refine ⟨rfl,?_,z1t M hok (hs.pick [1,1])⟩;rfl
theorem z06m (a:Nat) (t:SegM) {r0:List HP} [hf:Fo l lgQ lg M r0] [hf2:Fo r0 (z0t M.gap) a t r] (hlen:M.SM.length<=1000000000) (hs:Sat w l) :
  Ret P F.a121 #[.pointer (some ⟨lg,0,none⟩),.pointer (some ⟨a,0,none⟩)] w λvs w'=>∃ z:Sl,vs=[]/\Sat w' (lgQ lg { M with z:=z,SM:=M.SM++[(a,t)] }::r) :=
 zrb _ _ <| by
  delta z07a AN AS Ab Ad Ao Bc;obtain ⟨hok,hs⟩:=z35 (hs.perm (hf.perm.trans (.cons _ hf2.perm)));have hl:=hs.slen M.z (xs:=M.SM.map Prod.fst) (enc:=z1v);refine zf (z8 hs ?_);refine z66 (xs:=M.SM.map Prod.fst) (enc:=z1v) (y:=a) hs (λz w' hs=>?_) rfl (by rw [List.length_map];omega);refine zf (zy hs λw' hs=>?_);refine ⟨rfl,z,rfl,?_⟩;have hs:Sat w' (pt lg (.cells #[.pointer (some ⟨M.d,0,none⟩),.string M.pre,.int .i64 M.seg,.int .i64 M.gap,.slice z.a z.len z.cap] T.a55)::slc T.a36 1 z ((M.SM.map Prod.fst++[a]).flatMap z1v)::HP.all (M.SM.map λt=>z0t M.gap t.1 t.2)::z0t M.gap a t::r):=hs;have h1:Sat w' (HP.all (((a,t)::M.SM).map λt=>z0t M.gap t.1 t.2)::pt lg (.cells #[.pointer (some ⟨M.d,0,none⟩),.string M.pre,.int .i64 M.seg,.int .i64 M.gap,.slice z.a z.len z.cap] T.a55)::slc T.a36 1 z ((M.SM.map Prod.fst++[a]).flatMap z1v)::r):=(hs.pick [3,2]).all_put;have h2:=h1.all_perm ((List.perm_append_comm (l₁:=[(a,t)]) (l₂:=M.SM)).map λt=>z0t M.gap t.1 t.2);refine z1t { M with z:=z,SM:=M.SM++[(a,t)] } hok ?_
  have e:(M.SM++[(a,t)]).map Prod.fst=M.SM.map Prod.fst++[a]:=by simp
  show Sat w' (pt lg _::slc T.a36 1 z (((M.SM++[(a,t)]).map Prod.fst).flatMap z1v)::HP.all ((M.SM++[(a,t)]).map λt=>z0t M.gap t.1 t.2)::r);rw [e];exact h2.pick [1,1]
end
theorem z15.mem:∀ {n:Int} {l:List SegA},z15 n l->∀ s ∈ l,SegOk s/\n<=s.base
 | _,a::l,⟨h1,h2,h3⟩,s,hs=>by
  rcases List.mem_cons.1 hs with rfl|hs
  ·exact ⟨h2,h1⟩
  ·have:=h3.mem s hs;exact ⟨this.1,by omega⟩
def z0p (pre:ByteArray) (l:List SegA) (D:DiskA):Int × DiskA:=match l.getLast? with
 | none=>(0,D)
 | some s=>z29 D [zx pre s.base z08]
def BatM.to (b:BatM) (n:Int):BatM:=⟨n,b.pid,b.epoch,b.seq,b.kind,b.time,b.x,b.rs⟩
def z05:Int->List BatM->Int × List BatM
 | _,[]=>(0,[])
 | n,b::bs=>if z02 (b.to n)≠0 then (z02 (b.to n),[]) else if (z05 (n+zo b) bs).1≠0 then ((z05 (n+zo b) bs).1,[]) else (0,b.to n::(z05 (n+zo b) bs).2)
def frP (p:Sl × List UInt8):HP:=slc T.a63 1 p.1 (p.2.flatMap zk)
theorem zfh:∀ {bs:List BatM} {n:Int},(z05 n bs).1=0->(z05 n bs).2.length=bs.length/\(∀ b ∈ (z05 n bs).2,z02 b=0/\∃ c ∈ bs,b.x=c.x/\b.rs=c.rs)/\∀ b,(z05 n bs).2.head? = some b->b.base=n
 | [],n,_=>⟨rfl,(λ_ h=>by cases h),(λ_ h=>by cases h)⟩
 | b::bs,n,h=>by
  unfold z05 at h ⊢
  by_cases h1:z02 (b.to n)≠0
  ·rw [if_pos h1] at h;exact absurd h h1
  rw [if_neg h1] at h ⊢
  by_cases h2:(z05 (n+zo b) bs).1≠0
  ·rw [if_pos h2] at h;exact absurd h h2
  rw [if_neg h2];obtain ⟨i1,i2,-⟩:=zfh (Decidable.not_not.1 h2);refine ⟨by simp [i1],λc hc=>?_,λc hc=>?_⟩
  ·rcases List.mem_cons.1 hc with rfl|hc
   ·exact ⟨Decidable.not_not.1 h1,b,List.mem_cons_self ..,rfl,rfl⟩
   ·obtain ⟨v,d,hd,e⟩:=i2 c hc;exact ⟨v,d,List.mem_cons_of_mem _ hd,e⟩
  ·simp at hc;subst hc;rfl
theorem zto:∀ {bs:List BatM},(∀ b ∈ bs,z02 b=0)->(bs.flatMap frL).length<=bs.length*262152
 | [],_=>by simp
 | b::bs,h=>by
  have h1:=z68 (h b (List.mem_cons_self ..));have h2:=z84 (h b (List.mem_cons_self ..));have h3:=zto λx hx=>h x (List.mem_cons_of_mem _ hx);rw [List.flatMap_cons,List.length_append,List.length_cons];omega
section
variable {w:World} {l r:List HP} {lg:Nat} {M:LogM} {D:DiskA} {gap:Int} {a:Nat} {t:SegM}
theorem zia {fs:List (Sl × List UInt8)} {p:Sl × List UInt8} (hp:p ∈ fs) [hf:Foc l (HP.all (fs.map frP)) r]:FocR l p.1 1 (p.2.flatMap zk):=⟨λw hs=>by
 obtain ⟨L,hs⟩:=(hs.perm hf.perm).all_mem hp
 exact Sat.rd hs⟩
theorem zpb:∀ {fs gs:List (Sl × List UInt8)},(∀ p ∈ gs,FocR l p.1 1 (p.2.flatMap zk))->zbr l (gs.map Prod.fst) (gs.map Prod.snd)
 | _,[],_=>trivial
 | fs,p::gs,h=>⟨(h p (List.mem_cons_self ..)).rd,zpb (fs:=fs) λq hq=>h q (List.mem_cons_of_mem _ hq)⟩
theorem zuc {r1:List HP} [hf:Fo l lgQ lg M r1] [hf2:Fo r1 dk M.d D r] (hlen:M.SM.length<=1000000000) (hok:z15 0 M.l) (hs:Sat w l) :
  Ret P F.a113 #[.pointer (some ⟨lg,0,none⟩)] w λvs w'=>vs=[.int .i64 (z0p M.pre M.l D).1]/\Sat w' (lgQ lg M::dk M.d (z0p M.pre M.l D).2::r) :=
 zr3 _ <| by
  delta z072 AC AE AR Aa Ab Ac Ad Al Am Ao Aw B2 B5 Bc Bp;have hs:=hs.perm (hf.perm.trans (.cons _ hf2.perm));refine z06 ?_ (by simp);refine zb (ziu (lg:=lg) hlen hs) λ_ w' hs=>?_;obtain ⟨rfl,hs⟩:=hs;refine zd ?_
  by_cases h0:M.SM=[]
  ·have e:z0p M.pre M.l D=(0,D):=by unfold LogM.l z0p;rw [h0];rfl
   rw [e,h0];refine z06 ?_ (by simp [z050]);exact ⟨rfl,rfl,hs⟩
  have hp:=List.length_pos_iff.2 h0
  have hsz:M.SM.length-1<M.SM.length:=by omega
  have e1:M.SM.getLast? = some (M.SM[M.SM.length-1]'hsz):=by
   rw [List.getLast?_eq_getElem?,List.getElem?_eq_getElem (by omega)]
  have e:z0p M.pre M.l D=z29 D [zx M.pre (M.SM[M.SM.length-1]'hsz).2.s.base z08]:=by
   unfold LogM.l z0p;rw [zce,e1];rfl
  have hmem:(M.SM[M.SM.length-1]'hsz).2.s ∈ M.l:=List.mem_map.2 ⟨_,List.getElem_mem hsz,rfl⟩;have hbase:=(hok.mem _ hmem).1.base;rw [e,e1];obtain ⟨hokm,hs⟩:=z35 hs
  have hpre:M.pre.size<=100:=by
   have:=hokm.pre;unfold z2n at this;rw [Bool.and_eq_true,decide_eq_true_eq] at this;omega
  refine z18 ?_ (by simp [z050]);have hs:=z4i (zbh (hs.pick [2]) hsz);refine zj (λq w'=>q=((z29 D [zx M.pre (M.SM[M.SM.length-1]'hsz).2.s.base z08]).1,())/\Sat w' (lgQ lg M::dk M.d (z29 D [zx M.pre (M.SM[M.SM.length-1]'hsz).2.s.base z08]).2::r)) ?_ ?_;rotate_left
  ·rintro _ w2 ⟨rfl,hs⟩;exact ⟨rfl,rfl,hs⟩
  refine zt hs λw' hs=>zf (z0y hs ?_);refine zf (z8 hs ?_);refine zb (z99 (lg:=lg) _ (by omega) (ByteArray.mk #[46,108,111,103]) (by decide) M.pre hpre hs) λ_ w' hs=>?_;obtain ⟨rfl,hs⟩:=hs;refine zd ?_ (by first|trivial|(repeat (first|exact trivial|exact λ_=>z09 hs|exact λ_=>z0g hs|refine And.intro ?_ ?_)))
  refine z7o hs (enc:=z2m) [zx M.pre (M.SM[M.SM.length-1]'hsz).2.s.base z08] λy w' hs=>⟨(by first|trivial|(repeat (first|exact trivial|exact λ_=>z09 hs|exact λ_=>z0g hs|refine And.intro ?_ ?_))),?_⟩
  refine ze (zb (z0dh (d:=M.d) y [zx M.pre (M.SM[M.SM.length-1]'hsz).2.s.base z08] (by show 1<=100000;omega) hs) λ_ w' hs=>?_);obtain ⟨rfl,hs⟩:=hs;refine zd (wp_lt ?_);refine ze (zg ⟨rfl,?_⟩);replace hs:Sat _ (z0t M.gap _ _::_):=z30 (M.SM[M.SM.length-1]'hsz).2 (hs.pick [2,2]);have hs:=z89 hsz (hs.pick [0,2]);exact (z1t M hokm (hs.pick [3,3])).sub
theorem z04r (x:Sl) (bs:List BatM) [hf:Fo l lgQ lg M r] (hlen:M.SM.length<=1000000000) (hbl:bs.length<=100000) (hx:FocR r x 7 (bs.flatMap z01)) (hbs:∀ b ∈ bs,FocR r b.x 4 (b.rs.flatMap z0f)) (hs:Sat w l) :
  Ret P F.a120 #[.pointer (some ⟨lg,0,none⟩),x.v] w λvs w' =>
   ((z05 (zn M.l) bs).1≠0/\vs=[.slice none 0 0,.slice none 0 0,.int .i64 (z05 (zn M.l) bs).1]/\Sat w' (lgQ lg M::r)) \/
   ((z05 (zn M.l) bs).1=0/\∃ (z1 z2:Sl) (fs:List (Sl × List UInt8)),vs=[z1.v,z2.v,.int .i64 0]/\fs.map Prod.snd=(z05 (zn M.l) bs).2.map frL /\
    Sat w' (slc T.a0 7 z1 ((z05 (zn M.l) bs).2.flatMap z01)::slc T.a53 1 z2 ((fs.map Prod.fst).flatMap z0h)::HP.all (fs.map frP)::lgQ lg M::r)) :=
 zra _ x <| by
  delta z079 AH AK AO AS Aa Ab Ac Ad Ak Al Am Av Bc Bo Bv Bw Bx;have hs:=hs.perm hf.perm;have hl:=hs.slen x (xs:=bs) (enc:=z01);refine zb (zcv (lg:=lg) hlen hs) λ_ w' hs=>?_;obtain ⟨rfl,hs⟩:=hs;refine zd (wp_lt ?_);generalize zn M.l=n0
  refine zj (λq w'=>∃ (z1 z2:Sl) (fs:List (Sl × List UInt8)),(z05 n0 bs).1=0/\q=(z1,z2,())/\fs.map Prod.snd=(z05 n0 bs).2.map frL /\
    Sat w' (slc T.a0 7 z1 ((z05 n0 bs).2.flatMap z01)::slc T.a53 1 z2 ((fs.map Prod.fst).flatMap z0h)::HP.all (fs.map frP)::lgQ lg M::r)) ?_ ?_
  rotate_left
  ·rintro _ w2 ⟨z1,z2,fs,h1,rfl,h2,hs⟩;exact ⟨rfl,.inr ⟨h1,z1,z2,fs,rfl,h2,hs⟩⟩
  have h0:Sat w' (slc T.a0 7 ⟨none,0,0⟩ (([]:List BatM).flatMap z01)::slc T.a53 1 ⟨none,0,0⟩ (((([]:List (Sl × List UInt8))).map Prod.fst).flatMap z0h)::HP.all ((([]:List (Sl × List UInt8))).map frP)::lgQ lg M::r):=(Sat.all_nil hs).slc_nil.slc_nil
  refine z0a (λm v w=>∃ (i:Nat) (n:Int) (done:List BatM) (z1 z2:Sl) (fs:List (Sl × List UInt8)),v=(n,z1,z2,(i:Int),())/\i<=bs.length/\bs.length-i=m/\done.length=i/\fs.length=i /\
   z05 n0 bs=(if (z05 n (bs.drop i)).1≠0 then ((z05 n (bs.drop i)).1,[]) else (0,done++(z05 n (bs.drop i)).2))/\fs.map Prod.snd=done.map frL /\
   Sat w (slc T.a0 7 z1 (done.flatMap z01)::slc T.a53 1 z2 ((fs.map Prod.fst).flatMap z0h)::HP.all (fs.map frP)::lgQ lg M::r)) bs.length
   ⟨0,n0,[],⟨none,0,0⟩,⟨none,0,0⟩,[],rfl,by omega,rfl,rfl,rfl,?_,rfl,h0⟩ ?_
  ·rw [List.drop_zero,List.nil_append]
   by_cases h:(z05 n0 bs).1≠0
   ·rw [if_pos h]
    have:∀ {bs:List BatM} {n:Int},(z05 n bs).1≠0->(z05 n bs).2=[]:=by
     intro bs
     induction bs with
     | nil=>intro n h;exact absurd rfl h
     | cons b bs ih =>
      intro n h;unfold z05 at h ⊢;split
      ·rfl
      ·split
       ·rfl
       ·rename_i h1 h2
        rw [if_neg h1,if_neg h2] at h;exact absurd rfl h
    rw [<- this h]
   ·rw [if_neg h];have h:=Decidable.not_not.1 h;rw [<- h]
  clear hs h0;rintro m _ w ⟨i,n,done,z1,z2,fs,rfl,hi,hm,hdl,hfl,hpl,hfs,hs⟩;refine zh (zi (λhc=>?_) λhc=>?_);rotate_left
  ·have e:bs.drop i=[]:=List.drop_eq_nil_of_le (by omega);rw [e] at hpl;simp only [z05,List.append_nil] at hpl
   have hpl:z05 n0 bs=(0,done):=by rw [hpl];rfl
   refine zm (zg ⟨z1,z2,fs,by rw [hpl],rfl,by rw [hpl];exact hfs,?_⟩);rw [hpl];exact hs
  have hil:i<bs.length:=by omega
  have hdrop:bs.drop i=bs[i]::bs.drop (i+1):=List.drop_eq_getElem_cons hil;rw [hdrop] at hpl;have hR:=hbs bs[i] (List.getElem_mem hil);refine z5b hs (xs:=bs) (enc:=z01) i hil (zu hs λa w' hs=>?_);refine zv hs λw' hs=>zy hs λw' hs=>zl hs ?_;have hRt:FocR r (bs[i].to n).x 4 ((bs[i].to n).rs.flatMap z0f):=hR;refine zb (z03b (bs[i].to n) hs) λ_ w' hs=>?_;have hunf:z05 n (bs[i]::bs.drop (i+1))=if z02 (bs[i].to n)≠0 then (z02 (bs[i].to n),[]) else if (z05 (n+zo bs[i]) (bs.drop (i+1))).1≠0 then ((z05 (n+zo bs[i]) (bs.drop (i+1))).1,[]) else (0,bs[i].to n::(z05 (n+zo bs[i]) (bs.drop (i+1))).2):=rfl
  rcases hs with ⟨hv,rfl,hs⟩|⟨hv,y,rfl,hs⟩
  ·refine zd (wp_lt ?_);refine z18 ?_ hv;refine wp_lt ?_;rw [if_pos hv] at hunf
   have hpl:z05 n0 bs=(z02 (bs[i].to n),[]):=by rw [hpl,hunf,if_pos hv]
   refine zm (zm ⟨rfl,.inl ⟨by rw [hpl];exact hv,by rw [hpl],hs.sub⟩⟩)
  ·refine zd (wp_lt ?_);refine z06 ?_ (by simp);rw [if_neg (by rw [hv];simp)] at hunf;have hbl2:=z84 hv;have hfrl:=z68 hv;refine zl hs (z66 (xs:=done) (enc:=z01) (y:=bs[i].to n) hs (λz1' w' hs=>?_) rfl (by omega));refine zat hs (enc:=z0h) [y] λy2 w' hs=>zb (z03g y2 y (z2y (bs[i].to n)) (by omega) hs) λ_ w' hs=>?_;obtain ⟨y3,rfl,hs⟩:=hs;refine zd (z66 (xs:=fs.map Prod.fst) (enc:=z0h) (y:=y3) hs (λz2' w' hs=>?_) rfl (by rw [List.length_map];omega));refine zl hs (zb (zan (bs[i].to n) hs) λ_ w' hs=>?_);obtain ⟨rfl,hs⟩:=hs;refine zd (wp_lt ?_);rw [wS (i:=i) (by omega)]
   have en:z1u (bs[i].to n)=n+zo bs[i]:=by
    unfold z1u;rw [if_neg (by rw [hv];simp)];rfl
   rw [en];refine z0x (bs.length-(i+1)) ⟨i+1,n+zo bs[i],done++[bs[i].to n],z1',z2',fs++[(y3,frL (bs[i].to n))],rfl,by omega,rfl,by simp [hdl],by simp [hfl],?_,by simp [hfs],?_⟩
   ·rw [hpl,hunf]
    by_cases h2:(z05 (n+zo bs[i]) (bs.drop (i+1))).1≠0
    ·rw [if_pos h2,if_pos h2,if_pos h2]
    ·rw [if_neg h2,if_neg h2,if_neg (by simp),List.append_assoc];rfl
   ·have e2:(fs++[(y3,frL (bs[i].to n))]).map Prod.fst=fs.map Prod.fst++[y3]:=by simp
    rw [e2];have hs:Sat w' (slc T.a53 1 z2' ((fs.map Prod.fst++[y3]).flatMap z0h)::slc T.a63 1 y3 ((frL (bs[i].to n)).flatMap zk)::slc T.a53 1 y2 (([y]:List Sl).flatMap z0h)::slc T.a0 7 z1' ((done++[bs[i].to n]).flatMap z01)::_):=hs
    have hs:Sat w' (frP (y3,frL (bs[i].to n))::HP.all (fs.map frP)::slc T.a0 7 z1' ((done++[bs[i].to n]).flatMap z01)::slc T.a53 1 z2' ((fs.map Prod.fst++[y3]).flatMap z0h)::lgQ lg M::r):=by
     have h3:Sat w' (slc T.a63 1 y3 ((frL (bs[i].to n)).flatMap zk)::HP.all (fs.map frP)::slc T.a0 7 z1' ((done++[bs[i].to n]).flatMap z01)::slc T.a53 1 z2' ((fs.map Prod.fst++[y3]).flatMap z0h)::lgQ lg M::r):=hs.sub;exact h3
    have h4:Sat w' (HP.all (((y3,frL (bs[i].to n))::fs).map frP)::_):=hs.all_put;have h5:=h4.all_perm ((List.perm_append_comm (l₁:=[(y3,frL (bs[i].to n))]) (l₂:=fs)).map frP);exact h5.pick [1,1]
end
def z5v (l:List SegA):Int:=match l.getLast? with
 | none=>0
 | some s=>s.base
def z7a (l:List SegA) (bs:List BatM):List SegA:=match l.getLast? with
 | none=>l
 | some s=>l.dropLast++[s.add bs]
def z0u (pre:ByteArray) (seg:Int) (l:List SegA) (D:DiskA) (bs:List BatM):(Int × Int) × List SegA × DiskA :=
 if bs=[] then ((0,3),l,D) else
 if (z05 (zn l) bs).1≠0 then ((0,(z05 (zn l) bs).1),l,D) else
 if z7z seg l ((z05 (zn l) bs).2.flatMap frL).length then
  if (z0b D (zx pre (z5v l) z08) ((z05 (zn l) bs).2.flatMap frL)).1≠0 then ((0,(z0b D (zx pre (z5v l) z08) ((z05 (zn l) bs).2.flatMap frL)).1),l,(z0b D (zx pre (z5v l) z08) ((z05 (zn l) bs).2.flatMap frL)).2)
  else ((zn l,0),z7a l (z05 (zn l) bs).2,(z0b D (zx pre (z5v l) z08) ((z05 (zn l) bs).2.flatMap frL)).2)
 else
  if (z0p pre l D).1≠0 then ((0,(z0p pre l D).1),l,(z0p pre l D).2) else
  if (z0b (z0p pre l D).2 (zx pre (zn l) z08) (shL (zn l) 0++(z05 (zn l) bs).2.flatMap frL)).1≠0 then ((0,(z0b (z0p pre l D).2 (zx pre (zn l) z08) (shL (zn l) 0++(z05 (zn l) bs).2.flatMap frL)).1),l,(z0b (z0p pre l D).2 (zx pre (zn l) z08) (shL (zn l) 0++(z05 (zn l) bs).2.flatMap frL)).2)
  else ((zn l,0),l++[(⟨zn l,0,[]⟩:SegA).add (z05 (zn l) bs).2],(z0b (z0p pre l D).2 (zx pre (zn l) z08) (shL (zn l) 0++(z05 (zn l) bs).2.flatMap frL)).2)
def LogA.set (A:LogA) (l:List SegA):LogA:=⟨A.d,A.pre,A.seg,A.gap,l⟩
theorem z15.next:∀ {n:Int} {l:List SegA},0<=n->z15 n l->0<=zn l/\zn l<=1099511627777
 | _,[],_,_=>⟨by decide,by decide⟩
 | n,[s],hn,⟨h1,h2,_⟩=>by
  have:=z74 h2;have:=h2.base;show 0<=s.reach/\s.reach<=_;omega
 | n,s::t::l,hn,⟨h1,h2,h3⟩=>by
  have:=h2.base;have:=z15.next (by omega) h3;exact this
instance:EncF z01 0 (.int .i64) (λb=>b.base):=⟨λ_=>rfl⟩
section
variable {w:World} {l r:List HP} {lg:Nat} {M:LogM} {A:LogA} {D:DiskA} {gap:Int} {a:Nat} {t:SegM}
theorem zeb {SM0:List (Nat × SegM)} (h:M.SM=SM0++[(a,t)]) (hs:Sat w (lgQ lg M::l)):okM M.gap M.seg M.pre /\
  Sat w (z0t M.gap a t::pt lg (.cells #[.pointer (some ⟨M.d,0,none⟩),.string M.pre,.int .i64 M.seg,.int .i64 M.gap,.slice M.z.a M.z.len M.z.cap] T.a55)::slc T.a36 1 M.z ((SM0.map Prod.fst++[a]).flatMap z1v)::HP.all (SM0.map λt=>z0t M.gap t.1 t.2)::l):=by
 obtain ⟨hok,hs⟩:=z35 hs;rw [h] at hs;have h1:=(hs.pick [2]).all_perm ((List.perm_append_comm (l₁:=SM0) (l₂:=[(a,t)])).map λt=>z0t M.gap t.1 t.2);have h2:Sat w (z0t M.gap a t::HP.all (SM0.map λt=>z0t M.gap t.1 t.2)::_):=h1.all_cons;rw [List.map_append] at h2;exact ⟨hok,h2.pick [0,1,1]⟩
theorem zcu (M:LogM) {SM0:List (Nat × SegM)} (hok:okM M.gap M.seg M.pre) (hs:Sat w (z0t M.gap a t::pt lg (.cells #[.pointer (some ⟨M.d,0,none⟩),.string M.pre,.int .i64 M.seg,.int .i64 M.gap,.slice M.z.a M.z.len M.z.cap] T.a55)::slc T.a36 1 M.z ((SM0.map Prod.fst++[a]).flatMap z1v)::HP.all (SM0.map λt=>z0t M.gap t.1 t.2)::l)) :
  Sat w (lgQ lg { M with SM:=SM0++[(a,t)] }::l):=by
 have h1:Sat w (HP.all (((a,t)::SM0).map λt=>z0t M.gap t.1 t.2)::_):=(hs.pick [0,2]).all_put;have h2:=h1.all_perm ((List.perm_append_comm (l₁:=[(a,t)]) (l₂:=SM0)).map λt=>z0t M.gap t.1 t.2);refine z1t { M with SM:=SM0++[(a,t)] } hok ?_;show Sat w (pt lg _::slc T.a36 1 M.z (((SM0++[(a,t)]).map Prod.fst).flatMap z1v)::HP.all ((SM0++[(a,t)]).map λt=>z0t M.gap t.1 t.2)::l);rw [List.map_append];exact h2.pick [1,1]
theorem z6b {α:Type} {l:List α} (h:l≠[]):∃ (l0:List α) (x:α),l=l0++[x]:=⟨l.dropLast,l.getLast h,(List.dropLast_concat_getLast h).symm⟩
theorem zpa {fs:List (Sl × List UInt8)} (h:∀ p ∈ fs,FocR l p.1 1 (p.2.flatMap zk)):zbr l (fs.map Prod.fst) (fs.map Prod.snd):=zpb (fs:=fs) h
theorem okM.size {g s:Int} {p:ByteArray} (h:okM g s p):p.size<=100:=by
 have:=h.pre;unfold z2n at this;rw [Bool.and_eq_true,decide_eq_true_eq] at this;omega
set_option maxHeartbeats 1000000 in
theorem z010 (x:Sl) (bs:List BatM) {r1:List HP} [hf:Fo l lgP lg A r1] [hf2:Fo r1 dk A.d D r] (hlen:A.l.length<=1000000) (hok:z15 0 A.l) (hfl:∀ s ∈ A.l,s.file.length<=500000000) (hbl:bs.length<=900)
  (hx:FocR r x 7 (bs.flatMap z01)) (hbs:∀ b ∈ bs,FocR r b.x 4 (b.rs.flatMap z0f)) (hs:Sat w l) :
  Ret P F.a107 #[.pointer (some ⟨lg,0,none⟩),x.v] w λvs w'=>vs=[.int .i64 (z0u A.pre A.seg A.l D bs).1.1,.int .i64 (z0u A.pre A.seg A.l D bs).1.2] /\
   Sat w' (lgP lg (A.set (z0u A.pre A.seg A.l D bs).2.1)::dk A.d (z0u A.pre A.seg A.l D bs).2.2::r) :=
 zqx _ x <| by
  delta z06w AA AC AE AH AK AN AO AR AU AW Aa Ab Ac Ad Ak Al Am An Ao Av Aw Az B1 B2 B5 Ba Bc Bp Bv Bw Bx;have hs:=hs.perm (hf.perm.trans (.cons _ hf2.perm));clear hf hf2;obtain ⟨M,rfl,hs⟩:=z97 hs;have hlxs:=hs.slen x (xs:=bs) (enc:=z01);have hMl:M.A.l=M.l:=rfl;have hMpre:M.A.pre=M.pre:=rfl;have hMseg:M.A.seg=M.seg:=rfl;have hMd:M.A.d=M.d:=rfl;rw [hMl] at hlen hok hfl ⊢;rw [hMpre,hMseg,hMd];rw [hMd] at hs;have hll:M.l.length=M.SM.length:=List.length_map ..;have hnx:=hok.next (Int.le_refl 0);have hsame:∀ {w:World} {D':DiskA},Sat w (lgQ lg M::dk M.d D'::r)->Sat w (lgP lg (M.A.set M.l)::dk M.d D'::r):=λhs=>z50 M hs;unfold z0u;refine z06 ?_ (by simp);refine zi (λh=>?_) λh=>?_
  ·have:bs=[]:=List.length_eq_zero_iff.1 (by omega);rw [if_pos this];exact ⟨rfl,rfl,hsame hs⟩
  rw [if_neg (by rintro rfl;simp at hlxs;omega)];have hx':FocR (dk M.d D::r) x 7 (bs.flatMap z01):=inferInstance;refine zb (z04r (lg:=lg) x bs (by omega) (by omega) inferInstance (λb hb=>by have:=hbs b hb;infer_instance) hs) λ_ w' hs=>?_;have hplo:=zfh (bs:=bs) (n:=zn M.l)
  rcases hs with ⟨he,rfl,hs⟩|⟨he,z1,z2,fs,rfl,hfs,hs⟩
  ·refine zd (wp_lt ?_);refine z18 ?_ he;refine wp_lt ?_;rw [if_pos he];exact ⟨rfl,rfl,hsame hs⟩
  refine zd (wp_lt ?_);refine z06 ?_ (by simp);rw [if_neg (by rw [he];simp)];obtain ⟨hp1,hp2,hp3⟩:=hplo he
  have hbl0:0<bs.length:=by
   apply Nat.pos_of_ne_zero;intro h0;rw [h0] at hlxs;omega
  generalize hn0:zn M.l=n0 at *;generalize hPL:z05 n0 bs=PL at *;obtain ⟨e0,q⟩:=PL;have he:e0=0:=he;subst he;dsimp only at hp1 hp2 hp3 hfs hs ⊢;have hsum:=zto λb hb=>(hp2 b hb).1
  have hfsl:fs.length=q.length:=by have:=congrArg List.length hfs;simpa using this
  have hfl1:=hs.slen z2 (xs:=fs.map Prod.fst) (enc:=z0h);rw [List.length_map] at hfl1
  have hfget:∀ (i:Nat) (h:i<fs.length),fs[i].2=frL (q[i]'(by omega)):=λi h=>by
   have:=List.getElem_of_eq hfs (i:=i) (by rw [List.length_map];exact h);simpa using this
  have hfsum:∀ i,((q.take i).flatMap frL).length<=(q.flatMap frL).length:=λi=>by
   have:(q.flatMap frL)=(q.take i).flatMap frL++(q.drop i).flatMap frL:=by rw [<- List.flatMap_append,List.take_append_drop]
   rw [this,List.length_append];omega
  refine zj (λv w'=>v=(((q.flatMap frL).length:Int),())/\Sat w' (slc T.a0 7 z1 (q.flatMap z01)::slc T.a53 1 z2 ((fs.map Prod.fst).flatMap z0h)::HP.all (fs.map frP)::lgQ lg M::dk M.d D::r)) ?_ ?_
  ·refine z0a (λm v w=>∃ i:Nat,v=((((q.take i).flatMap frL).length:Int),((i:Int),()))/\i<=q.length/\q.length-i=m/\Sat w (slc T.a0 7 z1 (q.flatMap z01)::slc T.a53 1 z2 ((fs.map Prod.fst).flatMap z0h)::HP.all (fs.map frP)::lgQ lg M::dk M.d D::r)) q.length ⟨0,rfl,by omega,rfl,hs⟩ ?_;clear hs;rintro m _ w ⟨i,rfl,hi,hm,hs⟩;refine zh (zi (λhc=>?_) λhc=>?_);rotate_left
   ·refine zm (zg ⟨?_,hs⟩);rw [List.take_of_length_le (by omega)]
   have hil:i<q.length:=by omega
   have hil2:i<fs.length:=by omega
   refine z1g hs (xs:=fs.map Prod.fst) (enc:=z0h) i (by rw [List.length_map];omega) ?_
   have e1:(fs.map Prod.fst)[i]'(by rw [List.length_map];omega)=fs[i].1:=by simp
   rw [e1];have hR:FocR (HP.all (fs.map frP)::lgQ lg M::dk M.d D::r) fs[i].1 1 (fs[i].2.flatMap zk):=zia (List.getElem_mem hil2);have hl2:=hs.slen fs[i].1 (xs:=fs[i].2) (enc:=zk);rw [hfget i hil2] at hl2
   have hfi:((q.take (i+1)).flatMap frL).length=((q.take i).flatMap frL).length+(frL q[i]).length:=by
    rw [List.take_succ_eq_append_getElem hil,List.flatMap_append,List.length_append];simp
   have:=hfsum (i+1);rw [hl2,w64 (by omega) (by omega)];refine wp_lt ?_;rw [wS (i:=i) (by omega)]
   have ec:(((q.take i).flatMap frL).length:Int)+((frL q[i]).length:Nat)=(((q.take (i+1)).flatMap frL).length:Int):=by rw [hfi];omega
   rw [ec];exact z0x (q.length-(i+1)) ⟨i+1,rfl,by omega,rfl,hs⟩
  clear hs;rintro _ w ⟨rfl,hs⟩;refine zh (zb (ziu (lg:=lg) (by omega) hs) λ_ w' hs=>?_);obtain ⟨rfl,hs⟩:=hs;refine zd (zb (z0cc (lg:=lg) (q.flatMap frL).length (by omega) (by omega) (λs hs'=>by have:=hfl s hs';omega) hs) λ_ w' hs=>?_);obtain ⟨rfl,hs⟩:=hs;refine zd ?_;generalize hF:q.flatMap frL=Fr at *;have hbsl:fs.map Prod.snd=q.map frL:=hfs
  have hflat:(fs.map Prod.snd).flatten=Fr:=by rw [hfs,<- hF,List.flatMap]
  have hlbound:∀ p ∈ fs,p.2.length<=262152:=λp hp=>by
   obtain ⟨i,hi,rfl⟩:=List.mem_iff_getElem.1 hp;rw [hfget i hi];have:=z68 (hp2 _ (List.getElem_mem (show i<q.length by omega))).1;have:=z84 (hp2 _ (List.getElem_mem (show i<q.length by omega))).1;omega
  refine zj (λv w'=>∃ (M1:LogM) (SM0:List (Nat × SegM)) (a:Nat) (t:SegM) (D1:DiskA),v=(some ⟨a,0,none⟩,())/\M1.SM=SM0++[(a,t)]/\t.s.file.length<=600000000 /\
    (if z7z M.seg M.l Fr.length then
     if (z0b D (zx M.pre (z5v M.l) z08) Fr).1≠0 then ((0,(z0b D (zx M.pre (z5v M.l) z08) Fr).1),M.l,(z0b D (zx M.pre (z5v M.l) z08) Fr).2)
     else ((n0,(0:Int)),z7a M.l q,(z0b D (zx M.pre (z5v M.l) z08) Fr).2)
    else
     if (z0p M.pre M.l D).1≠0 then ((0,(z0p M.pre M.l D).1),M.l,(z0p M.pre M.l D).2) else
     if (z0b (z0p M.pre M.l D).2 (zx M.pre n0 z08) (shL n0 0++Fr)).1≠0 then ((0,(z0b (z0p M.pre M.l D).2 (zx M.pre n0 z08) (shL n0 0++Fr)).1),M.l,(z0b (z0p M.pre M.l D).2 (zx M.pre n0 z08) (shL n0 0++Fr)).2)
     else ((n0,0),M.l++[(⟨n0,0,[]⟩:SegA).add q],(z0b (z0p M.pre M.l D).2 (zx M.pre n0 z08) (shL n0 0++Fr)).2))=((n0,0),(SM0.map λt=>t.2.s)++[t.s.add q],D1) /\
    (M1.d=M.d/\M1.pre=M.pre/\M1.seg=M.seg/\M1.gap=M.gap) /\
    Sat w' (lgQ lg M1::dk M.d D1::slc T.a0 7 z1 (q.flatMap z01)::slc T.a53 1 z2 ((fs.map Prod.fst).flatMap z0h)::HP.all (fs.map frP)::r)) ?_ ?_
  ·refine zi (λhr=>?_) λhr=>?_
   ·
    have hr:z7z M.seg M.l Fr.length=false:=by simpa using hr
    rw [if_neg (by rw [hr];simp)];have hs:Sat w' (lgQ lg M::slc T.a0 7 z1 (q.flatMap z01)::slc T.a53 1 z2 ((fs.map Prod.fst).flatMap z0h)::HP.all (fs.map frP)::dk M.d D::r):=hs;refine zb (zuc (lg:=lg) (D:=D) (by omega) hok hs) λ_ w' hs=>?_;obtain ⟨rfl,hs⟩:=hs;refine zd (wp_lt ?_);refine zi (λh2=>?_) λh2=>?_
    ·refine wp_lt ?_;rw [if_pos h2];refine zm ⟨rfl,rfl,hsame hs.sub⟩
    rw [if_neg h2];generalize (z0p M.pre M.l D).2=D1 at *;refine zb (zcv (lg:=lg) (by omega) hs) λ_ w' hs=>?_;obtain ⟨rfl,hs⟩:=hs;refine zd ?_;rw [hn0];refine zb (zov (lg:=lg) n0 0 (by omega) (by omega) hs) λ_ w' hs=>?_;obtain ⟨a,ix,rfl,hs⟩:=hs;refine zd ?_;have hshl:=zkp n0 0;refine zj (λv w'=>v=((z0b D1 (zx M.pre n0 z08) (shL n0 0++Fr)).1,())/\Sat w' (z0t M.gap a ⟨ix,⟨n0,0,[]⟩⟩::lgQ lg M::dk M.d (z0b D1 (zx M.pre n0 z08) (shL n0 0++Fr)).2::slc T.a0 7 z1 (q.flatMap z01)::slc T.a53 1 z2 ((fs.map Prod.fst).flatMap z0h)::HP.all (fs.map frP)::r)) ?_ ?_
    ·obtain ⟨hokm,hs⟩:=z35 (hs.pick [1]);have hs:=z4i (hs.pick [3]);refine zt hs λw' hs=>zf (z0y hs ?_);refine zf (z8 hs ?_);refine zf (z0y hs ?_);refine zb (z99 (lg:=lg) n0 (by omega) (ByteArray.mk #[46,108,111,103]) (by decide) M.pre hokm.size hs) λ_ w' hs=>?_;obtain ⟨rfl,hs⟩:=hs;refine zd ?_ (by first|trivial|(repeat (first|exact trivial|exact λ_=>z09 hs|exact λ_=>z0g hs|refine And.intro ?_ ?_)));refine zb (zoe n0 0 (by omega) (by omega) hs) λ_ w' hs=>?_;obtain ⟨y,rfl,hs⟩:=hs;refine zd ?_ (by first|trivial|(repeat (first|exact trivial|exact λ_=>z09 hs|exact λ_=>z0g hs|refine And.intro ?_ ?_)))
     refine z7o hs (enc:=z0h) [y] λy2 w' hs=>⟨(by first|trivial|(repeat (first|exact trivial|exact λ_=>z09 hs|exact λ_=>z0g hs|refine And.intro ?_ ?_))),?_⟩
     refine z0bj (xs:=[y]) (ys:=fs.map Prod.fst) (enc:=z0h) hs (λy3 w' hs=>⟨(by first|trivial|(repeat (first|exact trivial|exact λ_=>z09 hs|exact λ_=>z0g hs|refine And.intro ?_ ?_))),?_⟩) (by rw [List.length_map];simp only [List.length_cons,List.length_nil];omega);refine ze ?_;have hs:Sat w' (dk M.d D1::slc T.a53 1 y3 (([y]++fs.map Prod.fst).flatMap z0h)::slc T.a63 1 y ((shL n0 0).flatMap zk)::HP.all (fs.map frP)::pt a (.cells #[.pointer (some ⟨ix,0,none⟩),.int .i64 n0,.int .i64 0,.int .i64 (z0s []),.int .i64 (z1o (-1) []),.int .i64 ((SegA.file ⟨n0,0,[]⟩).length:Nat)] T.a56)::z2s ix ((SegA.mk n0 0 []).idx M.gap)::pt lg (.cells #[.pointer (some ⟨M.d,0,none⟩),.string M.pre,.int .i64 M.seg,.int .i64 M.gap,.slice M.z.a M.z.len M.z.cap] T.a55)::slc T.a36 1 M.z ((M.SM.map Prod.fst).flatMap z1v)::HP.all (M.SM.map λt=>z0t M.gap t.1 t.2)::slc T.a0 7 z1 (q.flatMap z01)::slc T.a53 1 z2 ((fs.map Prod.fst).flatMap z0h)::r):=hs.sub
     have hall:∀ p ∈ ((y,shL n0 0)::fs),FocR (slc T.a53 1 y3 (([y]++fs.map Prod.fst).flatMap z0h)::slc T.a63 1 y ((shL n0 0).flatMap zk)::HP.all (fs.map frP)::pt a (.cells #[.pointer (some ⟨ix,0,none⟩),.int .i64 n0,.int .i64 0,.int .i64 (z0s []),.int .i64 (z1o (-1) []),.int .i64 ((SegA.file ⟨n0,0,[]⟩).length:Nat)] T.a56)::z2s ix ((SegA.mk n0 0 []).idx M.gap)::pt lg (.cells #[.pointer (some ⟨M.d,0,none⟩),.string M.pre,.int .i64 M.seg,.int .i64 M.gap,.slice M.z.a M.z.len M.z.cap] T.a55)::slc T.a36 1 M.z ((M.SM.map Prod.fst).flatMap z1v)::HP.all (M.SM.map λt=>z0t M.gap t.1 t.2)::slc T.a0 7 z1 (q.flatMap z01)::slc T.a53 1 z2 ((fs.map Prod.fst).flatMap z0h)::r) p.1 1 (p.2.flatMap zk):=λp hp=>by
      rcases List.mem_cons.1 hp with rfl|hp
      ·infer_instance
      ·have:FocR (HP.all (fs.map frP)::pt a (.cells #[.pointer (some ⟨ix,0,none⟩),.int .i64 n0,.int .i64 0,.int .i64 (z0s []),.int .i64 (z1o (-1) []),.int .i64 ((SegA.file ⟨n0,0,[]⟩).length:Nat)] T.a56)::z2s ix ((SegA.mk n0 0 []).idx M.gap)::pt lg (.cells #[.pointer (some ⟨M.d,0,none⟩),.string M.pre,.int .i64 M.seg,.int .i64 M.gap,.slice M.z.a M.z.len M.z.cap] T.a55)::slc T.a36 1 M.z ((M.SM.map Prod.fst).flatMap z1v)::HP.all (M.SM.map λt=>z0t M.gap t.1 t.2)::slc T.a0 7 z1 (q.flatMap z01)::slc T.a53 1 z2 ((fs.map Prod.fst).flatMap z0h)::r) p.1 1 (p.2.flatMap zk):=zia hp
       infer_instance
     have hpsF:FocR (slc T.a53 1 y3 (([y]++fs.map Prod.fst).flatMap z0h)::slc T.a63 1 y ((shL n0 0).flatMap zk)::HP.all (fs.map frP)::pt a (.cells #[.pointer (some ⟨ix,0,none⟩),.int .i64 n0,.int .i64 0,.int .i64 (z0s []),.int .i64 (z1o (-1) []),.int .i64 ((SegA.file ⟨n0,0,[]⟩).length:Nat)] T.a56)::z2s ix ((SegA.mk n0 0 []).idx M.gap)::pt lg (.cells #[.pointer (some ⟨M.d,0,none⟩),.string M.pre,.int .i64 M.seg,.int .i64 M.gap,.slice M.z.a M.z.len M.z.cap] T.a55)::slc T.a36 1 M.z ((M.SM.map Prod.fst).flatMap z1v)::HP.all (M.SM.map λt=>z0t M.gap t.1 t.2)::slc T.a0 7 z1 (q.flatMap z01)::slc T.a53 1 z2 ((fs.map Prod.fst).flatMap z0h)::r) y3 1 ((((y,shL n0 0)::fs).map Prod.fst).flatMap zhe):=(inferInstance:FocR _ y3 1 (([y]++fs.map Prod.fst).flatMap z0h))
     refine zb (znp (d:=M.d) (A:=D1) (zx M.pre n0 (bl (ByteArray.mk #[46,108,111,103]))) y3 (((y,shL n0 0)::fs).map Prod.fst) (((y,shL n0 0)::fs).map Prod.snd) (hps:=hpsF) (zpa hall) (by simp only [List.length_map,List.length_cons];omega) (λb hb=>?_) hs) λ_ w' hs=>?_
     ·obtain ⟨p,hp,rfl⟩:=List.mem_map.1 hb
      rcases List.mem_cons.1 hp with rfl|hp
      ·show (shL n0 0).length<=_;omega
      ·have:=hlbound p hp;omega
     obtain ⟨rfl,hs⟩:=hs;refine zd (wp_lt ?_);refine ze ?_
     have e2:(((y,shL n0 0)::fs).map Prod.snd).flatten=shL n0 0++Fr:=by rw [List.map_cons,List.flatten_cons,hflat]
     rw [e2] at hs ⊢;refine zg ⟨rfl,?_⟩;have hs:Sat w' (dk M.d (z0b D1 (zx M.pre n0 z08) (shL n0 0++Fr)).2::slc T.a53 1 y3 _::slc T.a63 1 y _::HP.all (fs.map frP)::pt a _::z2s ix _::pt lg _::slc T.a36 1 M.z _::HP.all (M.SM.map λt=>z0t M.gap t.1 t.2)::slc T.a0 7 z1 (q.flatMap z01)::slc T.a53 1 z2 ((fs.map Prod.fst).flatMap z0h)::r):=hs;have hs:=z1t M hokm (hs.pick [6,6,6]);have hs:Sat w' (z0t M.gap a ⟨ix,⟨n0,0,[]⟩⟩::lgQ lg M::dk M.d _::slc T.a53 1 y3 _::slc T.a63 1 y _::HP.all (fs.map frP)::slc T.a0 7 z1 (q.flatMap z01)::slc T.a53 1 z2 ((fs.map Prod.fst).flatMap z0h)::r):=z30 ⟨ix,⟨n0,0,[]⟩⟩ (hs.pick [5,5]);exact hs.sub
    rintro _ w2 ⟨rfl,hs⟩;refine zi (λh3=>?_) λh3=>?_
    ·refine wp_lt ?_;rw [if_pos h3];refine zm ⟨rfl,rfl,hsame hs.sub⟩
    rw [if_neg h3];have hs:=hs.pick [1];refine zb (z06m (lg:=lg) a ⟨ix,⟨n0,0,[]⟩⟩ (by omega) hs) λ_ w' hs=>?_;obtain ⟨z,rfl,hs⟩:=hs;refine zd (zg ⟨{ M with z:=z,SM:=M.SM++[(a,⟨ix,⟨n0,0,[]⟩⟩)] },M.SM,a,⟨ix,⟨n0,0,[]⟩⟩,(z0b D1 (zx M.pre n0 z08) (shL n0 0++Fr)).2,rfl,rfl,?_,rfl,⟨rfl,rfl,rfl,rfl⟩,hs⟩);rw [z4h];simp only [List.flatMap_nil,List.length_nil];omega
   ·
    have hr:z7z M.seg M.l Fr.length=true:=by simpa using hr
    rw [if_pos hr]
    have h0:M.SM≠[]:=by
     intro h0
     have:M.l=[]:=by unfold LogM.l;rw [h0];rfl
     rw [this] at hr;cases hr
    obtain ⟨SM0,⟨a,t⟩,hSM⟩:=z6b h0
    have hl1:M.l=SM0.map (λt=>t.2.s)++[t.s]:=by unfold LogM.l;rw [hSM];simp
    have hbase:z5v M.l=t.s.base:=by unfold z5v;rw [hl1,z25]
    have hadd:z7a M.l q=SM0.map (λt=>t.2.s)++[t.s.add q]:=by unfold z7a;rw [hl1,z25];simp
    have hlst:M.SM.getLast? = some (a,t):=by rw [hSM,z25]
    rw [hlst]
    have htm:t.s ∈ M.l:=by rw [hl1];simp
    have htb:=(hok.mem _ htm).1.base;have htf:=hfl _ htm;refine zj (λv w'=>v=((z0b D (zx M.pre (z5v M.l) z08) Fr).1,())/\Sat w' (lgQ lg M::dk M.d (z0b D (zx M.pre (z5v M.l) z08) Fr).2::slc T.a0 7 z1 (q.flatMap z01)::slc T.a53 1 z2 ((fs.map Prod.fst).flatMap z0h)::HP.all (fs.map frP)::r)) ?_ ?_
    ·obtain ⟨hokm,hs⟩:=zeb hSM hs;have hs:=z4i hs;refine zt hs λw' hs=>zf (z0y hs ?_);refine zf (z8 hs ?_);refine zb (z99 (lg:=lg) t.s.base (by omega) (ByteArray.mk #[46,108,111,103]) (by decide) M.pre hokm.size hs) λ_ w' hs=>?_;obtain ⟨rfl,hs⟩:=hs;refine zd ?_ (by first|trivial|(repeat (first|exact trivial|exact λ_=>z09 hs|exact λ_=>z0g hs|refine And.intro ?_ ?_)));refine ze ?_;have hs:=hs.pick [8]
     have hall:∀ p ∈ fs,FocR (pt a (.cells #[.pointer (some ⟨t.ix,0,none⟩),.int .i64 t.s.base,.int .i64 t.s.fin,.int .i64 (z0s t.s.bs),.int .i64 (z1o (-1) t.s.bs),.int .i64 (t.s.file.length:Nat)] T.a56)::z2s t.ix (t.s.idx M.gap)::pt lg (.cells #[.pointer (some ⟨M.d,0,none⟩),.string M.pre,.int .i64 M.seg,.int .i64 M.gap,.slice M.z.a M.z.len M.z.cap] T.a55)::slc T.a36 1 M.z ((SM0.map Prod.fst++[a]).flatMap z1v)::HP.all (SM0.map λt=>z0t M.gap t.1 t.2)::slc T.a0 7 z1 (q.flatMap z01)::slc T.a53 1 z2 ((fs.map Prod.fst).flatMap z0h)::HP.all (fs.map frP)::r) p.1 1 (p.2.flatMap zk):=λp hp=>by
      have:FocR (HP.all (fs.map frP)::r) p.1 1 (p.2.flatMap zk):=zia hp
      infer_instance
     have hpsF:FocR (pt a (.cells #[.pointer (some ⟨t.ix,0,none⟩),.int .i64 t.s.base,.int .i64 t.s.fin,.int .i64 (z0s t.s.bs),.int .i64 (z1o (-1) t.s.bs),.int .i64 (t.s.file.length:Nat)] T.a56)::z2s t.ix (t.s.idx M.gap)::pt lg (.cells #[.pointer (some ⟨M.d,0,none⟩),.string M.pre,.int .i64 M.seg,.int .i64 M.gap,.slice M.z.a M.z.len M.z.cap] T.a55)::slc T.a36 1 M.z ((SM0.map Prod.fst++[a]).flatMap z1v)::HP.all (SM0.map λt=>z0t M.gap t.1 t.2)::slc T.a0 7 z1 (q.flatMap z01)::slc T.a53 1 z2 ((fs.map Prod.fst).flatMap z0h)::HP.all (fs.map frP)::r) z2 1 ((fs.map Prod.fst).flatMap zhe):=(inferInstance:FocR _ z2 1 ((fs.map Prod.fst).flatMap z0h))
     refine zb (znp (d:=M.d) (A:=D) (zx M.pre t.s.base (bl (ByteArray.mk #[46,108,111,103]))) z2 (fs.map Prod.fst) (fs.map Prod.snd) (hps:=hpsF) (zpa hall) (by simp only [List.length_map];omega) (λb hb=>?_) hs) λ_ w' hs=>?_
     ·obtain ⟨p,hp,rfl⟩:=List.mem_map.1 hb;have:=hlbound p hp;omega
     obtain ⟨rfl,hs⟩:=hs;refine zd (wp_lt ?_);refine ze ?_;rw [hflat] at hs ⊢;refine zg ⟨by rw [hbase];rfl,?_⟩;rw [hbase];have hs:Sat w' (dk M.d (z0b D (zx M.pre t.s.base z08) Fr).2::pt a _::z2s t.ix _::pt lg _::slc T.a36 1 M.z _::HP.all (SM0.map λt=>z0t M.gap t.1 t.2)::slc T.a0 7 z1 (q.flatMap z01)::slc T.a53 1 z2 ((fs.map Prod.fst).flatMap z0h)::HP.all (fs.map frP)::r):=hs;have hs:=zcu M hokm (z30 t (hs.pick [1,1]) |>.pick [0,1,1,1])
     have e:{ M with SM:=SM0++[(a,t)] }=M:=by rw [<- hSM]
     rw [e] at hs;exact hs.sub
    rintro _ w2 ⟨rfl,hs⟩;refine zi (λh3=>?_) λh3=>?_
    ·refine wp_lt ?_;rw [if_pos h3];refine zm ⟨rfl,rfl,hsame hs.sub⟩
    rw [if_neg h3];refine zg ⟨M,SM0,a,t,(z0b D (zx M.pre (z5v M.l) z08) Fr).2,rfl,hSM,by omega,by rw [hadd],⟨rfl,rfl,rfl,rfl⟩,hs⟩
  rintro _ w2 ⟨M1,SM0,a,t,D1,rfl,hSM,htl,hres,⟨hd1,hd2,hd3,hd4⟩,hs⟩;clear hsame;rw [hres];obtain ⟨hokm,hs⟩:=zeb hSM hs;have hF2:∀ i,((q.take i).flatMap frL).length<=Fr.length:=hfsum;have hlq:=hs.slen z1 (xs:=q) (enc:=z01);refine zj (λ_ w'=>Sat w' (z0t M1.gap a ⟨t.ix,t.s.add q⟩::pt lg (.cells #[.pointer (some ⟨M1.d,0,none⟩),.string M1.pre,.int .i64 M1.seg,.int .i64 M1.gap,.slice M1.z.a M1.z.len M1.z.cap] T.a55)::slc T.a36 1 M1.z ((SM0.map Prod.fst++[a]).flatMap z1v)::HP.all (SM0.map λt=>z0t M1.gap t.1 t.2)::dk M.d D1::slc T.a0 7 z1 (q.flatMap z01)::slc T.a53 1 z2 ((fs.map Prod.fst).flatMap z0h)::HP.all (fs.map frP)::r)) ?_ ?_
  ·refine z0a (λm v w=>∃ i:Nat,v=((i:Int),())/\i<=q.length/\q.length-i=m/\Sat w (z0t M1.gap a ⟨t.ix,t.s.add (q.take i)⟩::pt lg (.cells #[.pointer (some ⟨M1.d,0,none⟩),.string M1.pre,.int .i64 M1.seg,.int .i64 M1.gap,.slice M1.z.a M1.z.len M1.z.cap] T.a55)::slc T.a36 1 M1.z ((SM0.map Prod.fst++[a]).flatMap z1v)::HP.all (SM0.map λt=>z0t M1.gap t.1 t.2)::dk M.d D1::slc T.a0 7 z1 (q.flatMap z01)::slc T.a53 1 z2 ((fs.map Prod.fst).flatMap z0h)::HP.all (fs.map frP)::r)) q.length ⟨0,rfl,by omega,rfl,by rw [List.take_zero,zjw];exact hs⟩ ?_;clear hs;rintro m _ w ⟨i,rfl,hi,hm,hs⟩;refine zh (zi (λhc=>?_) λhc=>?_);rotate_left
   ·refine zm (zg ?_)
    rwa [List.take_of_length_le (by omega)] at hs
   have hil:i<q.length:=by omega
   have hil2:i<fs.length:=by omega
   refine z5b hs (xs:=q) (enc:=z01) i hil (zu hs λc w' hs=>?_);refine wp_lt (zv hs λw' hs=>?_);refine zt hs λw' hs=>zl hs (z1g hs (xs:=fs.map Prod.fst) (enc:=z0h) i (by rw [List.length_map];omega) ?_)
   have e1:(fs.map Prod.fst)[i]'(by rw [List.length_map];omega)=fs[i].1:=by simp
   rw [e1];have hR:FocR (HP.all (fs.map frP)::r) fs[i].1 1 (fs[i].2.flatMap zk):=zia (List.getElem_mem hil2);have hl2:=hs.slen fs[i].1 (xs:=fs[i].2) (enc:=zk);rw [hfget i hil2] at hl2;rw [hl2];obtain ⟨hvq,c0,hc0,hcx,hcr⟩:=hp2 q[i] (List.getElem_mem hil)
   have hRb:FocR r q[i].x 4 (q[i].rs.flatMap z0f):=by rw [hcx,hcr];exact hbs c0 hc0
   have hfi:((q.take (i+1)).flatMap frL).length=((q.take i).flatMap frL).length+(frL q[i]).length:=by
    rw [List.take_succ_eq_append_getElem hil,List.flatMap_append,List.length_append];simp
   have:=hF2 (i+1);refine zb (z029 (gap:=M1.gap) (a:=a) q[i] hvq (by show (t.s.add (q.take i)).file.length+_<=_;rw [z95,List.length_append];omega) hs) λ_ w' hs=>?_;obtain ⟨rfl,hs⟩:=hs;refine zd (ze ?_);rw [wS (i:=i) (by omega)];refine z0x (q.length-(i+1)) ⟨i+1,rfl,by omega,rfl,?_⟩
   have e2:(t.s.add (q.take i)).add [q[i]]=t.s.add (q.take (i+1)):=by rw [zti,List.take_succ_eq_append_getElem hil]
   have hs:Sat w' (z0t M1.gap a ⟨t.ix,(t.s.add (q.take i)).add [q[i]]⟩::_):=hs;rw [e2] at hs;exact hs.sub
  clear hs;rintro _ w3 hs;refine zh (z0bl hs (xs:=q) (enc:=z01) 0 (by omega) ?_);refine wp_lt ?_;have hq0:(q[0]'(by omega)).base=n0:=hp3 _ (by rw [List.head?_eq_getElem?,List.getElem?_eq_getElem]);rw [hq0];refine ⟨rfl,rfl,?_⟩;have hs:=z50 _ (zcu M1 hokm hs)
  have eA:LogM.A { M1 with SM:=SM0++[(a,(⟨t.ix,t.s.add q⟩:SegM))] }=M.A.set ((SM0.map λt=>t.2.s)++[t.s.add q]):=by
   unfold LogM.A LogM.l LogA.set;simp only [List.map_append,List.map_cons,List.map_nil,hd1,hd2,hd3,hd4]
  rw [eA] at hs;exact hs.sub
end
def z3d (s:SegA) (k:Nat):Nat:=(shL s.base s.fin).length+((s.bs.take k).flatMap frL).length
def z0e (l:List SegA):List BatM:=l.flatMap SegA.bs
def z5h (l:List SegA) (off most:Int):Int × List BatM:=if most<1 then (2,[]) else if off<z19 l\/off>zn l then (8,[]) else (0,((z0e l).filterMap (z0w off)).take most.toNat)
def z01i (s:SegA) (o:Option EntA):Int:=match o with
 | none=>((shL s.base s.fin).length:Int)
 | some e=>e.place
theorem z01j (s:SegA):z3d s 0=(shL s.base s.fin).length:=by simp [z3d]
theorem z04u (s:SegA):z3d s s.bs.length=s.file.length:=by unfold z3d;rw [List.take_length,z4h]
theorem zm9 (s:SegA) {k:Nat} (hk:k<s.bs.length):z3d s (k+1)=z3d s k+(frL s.bs[k]).length:=by
 unfold z3d;rw [List.take_succ_eq_append_getElem hk,List.flatMap_append,List.length_append];simp;omega
theorem zki (s:SegA) (k:Nat):z3d s k<=s.file.length:=by
 unfold z3d;rw [z4h]
 have:(s.bs.flatMap frL)=(s.bs.take k).flatMap frL++(s.bs.drop k).flatMap frL:=by rw [<- List.flatMap_append,List.take_append_drop]
 rw [this,List.length_append];omega
theorem z00g (s:SegA) (k:Nat):s.file.drop (z3d s k)=(s.bs.drop k).flatMap frL:=by
 have e:s.file=(shL s.base s.fin++(s.bs.take k).flatMap frL)++(s.bs.drop k).flatMap frL:=by
  unfold SegA.file;rw [List.append_assoc,<- List.flatMap_append,List.take_append_drop]
 rw [e];exact List.drop_left' (by rw [List.length_append];rfl)
theorem zvz {s:SegA} (h:SegOk s) {k:Nat} (hk:k<s.bs.length):z1c (s.file.drop (z3d s k))=some (z2y s.bs[k],(frL s.bs[k]).length)/\z6r (z2y s.bs[k])=some s.bs[k]:=by
 obtain ⟨hv,hp⟩:=h.bs.valid s.bs[k] (List.getElem_mem hk);have hl:=z84 hv;have hf:=z68 hv;refine ⟨?_,by rw [zlb hv,hp]⟩;rw [z00g,List.drop_eq_getElem_cons hk,List.flatMap_cons,hf.2];exact zaa hl.2 _
theorem z21.lt:∀ {n:Int} {bs:List BatM},z21 n bs->∀ (j i:Nat) (hi:i<bs.length) (hj:j<i),n<=(bs[j]'(by omega)).base/\(bs[j]'(by omega)).base+zo (bs[j]'(by omega))<=bs[i].base
 | n,b::bs,⟨h1,h2,h3,h4⟩,0,i+1,hi,hj=>by
  refine ⟨h3,?_⟩;simp only [List.getElem_cons_zero,List.getElem_cons_succ]
  have hi:i<bs.length:=by simpa using hi
  obtain ⟨s1,-,-,-,-⟩:=z1d b h1
  cases i with
  | zero =>
   cases bs with
   | nil=>simp at hi
   | cons c cs=>exact h4.2.2.1
  | succ i =>
   have:=(h4.lt 0 (i+1) hi (by omega)).1;have h5:=(h4.lt 0 (i+1) hi (by omega)).2;obtain ⟨s2,-,-,-,-⟩:=z1d _ (h4.valid _ (List.getElem_mem (show 0<bs.length by omega))).1;omega
 | n,b::bs,⟨h1,h2,h3,h4⟩,j+1,i+1,hi,hj=>by
  simp only [List.getElem_cons_succ]
  have hi:i<bs.length:=by simpa using hi
  have:=h4.lt j i hi (by omega);obtain ⟨s1,-,-,-,-⟩:=z1d b h1;exact ⟨by omega,this.2⟩
theorem z21.le_next {n:Int} {bs:List BatM} (h:z21 n bs) {b:BatM} (hb:b ∈ bs):b.base+zo b<=z0s bs:=by
 obtain ⟨j,hj,rfl⟩:=List.mem_iff_getElem.1 hb
 have hne:bs≠[]:=by rintro rfl;simp at hj
 have e:z0s bs=(bs[bs.length-1]'(by omega)).base+zo (bs[bs.length-1]'(by omega)):=by
  unfold z0s;rw [List.getLast?_eq_getElem?,List.getElem?_eq_getElem (by omega)]
 rw [e]
 by_cases hjl:j=bs.length-1
 ·subst hjl;exact Int.le_refl _
 ·have:=(h.lt j (bs.length-1) (by omega) (by omega)).2;obtain ⟨s1,-,-,-,-⟩:=z1d _ (h.valid _ (List.getElem_mem (show bs.length-1<bs.length by omega))).1;omega
theorem ziq {off:Int} {b:BatM} (hv:z02 b=0) (h:b.base+zo b<=off):z0w off b=none:=by
 unfold z0w;rw [if_pos (.inr (by unfold z1u;rw [if_neg (by rw [hv];simp)];exact h))]
theorem ztx {off:Int} {b c:BatM} (hp:b.p=b) (h:z0w off b=some c):c.p=c:=by
 have hx:b.x=z9b:=by rw [<- hp];rfl
 unfold z0w at h;split at h
 ·cases h
 ·split at h
  ·simp only [Option.some.injEq] at h;subst h;exact hp
  ·simp only [Option.some.injEq] at h;subst h;unfold zn8 BatM.p;simp only [hx];rfl
theorem zco {α β:Type} {f:α->Option β} {l:List α} (h:∀ x ∈ l,f x=none):l.filterMap f=[]:=by
 rw [List.filterMap_eq_nil_iff];exact h
theorem z00i {s:SegA} (h:SegOk s) (hl:s.file.length<=4194304) (gap off:Int):∃ k,k<=s.bs.length/\z01i s (z3l (s.idx gap).l off)=((z3d s k:Nat):Int)/\∀ b ∈ s.bs.take k,b.base+zo b<=off:=by
 have hi:=zoh gap s.bs.length (n:=s.base) (q:=(shL s.base s.fin).length) rfl h.base.1 (by omega) h.bs (by have:=z4h s;omega)
 cases hf:z3l (s.idx gap).l off with
 | none=>exact ⟨0,Nat.zero_le _,by rw [z01j];rfl,by simp⟩
 | some e =>
  unfold z3l at hf;obtain ⟨a,c,hac,he,-⟩:=zqb hf
  have he:e.offset<=off:=by simpa using he
  obtain ⟨i,hil,hie⟩:=hi.ent e (by show e ∈ (s.idx gap).l;rw [hac];simp);refine ⟨i,by omega,?_,λb hb=>?_⟩
  ·show e.place=_;rw [hie];unfold z3d;simp only;omega
  ·obtain ⟨j,hj,rfl⟩:=List.mem_iff_getElem.1 hb;rw [List.length_take] at hj;rw [List.getElem_take];have:=(h.bs.lt j i hil (by omega)).2;rw [hie] at he;simp only at he;omega
theorem z15.skip:∀ {n:Int} {l:List SegA},z15 n l->∀ (i j:Nat) (hj:j<l.length) (hi:i<j),(l[i]'(by omega)).reach<=l[j].base/\(l[i]'(by omega)).base<l[j].base
 | n,s::l,⟨h1,h2,h3⟩,0,j+1,hj,_=>by
  have hj:j<l.length:=by simpa using hj
  have:=(h3.mem l[j] (List.getElem_mem hj)).2;simp only [List.getElem_cons_zero,List.getElem_cons_succ];omega
 | n,s::l,⟨h1,h2,h3⟩,i+1,j+1,hj,hi=>by
  simp only [List.getElem_cons_succ];exact h3.skip i j (by simpa using hj) (by omega)
theorem z05g {l:List SegA} (hok:z15 0 l) {off:Int} {i:Nat} (hi:i<l.length) (hb:l[i].base<=off\/i=0):(z0e l).filterMap (z0w off)=(z0e (l.drop i)).filterMap (z0w off):=by
 have e:z0e l=z0e (l.take i)++z0e (l.drop i):=by unfold z0e;rw [<- List.flatMap_append,List.take_append_drop]
 rw [e,List.filterMap_append,zco (l:=z0e (l.take i)),List.nil_append];intro b hb';obtain ⟨s,hs,hbs⟩:=List.mem_flatMap.1 hb';obtain ⟨j,hj,rfl⟩:=List.mem_iff_getElem.1 hs;rw [List.length_take] at hj;rw [List.getElem_take] at hbs;have h1:=(hok.skip j i hi (by omega)).1;have hsg:=(hok.mem (l[j]'(by omega)) (List.getElem_mem _)).1;have h2:=hsg.bs.le_next hbs;have h3:=(z74 hsg).2.2.1;refine ziq (hsg.bs.valid b hbs).1 ?_
 rcases hb with hb|hb
 ·omega
 ·omega
theorem zk4 {s:SegA} (h:SegOk s):s.bs.length*10<=s.file.length:=by
 have:=zb1 h.bs;rw [z4h];omega
def z13 (pre:ByteArray):List ByteArray->DiskA->Int × List Int × DiskA
 | [],D=>(0,[],D)
 | n::ns,D=>if (z1m pre n z9a).isSome=true/\(z2c D n).1≠0 then ((z2c D n).1,[],(z2c D n).2) else
  ((z13 pre ns (if (z1m pre n z9a).isSome then (z2c D n).2 else D)).1,(match z1m pre n z08 with|some b=>[(b:Int)]|none=>[])++(z13 pre ns (if (z1m pre n z9a).isSome then (z2c D n).2 else D)).2.1,(z13 pre ns (if (z1m pre n z9a).isSome then (z2c D n).2 else D)).2.2)
def z7b (pre:ByteArray):List Int->DiskA->Int × DiskA
 | [],D=>(0,D)
 | b::bs,D=>if (z2c D (zx pre b z08)).1≠0 then z2c D (zx pre b z08) else z7b pre bs (z2c D (zx pre b z08)).2
def z2j (pre:ByteArray) (l:List SegA) (D:DiskA) (base:Int):(Bool × Int) × List SegA × DiskA:=match z0r D.fs (zx pre base z08) with
 | none=>((false,3),l,D)
 | some p=>match z6l base p.1 with
  | none=>((false,(z2c D (zx pre base z08)).1),l,(z2c D (zx pre base z08)).2)
  | some q=>if q.2=p.1.length then ((true,0),l++[q.1],D) else ((false,(cutA' D (zx pre base z08) (q.2:Nat)).1),l++[q.1],(cutA' D (zx pre base z08) (q.2:Nat)).2)
def z4b (pre:ByteArray):List Int->List SegA->DiskA->Int × List SegA × DiskA
 | [],l,D=>(0,l,D)
 | b::bs,l,D=>if b<zn l then (if (z2c D (zx pre b z08)).1≠0 then ((z2c D (zx pre b z08)).1,l,(z2c D (zx pre b z08)).2) else z4b pre bs l (z2c D (zx pre b z08)).2) else
  if (z2j pre l D b).1.2≠0 then ((z2j pre l D b).1.2,(z2j pre l D b).2) else
  if (z2j pre l D b).1.1=true then z4b pre bs (z2j pre l D b).2.1 (z2j pre l D b).2.2 else ((z7b pre bs (z2j pre l D b).2.2).1,(z2j pre l D b).2.1,(z7b pre bs (z2j pre l D b).2.2).2)
def z7s (pre:ByteArray) (D:DiskA):Int × List SegA × DiskA :=
 if (z13 pre (z17 (z1n pre) D.fs) D).1≠0 then ((z13 pre (z17 (z1n pre) D.fs) D).1,[],(z13 pre (z17 (z1n pre) D.fs) D).2.2) else
  z4b pre (z13 pre (z17 (z1n pre) D.fs) D).2.1 [] (z13 pre (z17 (z1n pre) D.fs) D).2.2
theorem z09n (pre:ByteArray):pre++ByteArray.mk #[45]=z1n pre:=by
 apply zcl;rw [zjx];unfold bl;simp
theorem z031 {pre n:ByteArray} {x:List UInt8} {v:Nat} (h:z1m pre n x=some v):v<17592186044416:=by
 unfold z1m at h;split at h
 ·have:=zk9 (k:=0) h (by omega);have h2:16 ^ (0+(((bl n).drop ((bl pre).length+1)).take 11).length)<=16 ^ 11:=Nat.pow_le_pow_right (by omega) (by rw [List.length_take];omega);omega
 ·cases h
theorem zlj {pre:ByteArray}:∀ {ns:List ByteArray} {D:DiskA},∀ b ∈ (z13 pre ns D).2.1,0<=b/\b<17592186044416
 | [],D,b,h=>by cases h
 | n::ns,D,b,h=>by
  unfold z13 at h;split at h
  ·cases h
  ·simp only at h
   rcases List.mem_append.1 h with h|h
   ·cases hb:z1m pre n z08 with
    | none=>rw [hb] at h;cases h
    | some v =>
     rw [hb] at h;simp only [List.mem_cons,List.not_mem_nil,or_false] at h;have:=z031 hb;omega
   ·exact zlj b h
theorem zim {pre:ByteArray}:∀ {ns:List ByteArray} {D:DiskA},(z13 pre ns D).2.1.length<=ns.length
 | [],D=>Nat.le_refl _
 | n::ns,D=>by
  unfold z13;split
  ·exact Nat.zero_le _
  ·simp only [List.length_append,List.length_cons];have:=zim (pre:=pre) (ns:=ns) (D:=if (z1m pre n z9a).isSome then (z2c D n).2 else D);split <;> simp <;> omega
section
variable {w:World} {l r:List HP} {lg:Nat} {M:LogM} {A:LogA} {D:DiskA} {gap:Int} {a:Nat} {t:SegM}
def lgR (M:LogM):HP:=HP.star (slc T.a36 1 M.z ((M.SM.map Prod.fst).flatMap z1v)) (HP.all (M.SM.map λt=>z0t M.gap t.1 t.2))
theorem zb7 (hs:Sat w (lgQ lg M::l)):okM M.gap M.seg M.pre/\Sat w (pt lg (.cells #[.pointer (some ⟨M.d,0,none⟩),.string M.pre,.int .i64 M.seg,.int .i64 M.gap,.slice M.z.a M.z.len M.z.cap] T.a55)::lgR M::l):=by
 obtain ⟨h,hs⟩:=hs.and;exact ⟨h,hs.star⟩
theorem z52 (M:LogM) (h:okM M.gap M.seg M.pre) (hs:Sat w (pt lg (.cells #[.pointer (some ⟨M.d,0,none⟩),.string M.pre,.int .i64 M.seg,.int .i64 M.gap,.slice M.z.a M.z.len M.z.cap] T.a55)::lgR M::l)):Sat w (lgQ lg M::l):=.and_mk h (.star_mk hs)
theorem z09u {r1:List HP} [hf:Fo l lgQ lg M r1] [hf2:Fo r1 dk M.d D r] (hs:Sat w l) :
  Ret P F.a116 #[.pointer (some ⟨lg,0,none⟩)] w λvs w' =>
   ((z13 M.pre (z17 (z1n M.pre) D.fs) D).1≠0/\vs=[.slice none 0 0,.int .i64 (z13 M.pre (z17 (z1n M.pre) D.fs) D).1]/\Sat w' (lgQ lg M::dk M.d (z13 M.pre (z17 (z1n M.pre) D.fs) D).2.2::r)) \/
   ((z13 M.pre (z17 (z1n M.pre) D.fs) D).1=0/\∃ z:Sl,vs=[z.v,.int .i64 0]/\Sat w' (slc T.a14 1 z ((z13 M.pre (z17 (z1n M.pre) D.fs) D).2.1.flatMap encI)::lgQ lg M::dk M.d (z13 M.pre (z17 (z1n M.pre) D.fs) D).2.2::r)) :=
 zr6 _ <| by
  delta z075 AC AE AF AO Aa Ab Ac Ad Aj Ak Al Am Ao Av Az Bc Bd Be Bf Bq Br;have hs:=hs.perm (hf.perm.trans (.cons _ hf2.perm));clear hf hf2;obtain ⟨hokm,hs⟩:=zb7 hs;have hsz:=hokm.size;refine zt hs λw' hs=>zf (z8 hs ?_);refine zf (z8 hs ?_);refine wp_must (by omega) ?_;rw [z09n];obtain ⟨m_,FS_,-,hokD,-⟩:=z2h (hs.pick [2])
  have hok24:∀ n ∈ z17 (z1n M.pre) D.fs,n.size<=24:=λn hn=>by
   unfold z17 at hn;obtain ⟨f,hf,rfl⟩:=List.mem_map.1 (List.mem_filter.1 hn).1;exact hokD.names f hf
  have hnl:(z17 (z1n M.pre) D.fs).length<=128:=by
   unfold z17;exact Nat.le_trans (List.length_filter_le _ _) (by rw [List.length_map];exact hokD.many)
  refine zb (zuh (d:=M.d) (A:=D) (z1n M.pre) hs) λ_ w' hs=>?_;obtain ⟨x,rfl,hs⟩:=hs;refine zd (ze ?_);generalize z17 (z1n M.pre) D.fs=ns at *;have hl:=hs.slen x (xs:=ns) (enc:=z2m);refine zj (λq w'=>∃ z:Sl,q=(z,())/\(z13 M.pre ns D).1=0/\Sat w' (slc T.a14 1 z ((z13 M.pre ns D).2.1.flatMap encI)::lgQ lg M::dk M.d (z13 M.pre ns D).2.2::r)) ?_ ?_;rotate_left
  ·rintro _ w2 ⟨z,rfl,h1,hs⟩;exact ⟨rfl,.inr ⟨h1,z,rfl,hs⟩⟩
  have hs:Sat w' (slc T.a14 1 ⟨none,0,0⟩ (([]:List Int).flatMap encI)::dk M.d D::pt lg (.cells #[.pointer (some ⟨M.d,0,none⟩),.string M.pre,.int .i64 M.seg,.int .i64 M.gap,.slice M.z.a M.z.len M.z.cap] T.a55)::lgR M::slc T.a57 1 x (ns.flatMap z2m)::r):=by
   have h1:Sat w' (slc T.a14 1 ⟨none,0,0⟩ (([]:List Int).flatMap encI)::_):=hs.slc_nil;exact h1.sub
  refine z0a (λm v w=>∃ (i:Nat) (z:Sl) (done:List Int) (D':DiskA),v=(z,((i:Int),()))/\i<=ns.length/\ns.length-i=m/\done.length<=i /\
   ((z13 M.pre ns D).1=(z13 M.pre (ns.drop i) D').1/\(z13 M.pre ns D).2.2=(z13 M.pre (ns.drop i) D').2.2/\((z13 M.pre (ns.drop i) D').1=0->(z13 M.pre ns D).2.1=done++(z13 M.pre (ns.drop i) D').2.1)) /\
   Sat w (slc T.a14 1 z (done.flatMap encI)::dk M.d D'::pt lg (.cells #[.pointer (some ⟨M.d,0,none⟩),.string M.pre,.int .i64 M.seg,.int .i64 M.gap,.slice M.z.a M.z.len M.z.cap] T.a55)::lgR M::slc T.a57 1 x (ns.flatMap z2m)::r)) ns.length
   ⟨0,⟨none,0,0⟩,[],D,rfl,by omega,rfl,by simp,⟨rfl,rfl,λ_=>rfl⟩,hs⟩ ?_
  clear hs;rintro m _ w ⟨i,z,done,D',rfl,hi,hm,hdl,⟨hq1,hq2,hq3⟩,hs⟩;refine zh (zi (λhc=>?_) λhc=>?_);rotate_left
  ·have e:ns.drop i=[]:=List.drop_eq_nil_of_le (by omega);rw [e] at hq1 hq2 hq3;have hq3:=hq3 rfl;have e2:(z13 M.pre [] D').2.1=[]:=rfl;rw [e2,List.append_nil] at hq3;refine zm (zg ⟨z,rfl,hq1,?_⟩);have e3:(z13 M.pre [] D').2.2=D':=rfl;rw [hq2,hq3,e3];have hs:=z52 M hokm (hs.pick [2,2]);exact hs.sub
  have hil:i<ns.length:=by omega
  have hdrop:ns.drop i=ns[i]::ns.drop (i+1):=List.drop_eq_getElem_cons hil;rw [hdrop] at hq1 hq2 hq3;have hn24:=hok24 ns[i] (List.getElem_mem hil);refine z1g hs (xs:=ns) (enc:=z2m) i hil (wp_lt ?_);refine zb (ztl (lg:=lg) ns[i] (ByteArray.mk #[46,108,111,103]) (by omega) (by decide) M.pre hsz hs) λ_ w' hs=>?_;obtain ⟨rfl,hs⟩:=hs;refine zd (wp_lt ?_);refine wp_lt ?_;have eb:z1m M.pre ns[i] (bl (ByteArray.mk #[46,108,111,103]))=z1m M.pre ns[i] z08:=rfl;rw [eb];refine zj (λq w'=>∃ z':Sl,q=(z',())/\Sat w' (slc T.a14 1 z' ((done++(match z1m M.pre ns[i] z08 with|some b=>[(b:Int)]|none=>[])).flatMap encI)::dk M.d D'::pt lg (.cells #[.pointer (some ⟨M.d,0,none⟩),.string M.pre,.int .i64 M.seg,.int .i64 M.gap,.slice M.z.a M.z.len M.z.cap] T.a55)::lgR M::slc T.a57 1 x (ns.flatMap z2m)::r)) ?_ ?_
  ·cases hb:z1m M.pre ns[i] z08 with
   | none =>
    refine z06 ?_ (by simp);refine zg ⟨z,rfl,?_⟩;rw [List.append_nil];exact hs
   | some b =>
    refine z18 ?_ (by rfl);refine z66 (xs:=done) (enc:=encI) (y:=(b:Int)) hs (λz' w' hs=>?_) rfl (by omega);exact zg ⟨z',rfl,hs⟩
  rintro _ w2 ⟨z',rfl,hs⟩
  have hdl2:(done++(match z1m M.pre ns[i] z08 with|some b=>[(b:Int)]|none=>[])).length<=i+1:=by
   rw [List.length_append];split <;> simp <;> omega
  refine zb (ztl (lg:=lg) ns[i] (ByteArray.mk #[46,110,101,119]) (by omega) (by decide) M.pre hsz hs) λ_ w' hs=>?_;obtain ⟨rfl,hs⟩:=hs;refine zd (wp_lt ?_);refine wp_lt ?_;have eb2:z1m M.pre ns[i] (bl (ByteArray.mk #[46,110,101,119]))=z1m M.pre ns[i] z9a:=rfl;rw [eb2]
  have hun:z13 M.pre (ns[i]::ns.drop (i+1)) D'=if (z1m M.pre ns[i] z9a).isSome=true/\(z2c D' ns[i]).1≠0 then ((z2c D' ns[i]).1,[],(z2c D' ns[i]).2) else
   ((z13 M.pre (ns.drop (i+1)) (if (z1m M.pre ns[i] z9a).isSome then (z2c D' ns[i]).2 else D')).1,(match z1m M.pre ns[i] z08 with|some b=>[(b:Int)]|none=>[])++(z13 M.pre (ns.drop (i+1)) (if (z1m M.pre ns[i] z9a).isSome then (z2c D' ns[i]).2 else D')).2.1,(z13 M.pre (ns.drop (i+1)) (if (z1m M.pre ns[i] z9a).isSome then (z2c D' ns[i]).2 else D')).2.2):=rfl
  refine zj (λq w'=>¬ ((z1m M.pre ns[i] z9a).isSome=true/\(z2c D' ns[i]).1≠0)/\Sat w' (slc T.a14 1 z' ((done++(match z1m M.pre ns[i] z08 with|some b=>[(b:Int)]|none=>[])).flatMap encI)::dk M.d (if (z1m M.pre ns[i] z9a).isSome then (z2c D' ns[i]).2 else D')::pt lg (.cells #[.pointer (some ⟨M.d,0,none⟩),.string M.pre,.int .i64 M.seg,.int .i64 M.gap,.slice M.z.a M.z.len M.z.cap] T.a55)::lgR M::slc T.a57 1 x (ns.flatMap z2m)::r)) ?_ ?_
  ·refine zi (λh=>?_) λh=>?_;rotate_left
   ·refine zg ⟨λhh=>h hh.1,?_⟩;rw [if_neg h];exact hs
   refine zf (z8 hs ?_);refine zb (zdu (d:=M.d) (A:=D') ns[i] hs) λ_ w' hs=>?_;obtain ⟨rfl,hs⟩:=hs;refine zd (wp_lt ?_);refine zi (λh2=>?_) λh2=>?_
   ·refine wp_lt ?_;rw [if_pos ⟨h,h2⟩] at hun;rw [hun] at hq1 hq2;have hs:=z52 M hokm (hs.pick [2,2]);refine zm (zm (zm ⟨rfl,.inl ⟨by rw [hq1];exact h2,by rw [hq1],?_⟩⟩));rw [hq2];exact hs.sub
   ·refine zg ⟨λhh=>h2 hh.2,?_⟩;rw [if_pos h];exact hs.sub
  rintro _ w3 ⟨hno,hs⟩;rw [if_neg hno] at hun;rw [hun] at hq1 hq2 hq3;refine zh ?_;rw [wS (i:=i) (by omega)];refine z0x (ns.length-(i+1)) ⟨i+1,z',done++(match z1m M.pre ns[i] z08 with|some b=>[(b:Int)]|none=>[]),_,rfl,by omega,rfl,hdl2,⟨hq1,hq2,λh=>?_⟩,hs⟩;rw [hq3 h,List.append_assoc]
theorem z09o (x:Sl) (bs:List Int) (hb:∀ b ∈ bs,0<=b/\b<17592186044416) {r1:List HP} [hf:Fo l lgQ lg M r1] [hf2:Fo r1 dk M.d D r] (hx:FocR r x 1 (bs.flatMap encI)) (hlen:bs.length<=1000000) (hs:Sat w l) :
  Ret P F.a115 #[.pointer (some ⟨lg,0,none⟩),x.v] w λvs w'=>vs=[.int .i64 (z7b M.pre bs D).1]/\Sat w' (lgQ lg M::dk M.d (z7b M.pre bs D).2::r) :=
 zr5 _ x <| by
  delta z074 AC AE AR AW Aa Ab Ac Ad Ak Al Am Ao Av Aw Az B5 Bp;have hs:=hs.perm (hf.perm.trans (.cons _ hf2.perm));clear hf hf2;obtain ⟨hokm,hs⟩:=zb7 hs;have hsz:=hokm.size;have hl:=hs.slen x (xs:=bs) (enc:=encI);refine zj (λ_ w'=>(z7b M.pre bs D).1=0/\Sat w' (lgQ lg M::dk M.d (z7b M.pre bs D).2::r)) ?_ ?_;rotate_left
  ·rintro _ w2 ⟨h1,hs⟩;rw [h1];exact ⟨rfl,rfl,hs⟩
  refine z0a (λm v w=>∃ (i:Nat) (D':DiskA),v=((i:Int),())/\i<=bs.length/\bs.length-i=m/\z7b M.pre bs D=z7b M.pre (bs.drop i) D' /\
   Sat w (pt lg (.cells #[.pointer (some ⟨M.d,0,none⟩),.string M.pre,.int .i64 M.seg,.int .i64 M.gap,.slice M.z.a M.z.len M.z.cap] T.a55)::lgR M::dk M.d D'::r)) bs.length ⟨0,D,rfl,by omega,rfl,rfl,hs⟩ ?_
  clear hs;rintro m _ w ⟨i,D',rfl,hi,hm,hq,hs⟩;refine zh (zi (λhc=>?_) λhc=>?_);rotate_left
  ·have e:bs.drop i=[]:=List.drop_eq_nil_of_le (by omega);rw [e] at hq;refine zm (zg ⟨by rw [hq];rfl,?_⟩);rw [hq];exact z52 M hokm hs
  have hil:i<bs.length:=by omega
  rw [List.drop_eq_getElem_cons hil] at hq;have hbb:=hb bs[i] (List.getElem_mem hil);refine z1g hs (xs:=bs) (enc:=encI) i hil (wp_lt ?_);have hun:z7b M.pre (bs[i]::bs.drop (i+1)) D'=if (z2c D' (zx M.pre bs[i] z08)).1≠0 then z2c D' (zx M.pre bs[i] z08) else z7b M.pre (bs.drop (i+1)) (z2c D' (zx M.pre bs[i] z08)).2:=rfl;refine zj (λv w'=>v=((z2c D' (zx M.pre bs[i] z08)).1,())/\Sat w' (pt lg (.cells #[.pointer (some ⟨M.d,0,none⟩),.string M.pre,.int .i64 M.seg,.int .i64 M.gap,.slice M.z.a M.z.len M.z.cap] T.a55)::lgR M::dk M.d (z2c D' (zx M.pre bs[i] z08)).2::r)) ?_ ?_
  ·refine zt hs λw' hs=>zf (z0y hs ?_);refine zb (z99 (lg:=lg) bs[i] hbb (ByteArray.mk #[46,108,111,103]) (by decide) M.pre hsz hs) λ_ w' hs=>?_;obtain ⟨rfl,hs⟩:=hs;refine zd ?_ (by first|trivial|(repeat (first|exact trivial|exact λ_=>z09 hs|exact λ_=>z0g hs|refine And.intro ?_ ?_)));refine ze (zb (zdu (d:=M.d) (A:=D') (zx M.pre bs[i] (bl (ByteArray.mk #[46,108,111,103]))) hs) λ_ w' hs=>?_);obtain ⟨rfl,hs⟩:=hs;refine zd (wp_lt ?_);refine ze ?_;have hs:Sat w' (dk M.d (z2c D' (zx M.pre bs[i] z08)).2::_):=hs;exact zg ⟨rfl,hs.sub⟩
  rintro _ w2 ⟨rfl,hs⟩;refine zi (λh=>?_) λh=>?_
  ·refine wp_lt ?_;rw [if_pos h] at hun;rw [hun] at hq;rw [hq];exact zm (zm ⟨rfl,rfl,z52 M hokm hs⟩)
  ·rw [if_neg h] at hun;rw [hun] at hq;rw [wS (i:=i) (by omega)];exact z0x (bs.length-(i+1)) ⟨i+1,_,rfl,by omega,rfl,hq,hs⟩
end
theorem zji (k:Nat) (n:Int) (raw:List UInt8):z2r (k+1) n raw=match z1c raw with
  | none=>([],0)
  | some (body,m)=>match z6r body with
   | none=>([],0)
   | some b=>if b.base<n then ([],0) else (b::(z2r k (b.base+zo b) (raw.drop m)).1,m+(z2r k (b.base+zo b) (raw.drop m)).2):=rfl
theorem zfr {fs:List FileA} {n:ByteArray} {p:List UInt8 × Nat} (h:z0r fs n=some p):p.1.length<=used fs:=z9i (zvx h)
section
variable {w:World} {l r:List HP} {lg:Nat} {M:LogM} {A:LogA} {D:DiskA} {gap:Int} {a:Nat} {t:SegM}
theorem z05n (b:BatM) (z:Sl) (hv:z02 b=0) (hp:b.p=b) [hf:Fo l (z0t gap) a t r] [hb:FocR r z 4 (b.rs.flatMap z0f)] (hlen:t.s.file.length+(frL b).length<=1000000000) (hs:Sat w l) :
  Ret P F.a133 #[.pointer (some ⟨a,0,none⟩),.agg (z01 (b.at z)).toArray,.int .i64 ((frL b).length:Nat)] w λvs w'=>vs=[]/\Sat w' (z0t gap a ⟨t.ix,t.s.add [b]⟩::r):=by
 have hb':FocR r (b.at z).x 4 ((b.at z).rs.flatMap z0f):=hb;have h:=z029 (gap:=gap) (a:=a) (b.at z) hv hlen hs
 have e:t.s.add [b.at z]=t.s.add [b]:=by
  unfold SegA.add;have:(b.at z).p=b.p:=rfl;simp only [List.map_cons,List.map_nil,this]
 rw [e] at h;exact h
set_option maxHeartbeats 1000000 in
theorem z0db (base:Int) (hb:0<=base/\base<17592186044416) {r1:List HP} [hf:Fo l lgQ lg M r1] [hf2:Fo r1 dk M.d D r] (hlen:M.SM.length<=1000000) (hs:Sat w l) :
  Ret P F.a122 #[.pointer (some ⟨lg,0,none⟩),.int .i64 base] w λvs w'=>vs=[.bool (z2j M.pre M.l D base).1.1,.int .i64 (z2j M.pre M.l D base).1.2] /\
   ∃ M':LogM,(M'.d=M.d/\M'.pre=M.pre/\M'.seg=M.seg/\M'.gap=M.gap)/\M'.l=(z2j M.pre M.l D base).2.1/\M'.SM.length<=M.SM.length+1/\Sat w' (lgQ lg M'::dk M.d (z2j M.pre M.l D base).2.2::r) :=
 zrc _ base <| by
  delta z07b AD AF AH AK AR AU Aa Ab Ac Ad Aj Ak Al Am An Ao Av Aw B2 B4 Be Bo Bp Bq Bw Bx;have hs:=hs.perm (hf.perm.trans (.cons _ hf2.perm));clear hf hf2;obtain ⟨hokm,hs⟩:=zb7 hs;have hsz:=hokm.size;obtain ⟨m_,FS_,-,hokD,-⟩:=z2h (hs.pick [2]);refine zb (z99 (lg:=lg) base hb (ByteArray.mk #[46,108,111,103]) (by decide) M.pre hsz hs) λ_ w' hs=>?_;obtain ⟨rfl,hs⟩:=hs;refine zd ?_;have en:zx M.pre base (bl (ByteArray.mk #[46,108,111,103]))=zx M.pre base z08:=rfl;rw [en];generalize hnm:zx M.pre base z08=nm at *;refine wp_lt (zf ?_);refine z8 hs ?_
  have hsame:∀ {w:World} {D':DiskA},Sat w (pt lg (.cells #[.pointer (some ⟨M.d,0,none⟩),.string M.pre,.int .i64 M.seg,.int .i64 M.gap,.slice M.z.a M.z.len M.z.cap] T.a55)::lgR M::dk M.d D'::r)->∃ M':LogM,(M'.d=M.d/\M'.pre=M.pre/\M'.seg=M.seg/\M'.gap=M.gap)/\M'.l=M.l/\M'.SM.length<=M.SM.length+1/\Sat w (lgQ lg M'::dk M.d D'::r):=λhs=>⟨M,⟨rfl,rfl,rfl,rfl⟩,rfl,by omega,z52 M hokm hs⟩
  unfold z2j;rw [hnm];refine zb (zj8 (d:=M.d) (A:=D) nm hs) λ_ w' hs=>?_
  rcases hs with ⟨f,hff,hfn,x,rfl,hs⟩|⟨hno,rfl,hs⟩
  rotate_left
  ·refine zd (wp_lt ?_);refine z18 ?_ (by decide);refine wp_lt ?_;rw [z8p.2 hno];exact ⟨rfl,rfl,hsame hs.sub⟩
  refine zd (wp_lt ?_);refine z06 ?_ (by simp)
  have hfd:z0r D.fs nm=some (f.b,f.kept):=by rw [<- hfn];exact zen (z3q hokD.sorted) hff
  have hrl:f.b.length<=4194304:=Nat.le_trans (z9i hff) hokD.used;rw [hfd];simp only;generalize f.b=raw at *;have hl:=hs.slen x (xs:=raw) (enc:=zk);have hcap:=hs.slc_cap;refine zb (zdd x raw hcap (by omega) hs) λ_ w' hs=>?_;obtain ⟨y,rfl,hs⟩:=hs;refine zd (wp_lt ?_);refine wp_lt (zj (λq w'=>∃ v:Int,q=(v,(z6l base raw).isSome,())/\(∀ s,z6l base raw=some s->v=s.1.fin)/\Sat w' (slc T.a63 1 x (raw.flatMap zk)::pt lg (.cells #[.pointer (some ⟨M.d,0,none⟩),.string M.pre,.int .i64 M.seg,.int .i64 M.gap,.slice M.z.a M.z.len M.z.cap] T.a55)::lgR M::dk M.d D::r)) ?_ ?_)
  ·cases hfr:z1c raw with
   | none =>
    rw [hfr] at hs
    have e:z6l base raw=none:=by unfold z6l;rw [hfr]
    rw [e];refine z06 ?_ (by simp);exact zg ⟨0,rfl,(λs h=>by cases h),hs.sub⟩
   | some q =>
    obtain ⟨body,m⟩:=q;rw [hfr] at hs;have hs:Sat w' (slc T.a63 1 y (body.flatMap zk)::_):=hs;obtain ⟨-,-,hbd,-⟩:=z8e hfr;refine z18 ?_ (by rfl);refine zb (z03k y body base (by omega) (by omega) hs) λ_ w' hs=>?_;obtain ⟨v,rfl,hv,hs⟩:=hs;refine zd (wp_lt ?_);refine wp_lt ?_
    have e:z6l base raw=match z6j base body with
      | none=>none
      | some fin=>some (⟨base,fin,(z2r raw.length base (raw.drop m)).1⟩,m+(z2r raw.length base (raw.drop m)).2):=by simp only [z6l,hfr];cases z6j base body <;> rfl
    rw [e]
    cases hh:z6j base body with
    | none=>exact zg ⟨v,rfl,(λs h=>by cases h),hs.sub⟩
    | some fin =>
     have:=hv fin hh;subst this;exact zg ⟨v,rfl,(λs h=>by simp only [Option.some.injEq] at h;subst h;rfl),hs.sub⟩
  rintro _ w2 ⟨v,rfl,hv,hs⟩
  cases hsc:z6l base raw with
  | none =>
   refine z18 ?_ (by simp);refine zf (z8 hs ?_);refine zb (zdu (d:=M.d) (A:=D) nm hs) λ_ w' hs=>?_;obtain ⟨rfl,hs⟩:=hs;refine zd (wp_lt ?_);exact ⟨rfl,rfl,hsame hs.sub⟩
  | some q =>
   obtain ⟨s,mm⟩:=q;dsimp only;have hv:=hv _ hsc;have hv:v=s.fin:=hv;subst hv;obtain ⟨hsok,hsb,hst,hsm,hsml⟩:=z05f hsc;refine z06 ?_ (by simp)
   obtain ⟨m0,hm0,htk⟩:∃ m0,((z1c raw).getD ([],0)).2=m0/\m0<=raw.length/\m0=(shL s.base s.fin).length/\s.bs=(z2r raw.length base (raw.drop m0)).1/\mm=m0+(z2r raw.length base (raw.drop m0)).2:=by
    unfold z6l at hsc
    cases hfr:z1c raw with
    | none=>rw [hfr] at hsc;cases hsc
    | some q =>
     obtain ⟨body,m⟩:=q;rw [hfr] at hsc;simp only at hsc
     cases hh:z6j base body with
     | none=>rw [hh] at hsc;cases hsc
     | some fin =>
      rw [hh] at hsc;simp only [Option.some.injEq,Prod.mk.injEq] at hsc;obtain ⟨e1,e2⟩:=hsc;obtain ⟨f1,f2,f3,f4⟩:=z8e hfr;obtain ⟨-,-,hb3⟩:=zlr hh;refine ⟨m,rfl,f2,?_,by rw [<- e1],e2.symm⟩;rw [<- e1];show m=(shL base fin).length;unfold shL;rw [zbg (by have:=zko base fin;omega),<- hb3,f1]
   obtain ⟨h1,h2,h3,h4⟩:=htk;rw [hm0];have hbase0:=hsok.base
   have hfin0:0<=s.fin/\s.fin<9223372036854775808:=by have:=hsok.fin;omega
   have hs:=z52 M hokm (hs.pick [1,1]);refine zb (zov (lg:=lg) base s.fin (by omega) hfin0 hs) λ_ w' hs=>?_;obtain ⟨a,ix,rfl,hs⟩:=hs;refine zd (wp_lt ?_);refine zj (λq w'=>q=((mm:Int),())/\Sat w' (z0t M.gap a ⟨ix,s⟩::lgQ lg M::slc T.a63 1 x (raw.flatMap zk)::dk M.d D::r)) ?_ ?_
   ·refine z0a (λk q w=>∃ (at_:Nat) (n:Int) (done:List BatM),q=((at_:Int),(n,()))/\at_<=raw.length/\raw.length-at_<=k /\
     s.bs=done++(z2r k n (raw.drop at_)).1/\mm=at_+(z2r k n (raw.drop at_)).2/\at_=((⟨base,s.fin,[]⟩:SegA).add done).file.length /\
     Sat w (z0t M.gap a ⟨ix,(⟨base,s.fin,[]⟩:SegA).add done⟩::lgQ lg M::slc T.a63 1 x (raw.flatMap zk)::dk M.d D::r)) raw.length
     ⟨m0,base,[],rfl,h1,by omega,by rw [List.nil_append];exact h3,h4,by rw [zjw,z4h];simp only [List.flatMap_nil,List.length_nil];rw [h2,hsb];omega,by rw [zjw];exact hs⟩ ?_
    clear hs;rintro k _ w ⟨at_,n,done,rfl,ha1,ha2,ha3,ha4,ha5,hs⟩
    have hend:z2r k n (raw.drop at_)=([],0)->∀ {w:World},Sat w (z0t M.gap a ⟨ix,(⟨base,s.fin,[]⟩:SegA).add done⟩::lgQ lg M::slc T.a63 1 x (raw.flatMap zk)::dk M.d D::r)->at_=mm/\Sat w (z0t M.gap a ⟨ix,s⟩::lgQ lg M::slc T.a63 1 x (raw.flatMap zk)::dk M.d D::r):=by
     intro he w hs;rw [he] at ha3 ha4;simp only [List.append_nil] at ha3
     have hpp:done.map BatM.p=done:=by
      rw [List.map_congr_left (g:=id) λb hb=>((hsok.bs.valid b (by rw [ha3];exact hb)).2),List.map_id]
     have es:(⟨base,s.fin,[]⟩:SegA).add done=s:=by
      unfold SegA.add;rw [hpp,<- ha3,<- hsb];rfl
     rw [es] at hs;exact ⟨ha4.symm,hs⟩
    refine zh (wp_must (by omega) ?_);rw [Int.toNat_natCast];have hxc:FocR (z0t M.gap a ⟨ix,(⟨base,s.fin,[]⟩:SegA).add done⟩::lgQ lg M::slc T.a63 1 x (raw.flatMap zk)::dk M.d D::r) ⟨z0k x.a 1 at_ x.cap,x.len-at_,x.cap-at_⟩ 1 ((raw.drop at_).flatMap zk):=FocR.post hcap;refine zb (zdd ⟨z0k x.a 1 at_ x.cap,x.len-at_,x.cap-at_⟩ (raw.drop at_) (by show x.len-at_<=x.cap-at_;omega) (by rw [List.length_drop];omega) hs) λ_ w' hs=>?_;obtain ⟨y,rfl,hs⟩:=hs;refine zd (wp_lt ?_);refine wp_lt ?_
    cases hfr:z1c (raw.drop at_) with
    | none =>
     rw [hfr] at hs;refine z18 ?_ (by simp)
     have he:z2r k n (raw.drop at_)=([],0):=by
      cases k with
      | zero=>rfl
      | succ k=>rw [zji,hfr]
     obtain ⟨e1,hs⟩:=hend he hs.tail;refine zm (zg ⟨by rw [e1],hs⟩)
    | some q =>
     obtain ⟨body,m⟩:=q;rw [hfr] at hs;have hs:Sat w' (slc T.a63 1 y (body.flatMap zk)::_):=hs;obtain ⟨f1,f2,hbd,f4⟩:=z8e hfr;rw [List.length_drop] at f2;dsimp only [Option.getD,Option.isSome];refine z06 ?_ (by simp)
     obtain ⟨k,rfl⟩:∃ k',k=k'+1:=⟨k-1,by omega⟩
     rw [zji,hfr] at ha3 ha4 hend;refine zb (zo1 y body (by omega) hs) λ_ w' hs=>?_
     rcases hs with ⟨b,z,hdec,rfl,hs⟩|⟨hdec,rfl,hs⟩
     rotate_left
     ·refine ⟨(0,0,0,0,0,0,z9b,6,()),rfl,trivial,zgc _ _ _ _ _ _ _ _ ?_⟩;refine zu hs λc w' hs=>zv hs λw' hs=>wp_lt (z8 hs ?_);refine z18 ?_ (.inl (by decide));obtain ⟨e1,hs⟩:=hend (by simp only [hdec]) hs.tail.tail;exact zm (zg ⟨by show ((at_:Int),())=_;rw [e1],hs⟩)
     ·obtain ⟨d1,d2,d3⟩:=zo0 hdec
      have hfrb:(frL b).length=m:=by rw [(z68 d1).2,d2,f1]
      refine ⟨(b.base,b.pid,b.epoch,b.seq,b.kind,b.time,z,0,()),rfl,trivial,zgc _ _ _ _ _ _ _ _ ?_⟩;refine zu hs λc w' hs=>zv hs λw' hs=>wp_lt (z8 hs ?_);simp only [hdec] at ha3 ha4 hend;refine zi (λhc=>?_) λhc=>?_
      ·have hc:b.base<n:=by
        rcases hc with hc|hc
        ·exact absurd rfl hc
        ·exact hc
       obtain ⟨e1,hs⟩:=hend (by rw [if_pos hc]) hs.tail.tail.tail;exact zm (zg ⟨by show ((at_:Int),())=_;rw [e1],hs⟩)
      have hc:¬ b.base<n:=λh=>hc (.inr h);rw [if_neg hc] at ha3 ha4;simp only at ha3 ha4;refine zl hs ?_;have hz:FocR (pt c (.cells #[.int .i64 b.base,.int .i64 b.pid,.int .i64 b.epoch,.int .i64 b.seq,.int .i64 b.kind,.int .i64 b.time,.slice z.a z.len z.cap] T.a0)::slc T.a2 4 z (b.rs.flatMap z0f)::slc T.a63 1 y (body.flatMap zk)::lgQ lg M::slc T.a63 1 x (raw.flatMap zk)::dk M.d D::r) z 4 (b.rs.flatMap z0f):=inferInstance;have hs:Sat w' (pt c (.cells #[.int .i64 b.base,.int .i64 b.pid,.int .i64 b.epoch,.int .i64 b.seq,.int .i64 b.kind,.int .i64 b.time,.slice z.a z.len z.cap] T.a0)::slc T.a2 4 z (b.rs.flatMap z0f)::slc T.a63 1 y (body.flatMap zk)::z0t M.gap a ⟨ix,(⟨base,s.fin,[]⟩:SegA).add done⟩::lgQ lg M::slc T.a63 1 x (raw.flatMap zk)::dk M.d D::r):=hs
      have hml:((m:Nat):Int)=((frL b).length:Nat):=by rw [hfrb]
      show (Prog.call F.a133 [_,.agg _,.int .i64 ((m:Nat):Int)] _ _).wp P _ _ _;rw [hml];refine zb (z05n (gap:=M.gap) (a:=a) (t:=⟨ix,(⟨base,s.fin,[]⟩:SegA).add done⟩) b z d1 d3 (by show ((⟨base,s.fin,[]⟩:SegA).add done).file.length+_<=_;rw [<- ha5];omega) hs) λ_ w' hs=>?_;obtain ⟨rfl,hs⟩:=hs;refine zd ?_;have e6:((⟨base,s.fin,[]⟩:SegA).add done).add [b]=(⟨base,s.fin,[]⟩:SegA).add (done++[b]):=zti _ _ _;have hs:Sat w' (z0t M.gap a ⟨ix,((⟨base,s.fin,[]⟩:SegA).add done).add [b]⟩::_):=hs;rw [e6] at hs;have hs:=z4i hs;refine zf (z8 hs ?_);refine wp_lt ?_;rw [w64 (by omega) (by omega)];refine wp_lt ?_
      have en2:z0s ((⟨base,s.fin,[]⟩:SegA).add (done++[b])).bs=b.base+zo b:=by
       show z0s ([]++(done++[b]).map BatM.p)=_;rw [List.nil_append,List.map_append];exact z60 _ _
      rw [show z0s (SegM.s ⟨ix,(⟨base,s.fin,[]⟩:SegA).add (done++[b])⟩).bs=b.base+zo b from en2];have hs:=z30 ⟨ix,(⟨base,s.fin,[]⟩:SegA).add (done++[b])⟩ hs
      have ec:(at_:Int)+((frL b).length:Nat)=((at_+m:Nat):Int):=by rw [hfrb];omega
      rw [ec];refine z0x k ⟨at_+m,b.base+zo b,done++[b],rfl,by omega,by omega,?_,?_,?_,hs.sub⟩
      ·rw [ha3,List.append_assoc,List.drop_drop];rfl
      ·rw [ha4,List.drop_drop];omega
      ·rw [<- e6,z95,List.length_append,<- ha5];simp only [List.flatMap_cons,List.flatMap_nil,List.append_nil];omega
   clear hs;rintro _ w3 ⟨rfl,hs⟩;refine zh ?_;have hs:=hs.pick [1];refine zb (z06m (lg:=lg) a ⟨ix,s⟩ (by omega) hs) λ_ w' hs=>?_;obtain ⟨z,rfl,hs⟩:=hs;refine zd ?_
   have hfin2:∀ {w:World} {D':DiskA},Sat w (lgQ lg { M with z:=z,SM:=M.SM++[(a,⟨ix,s⟩)] }::dk M.d D'::r)->∃ M':LogM,(M'.d=M.d/\M'.pre=M.pre/\M'.seg=M.seg/\M'.gap=M.gap)/\M'.l=M.l++[s]/\M'.SM.length<=M.SM.length+1/\Sat w (lgQ lg M'::dk M.d D'::r):=λhs =>
    ⟨{ M with z:=z,SM:=M.SM++[(a,⟨ix,s⟩)] },⟨rfl,rfl,rfl,rfl⟩,by unfold LogM.l;simp,by simp,hs⟩
   refine zi (λhc=>?_) λhc=>?_
   ·have hc:mm=raw.length:=by omega
    rw [if_pos hc];exact ⟨rfl,rfl,hfin2 hs.sub⟩
   ·rw [if_neg (show ¬ mm=raw.length by omega)];refine zf ?_;obtain ⟨hokm2,hs⟩:=zb7 hs;refine z8 hs (zb (z0g7 (d:=M.d) (A:=D) nm ((mm:Nat):Int) hs) λ_ w' hs=>?_);obtain ⟨rfl,hs⟩:=hs;refine zd (wp_lt ?_);have hs:=z52 { M with z:=z,SM:=M.SM++[(a,⟨ix,s⟩)] } hokm2 (hs.pick [1,1]);exact ⟨rfl,rfl,hfin2 hs.sub⟩
end
def z5f (a:Nat) (outs:List BatM):HP:=HP.ex λz:Sl=>HP.star (pt a (.cells #[.slice z.a z.len z.cap] T.a41)) (HP.star (slc T.a0 7 z (outs.flatMap z01)) (z28 outs))
section
variable {w:World} {l r r1 r2:List HP} {lg ao:Nat} {M:LogM} {A:LogA} {D:DiskA} {gap:Int} {a:Nat} {t:SegM} {outs:List BatM}
theorem zp3 (hs:Sat w (z5f ao outs::l)):∃ z:Sl,Sat w (pt ao (.cells #[.slice z.a z.len z.cap] T.a41)::slc T.a0 7 z (outs.flatMap z01)::z28 outs::l):=by
 obtain ⟨z,hs⟩:=hs.ex;have hs:=hs.star;exact ⟨z,((hs.pick [1]).star).pick [2]⟩
theorem zff {z:Sl} (hs:Sat w (pt ao (.cells #[.slice z.a z.len z.cap] T.a41)::slc T.a0 7 z (outs.flatMap z01)::z28 outs::l)):Sat w (z5f ao outs::l) :=
 .ex_mk z (.star_mk (((hs.pick [1,1]).star_mk).pick [1]))
theorem z032 {b:BatM} (hs:Sat w (slc T.a2 4 b.x (b.rs.flatMap z0f)::z28 outs::l)):Sat w (z28 (outs++[b])::l):=by
 have h1:Sat w (HP.all ((b::outs).map rsP)::l):=by
  have h2:Sat w (rsP b::HP.all (outs.map rsP)::l):=hs;exact h2.all_put
 exact h1.all_perm ((List.perm_append_comm (l₁:=[b]) (l₂:=outs)).map rsP)
theorem znr (hs:Sat w l):Sat w (z28 []::l):=hs.all_nil
theorem ztp {b:BatM} (hb:b ∈ outs):FocR (z28 outs::l) b.x 4 (b.rs.flatMap z0f):=⟨λw hs=>by
 obtain ⟨L,hs⟩:=hs.all_mem (f:=rsP) hb
 exact Sat.rd hs⟩
theorem z0dk (b:BatM) (off most:Int) (a1 a2:Nat) (ho : -9223372036854775808<=off/\off<9223372036854775808) (hcap:b.x.len<=b.x.cap) (hol:outs.length<=2000000) [hf:Fo l z5f ao outs r] [h1:FocB r a1 (.cells [.int .i64 off].toArray T.a14) r1] [h2:FocB r a2 (.cells [.int .i64 most].toArray T.a13) r2] [hb:FocR r b.x 4 (b.rs.flatMap z0f)] (hs:Sat w l) :
  Ret P F.a112 #[.agg (z01 b).toArray,.pointer (some ⟨a1,0,none⟩),.pointer (some ⟨ao,0,none⟩),.pointer (some ⟨a2,0,none⟩)] w λvs w'=>∃ outs':List BatM,vs=[.bool (decide ((outs'.length:Int)<most))]/\outs'.map BatM.p=outs.map BatM.p++(z0w off b).toList.map BatM.p/\Sat w' (z5f ao outs'::r) :=
 zr2 b.base b.pid b.epoch b.seq b.kind b.time b.x _ _ _ <| by
  delta z071 AH AK Aa Ab Ac Ad Af Aj Ak Az B7 Bb Bc Bw Bx;obtain ⟨z,hs⟩:=zp3 (hs.perm hf.perm);have hl:=hs.slen z (xs:=outs) (enc:=z01);refine zr hs λa0 w' hs=>zl hs (z8 hs ?_);refine zb (z09y b off ho hcap hs) λ_ w' hs=>?_
  rcases hs with ⟨hn,rfl,hs⟩|⟨c,zc,hc,rfl,hs⟩
  ·refine ⟨(0,0,0,0,0,0,z9b,false,()),rfl,trivial,zgc _ _ _ _ _ _ _ _ ?_⟩;refine zu hs λa3 w' hs=>zv hs λw' hs=>wp_lt (z3j ?_);refine z06 ?_ (by simp);refine z5a (z8 hs ?_);refine z8 hs (wp_lt ?_);refine ⟨rfl,outs,by rw [hl],by rw [hn];simp,zff (z:=z) hs.sub⟩
  ·refine ⟨(c.base,c.pid,c.epoch,c.seq,c.kind,c.time,zc,true,()),rfl,trivial,zgc _ _ _ _ _ _ _ _ ?_⟩;refine zu hs λa3 w' hs=>zv hs λw' hs=>wp_lt (z3j ?_);refine z18 ?_ (by trivial);refine z8 hs (zl hs ?_);refine z66 (xs:=outs) (enc:=z01) (y:=c.at zc) hs (λz' w' hs=>?_) rfl (by omega);refine zy hs λw' hs=>z5a (z8 hs ?_);refine z8 hs (wp_lt ?_);have hs:Sat w' (pt ao (.cells #[.slice z'.a z'.len z'.cap] T.a41)::slc T.a0 7 z' ((outs++[c.at zc]).flatMap z01)::pt a3 _::slc T.a2 4 (c.at zc).x ((c.at zc).rs.flatMap z0f)::pt a0 _::z28 outs::r):=hs;have hl':=hs.slen z' (xs:=outs++[c.at zc]) (enc:=z01);refine ⟨rfl,outs++[c.at zc],by rw [hl'],by rw [hc];simp;rfl,?_⟩;have hs:=z032 (hs.pick [3,4]);exact zff (z:=z') (hs.pick [1,1,0]).sub
theorem z0b8 (off:Int) (hok:SegOk t.s) (hfl:t.s.file.length<=4194304) [hf:Fo l (z0t gap) a t r] (hs:Sat w l):Ret P F.a131 #[.pointer (some ⟨a,0,none⟩),.int .i64 off] w λvs w'=>vs=[.int .i64 (z01i t.s (z3l (t.s.idx gap).l off))]/\Sat w' (z0t gap a t::r) :=
 zrl _ off <| by
  delta z07k AC AE AH AK AO AP AR Ab Ac Ad Ak Al Ao B9 Bq;have hi:IdxOk gap (shL t.s.base t.s.fin).length t.s.bs (t.s.idx gap):=zoh gap t.s.bs.length (n:=t.s.base) (q:=(shL t.s.base t.s.fin).length) rfl hok.base.1 (by omega) hok.bs (by have:=z4h t.s;omega);have hs:=z4i (hs.perm hf.perm);refine zf (z8 hs ?_);refine zb (z0c9 (b:=t.ix) off hi.offs hs) λ_ w' hs=>?_;obtain ⟨rfl,hs⟩:=hs;refine ⟨((orE (z3l (t.s.idx gap).l off)).offset,(orE (z3l (t.s.idx gap).l off)).place,(orE (z3l (t.s.idx gap).l off)).before,(z3l (t.s.idx gap).l off).isSome,()),rfl,trivial,zne _ _ _ _ ?_⟩;refine zu hs λc w' hs=>zv hs λw' hs=>wp_lt ?_
  cases hfe:z3l (t.s.idx gap).l off with
  | some e =>
   refine z18 ?_ (by rfl);rw [hfe] at hs;refine z8 hs (wp_lt ?_);exact ⟨rfl,rfl,z30 t hs.sub⟩
  | none =>
   refine z06 ?_ (by simp);refine zt hs λw' hs=>zf (z8 hs ?_);refine zf (z8 hs ?_);have hb:=hok.base
   have hfn:0<=t.s.fin/\t.s.fin<9223372036854775808:=by have:=hok.fin;omega
   refine zb (zoe t.s.base t.s.fin (by omega) hfn hs) λ_ w' hs=>?_;obtain ⟨y,rfl,hs⟩:=hs;refine zd ?_;have hl:=hs.slen y (xs:=shL t.s.base t.s.fin) (enc:=zk);refine wp_lt (ze ?_);refine ⟨rfl,?_,z30 t hs.sub⟩;rw [hl];rfl
set_option maxHeartbeats 1000000 in
theorem z0do (off:Int) (most:Nat) (a1 a2:Nat) (ho : -9223372036854775808<=off/\off<9223372036854775808) {i k kp:Nat} (hsi:i<M.SM.length) (hok:SegOk M.SM[i].2.s) (hfile:z0r D.fs (zx M.pre M.SM[i].2.s.base z08)=some (M.SM[i].2.s.file,kp)) (hk:k<=M.SM[i].2.s.bs.length) (hout:outs.length<most) (hol:outs.length+M.SM[i].2.s.bs.length<=2000000)
  (hs:Sat w (z5f ao outs::lgQ lg M::dk M.d D::pt a1 (.cells [.int .i64 off].toArray T.a14)::pt a2 (.cells [.int .i64 (most:Int)].toArray T.a13)::r)) :
  Ret P F.a124 #[.pointer (some ⟨lg,0,none⟩),.pointer (some ⟨M.SM[i].1,0,none⟩),.int .i64 (z3d M.SM[i].2.s k:Nat),.func (.func F.a112) #[] #[.pointer (some ⟨a1,0,none⟩),.pointer (some ⟨ao,0,none⟩),.pointer (some ⟨a2,0,none⟩)]] w λvs w' =>
   ∃ outs':List BatM,vs=[.bool (decide (outs.length+((M.SM[i].2.s.bs.drop k).filterMap (z0w off)).length<most))]/\outs'.map BatM.p=(outs.map BatM.p++(M.SM[i].2.s.bs.drop k).filterMap (z0w off)).take most/\outs'.length<=outs.length+M.SM[i].2.s.bs.length /\
    Sat w' (z5f ao outs'::lgQ lg M::dk M.d D::pt a1 (.cells [.int .i64 off].toArray T.a14)::pt a2 (.cells [.int .i64 (most:Int)].toArray T.a13)::r) :=
 zre _ _ _ _ <| by
  delta z07d AB AC AD AE AH AK AR AV AW Aa Ab Ac Ad Ah Aj Ak Al Ao Av Az B4 B5 B8 Bf Bo Bp Bw;obtain ⟨m_,FS_,-,hokD,-⟩:=z2h (hs.pick [2]);obtain ⟨hokm,hs⟩:=z35 (hs.pick [1]);have hs:=z4i (zbh (hs.pick [2]) hsi);generalize hT:M.SM[i]=T0 at *;obtain ⟨a,t⟩:=T0;dsimp only at hok hfile hk hol hs ⊢;have hrl:t.s.file.length<=4194304:=Nat.le_trans (zfr hfile) hokD.used;have hbl:=zk4 hok;have hb0:=hok.base;refine zj (λq w'=>∃ x:Sl,q=(x,())/\x.len<=x.cap/\Sat w' (slc T.a63 1 x (t.s.file.flatMap zk)::pt a (.cells #[.pointer (some ⟨t.ix,0,none⟩),.int .i64 t.s.base,.int .i64 t.s.fin,.int .i64 (z0s t.s.bs),.int .i64 (z1o (-1) t.s.bs),.int .i64 (t.s.file.length:Nat)] T.a56)::z2s t.ix (t.s.idx M.gap)::HP.all ((M.SM.eraseIdx i).map λt=>z0t M.gap t.1 t.2)::pt lg (.cells #[.pointer (some ⟨M.d,0,none⟩),.string M.pre,.int .i64 M.seg,.int .i64 M.gap,.slice M.z.a M.z.len M.z.cap] T.a55)::slc T.a36 1 M.z ((M.SM.map Prod.fst).flatMap z1v)::z5f ao outs::dk M.d D::pt a1 (.cells [.int .i64 off].toArray T.a14)::pt a2 (.cells [.int .i64 (most:Int)].toArray T.a13)::r)) ?_ ?_
  ·refine zt hs λw' hs=>zf (z0y hs ?_);refine zf (z8 hs ?_);refine zb (z99 (lg:=lg) t.s.base (by omega) (ByteArray.mk #[46,108,111,103]) (by decide) M.pre hokm.size hs) λ_ w' hs=>?_;obtain ⟨rfl,hs⟩:=hs;refine zd ?_ (by first|trivial|(repeat (first|exact trivial|exact λ_=>z09 hs|exact λ_=>z0g hs|refine And.intro ?_ ?_)));refine ze ?_;have en:zx M.pre t.s.base (bl (ByteArray.mk #[46,108,111,103]))=zx M.pre t.s.base z08:=rfl;rw [en];refine zb (zj8 (d:=M.d) (A:=D) (zx M.pre t.s.base z08) hs) λ_ w' hs=>?_
   rcases hs with ⟨f,hff,hfn,x,rfl,hs⟩|⟨hno,rfl,hs⟩
   ·refine zd (wp_lt ?_);refine ze ?_;have hfd:z0r D.fs f.name=some (f.b,f.kept):=zen (z3q hokD.sorted) hff;rw [hfn,hfile] at hfd;simp only [Option.some.injEq,Prod.mk.injEq] at hfd;rw [<- hfd.1] at hs;have hcap:=hs.slc_cap;exact zg ⟨x,rfl,hcap,hs.sub⟩
   ·rw [z8p.2 hno] at hfile;cases hfile
  clear hs;rintro _ w ⟨x,rfl,hcap,hs⟩;refine zh (wp_lt ?_);have hl:=hs.slen x (xs:=t.s.file) (enc:=zk)
  have hfin:∀ {w:World} {outs':List BatM},Sat w (slc T.a63 1 x (t.s.file.flatMap zk)::pt a (.cells #[.pointer (some ⟨t.ix,0,none⟩),.int .i64 t.s.base,.int .i64 t.s.fin,.int .i64 (z0s t.s.bs),.int .i64 (z1o (-1) t.s.bs),.int .i64 (t.s.file.length:Nat)] T.a56)::z2s t.ix (t.s.idx M.gap)::HP.all ((M.SM.eraseIdx i).map λt=>z0t M.gap t.1 t.2)::pt lg (.cells #[.pointer (some ⟨M.d,0,none⟩),.string M.pre,.int .i64 M.seg,.int .i64 M.gap,.slice M.z.a M.z.len M.z.cap] T.a55)::slc T.a36 1 M.z ((M.SM.map Prod.fst).flatMap z1v)::z5f ao outs'::dk M.d D::pt a1 (.cells [.int .i64 off].toArray T.a14)::pt a2 (.cells [.int .i64 (most:Int)].toArray T.a13)::r) ->
    Sat w (z5f ao outs'::lgQ lg M::dk M.d D::pt a1 (.cells [.int .i64 off].toArray T.a14)::pt a2 (.cells [.int .i64 (most:Int)].toArray T.a13)::r):=by
   intro w outs' hs
   have h1:Sat w (z0t M.gap M.SM[i].1 M.SM[i].2::HP.all ((M.SM.eraseIdx i).map λt=>z0t M.gap t.1 t.2)::pt lg (.cells #[.pointer (some ⟨M.d,0,none⟩),.string M.pre,.int .i64 M.seg,.int .i64 M.gap,.slice M.z.a M.z.len M.z.cap] T.a55)::slc T.a36 1 M.z ((M.SM.map Prod.fst).flatMap z1v)::z5f ao outs'::dk M.d D::pt a1 (.cells [.int .i64 off].toArray T.a14)::pt a2 (.cells [.int .i64 (most:Int)].toArray T.a13)::r):=by
    rw [hT];exact z30 t hs.tail
   have h2:=z89 hsi h1;exact (z1t M hokm (h2.pick [1,1])).sub
  have hfull:∀ {outs':List BatM} {j:Nat},outs'.map BatM.p=outs.map BatM.p++((t.s.bs.drop k).take j).filterMap (z0w off)->outs'.length=outs.length+(((t.s.bs.drop k).take j).filterMap (z0w off)).length:=λh=>by
   have:=congrArg List.length h;simpa using this
  refine zj (λ_ w'=>∃ outs':List BatM,outs'.map BatM.p=outs.map BatM.p++(t.s.bs.drop k).filterMap (z0w off)/\outs'.length<most/\outs'.length<=outs.length+t.s.bs.length/\Sat w' (slc T.a63 1 x (t.s.file.flatMap zk)::pt a (.cells #[.pointer (some ⟨t.ix,0,none⟩),.int .i64 t.s.base,.int .i64 t.s.fin,.int .i64 (z0s t.s.bs),.int .i64 (z1o (-1) t.s.bs),.int .i64 (t.s.file.length:Nat)] T.a56)::z2s t.ix (t.s.idx M.gap)::HP.all ((M.SM.eraseIdx i).map λt=>z0t M.gap t.1 t.2)::pt lg (.cells #[.pointer (some ⟨M.d,0,none⟩),.string M.pre,.int .i64 M.seg,.int .i64 M.gap,.slice M.z.a M.z.len M.z.cap] T.a55)::slc T.a36 1 M.z ((M.SM.map Prod.fst).flatMap z1v)::z5f ao outs'::dk M.d D::pt a1 (.cells [.int .i64 off].toArray T.a14)::pt a2 (.cells [.int .i64 (most:Int)].toArray T.a13)::r)) ?_ ?_;rotate_left
  ·rintro _ w2 ⟨outs',h1,h2,h3,hs⟩;have h4:=congrArg List.length h1;simp only [List.length_map,List.length_append] at h4;refine ⟨rfl,outs',by rw [decide_eq_true (by omega)],?_,h3,hfin hs⟩;rw [<- h1,List.take_of_length_le];rw [List.length_map];omega
  refine z0a (λm v w=>∃ (j:Nat) (outs':List BatM),v=(((z3d t.s (k+j):Nat):Int),())/\k+j<=t.s.bs.length/\t.s.bs.length-(k+j)=m/\outs'.map BatM.p=outs.map BatM.p++((t.s.bs.drop k).take j).filterMap (z0w off)/\outs'.length<most/\outs'.length<=outs.length+j/\Sat w (slc T.a63 1 x (t.s.file.flatMap zk)::pt a (.cells #[.pointer (some ⟨t.ix,0,none⟩),.int .i64 t.s.base,.int .i64 t.s.fin,.int .i64 (z0s t.s.bs),.int .i64 (z1o (-1) t.s.bs),.int .i64 (t.s.file.length:Nat)] T.a56)::z2s t.ix (t.s.idx M.gap)::HP.all ((M.SM.eraseIdx i).map λt=>z0t M.gap t.1 t.2)::pt lg (.cells #[.pointer (some ⟨M.d,0,none⟩),.string M.pre,.int .i64 M.seg,.int .i64 M.gap,.slice M.z.a M.z.len M.z.cap] T.a55)::slc T.a36 1 M.z ((M.SM.map Prod.fst).flatMap z1v)::z5f ao outs'::dk M.d D::pt a1 (.cells [.int .i64 off].toArray T.a14)::pt a2 (.cells [.int .i64 (most:Int)].toArray T.a13)::r)) (t.s.bs.length-k)
   ⟨0,outs,rfl,by omega,by omega,by simp,hout,by omega,hs⟩ ?_
  clear hs;rintro m _ w ⟨j,outs',rfl,hj,hm,hmap,hlt,hol',hs⟩;refine zh (z04 ?_);refine z8 hs ?_;have hple:=zki t.s (k+j);refine zi (λhc=>?_) λhc=>?_;rotate_left
  ·have hend:k+j=t.s.bs.length:=by
    apply Decidable.byContradiction;intro hne
    have hlt2:k+j<t.s.bs.length:=by omega
    have h1:=zm9 t.s hlt2;have h2:=zki t.s (k+j+1);have h3:=z68 (hok.bs.valid _ (List.getElem_mem hlt2)).1;exact hc ⟨by omega,by omega⟩
   refine zm (zg ⟨outs',?_,hlt,by omega,hs⟩);rw [hmap,List.take_of_length_le (by rw [List.length_drop];omega)]
  have hjl:k+j<t.s.bs.length:=by
   apply Decidable.byContradiction;intro hne
   have he:k+j=t.s.bs.length:=by omega
   have h1:=z04u t.s;rw [he] at hc;have hc1:((z3d t.s t.s.bs.length:Nat):Int)<(x.len:Nat):=hc.1;omega
  obtain ⟨hfst,hdec⟩:=zvz hok hjl;obtain ⟨hvb,hpb⟩:=hok.bs.valid _ (List.getElem_mem hjl);have hblen:=z84 hvb
  have hxl:z3d t.s (k+j)<=x.len:=by omega
  refine wp_must (by omega) ?_;rw [Int.toNat_natCast];have hxc:FocR (slc T.a63 1 x (t.s.file.flatMap zk)::pt a (.cells #[.pointer (some ⟨t.ix,0,none⟩),.int .i64 t.s.base,.int .i64 t.s.fin,.int .i64 (z0s t.s.bs),.int .i64 (z1o (-1) t.s.bs),.int .i64 (t.s.file.length:Nat)] T.a56)::z2s t.ix (t.s.idx M.gap)::HP.all ((M.SM.eraseIdx i).map λt=>z0t M.gap t.1 t.2)::pt lg (.cells #[.pointer (some ⟨M.d,0,none⟩),.string M.pre,.int .i64 M.seg,.int .i64 M.gap,.slice M.z.a M.z.len M.z.cap] T.a55)::slc T.a36 1 M.z ((M.SM.map Prod.fst).flatMap z1v)::z5f ao outs'::dk M.d D::pt a1 (.cells [.int .i64 off].toArray T.a14)::pt a2 (.cells [.int .i64 (most:Int)].toArray T.a13)::r) ⟨z0k x.a 1 (z3d t.s (k+j)) x.cap,x.len-z3d t.s (k+j),x.cap-z3d t.s (k+j)⟩ 1 ((t.s.file.drop (z3d t.s (k+j))).flatMap zk):=FocR.post hcap;refine zb (zdd ⟨z0k x.a 1 (z3d t.s (k+j)) x.cap,x.len-z3d t.s (k+j),x.cap-z3d t.s (k+j)⟩ (t.s.file.drop (z3d t.s (k+j))) (by show x.len-_<=x.cap-_;omega) (by rw [List.length_drop];omega) hs) λ_ w' hs=>?_;obtain ⟨y,rfl,hs⟩:=hs;rw [hfst] at hs ⊢;refine zd (wp_lt ?_);refine wp_lt ?_;dsimp only [Option.getD,Option.isSome];have hs:Sat w' (slc T.a63 1 y ((z2y t.s.bs[k+j]).flatMap zk)::_):=hs;refine z06 ?_ (by simp);refine zb (zo1 y (z2y t.s.bs[k+j]) (by omega) hs) λ_ w' hs=>?_
  rcases hs with ⟨b,z,hdec2,rfl,hs⟩|⟨hdec2,rfl,hs⟩
  rotate_left
  ·rw [hdec] at hdec2;cases hdec2
  rw [hdec] at hdec2;simp only [Option.some.injEq] at hdec2;subst hdec2;generalize hbb:t.s.bs[k+j]=b at *;refine ⟨(b.base,b.pid,b.epoch,b.seq,b.kind,b.time,z,0,()),rfl,trivial,zgc _ _ _ _ _ _ _ _ ?_⟩;refine zu hs λc w' hs=>zv hs λw' hs=>wp_lt ?_;have hzc:z.len<=z.cap:=(hs.pick [1]).slc_cap
  have htk:(t.s.bs.drop k).take (j+1)=(t.s.bs.drop k).take j++[b]:=by
   rw [List.take_succ_eq_append_getElem (by rw [List.length_drop];omega),List.getElem_drop,hbb]
  have hfp:(z0w off b).toList.map BatM.p=(z0w off b).toList:=by
   cases hfb:z0w off b with
   | none=>rfl
   | some c=>simp [ztx hpb hfb]
  have hfm:((t.s.bs.drop k).take (j+1)).filterMap (z0w off)=((t.s.bs.drop k).take j).filterMap (z0w off)++(z0w off b).toList:=by
   rw [htk,List.filterMap_append]
   congr 1
  have hpos:=zm9 t.s hjl;rw [hbb] at hpos;have hple2:=zki t.s (k+j+1);refine z3j (zl hs ?_);refine z06 ?_ (by simp)
  have hzb:FocR (pt c (.cells #[.int .i64 b.base,.int .i64 b.pid,.int .i64 b.epoch,.int .i64 b.seq,.int .i64 b.kind,.int .i64 b.time,.slice z.a z.len z.cap] T.a0)::slc T.a2 4 z (b.rs.flatMap z0f)::slc T.a63 1 y ((z2y b).flatMap zk)::slc T.a63 1 x (t.s.file.flatMap zk)::pt a (.cells #[.pointer (some ⟨t.ix,0,none⟩),.int .i64 t.s.base,.int .i64 t.s.fin,.int .i64 (z0s t.s.bs),.int .i64 (z1o (-1) t.s.bs),.int .i64 (t.s.file.length:Nat)] T.a56)::z2s t.ix (t.s.idx M.gap)::HP.all ((M.SM.eraseIdx i).map λt=>z0t M.gap t.1 t.2)::pt lg (.cells #[.pointer (some ⟨M.d,0,none⟩),.string M.pre,.int .i64 M.seg,.int .i64 M.gap,.slice M.z.a M.z.len M.z.cap] T.a55)::slc T.a36 1 M.z ((M.SM.map Prod.fst).flatMap z1v)::dk M.d D::pt a1 (.cells [.int .i64 off].toArray T.a14)::pt a2 (.cells [.int .i64 (most:Int)].toArray T.a13)::r) (b.at z).x 4 ((b.at z).rs.flatMap z0f):=(inferInstance:FocR (pt c (.cells #[.int .i64 b.base,.int .i64 b.pid,.int .i64 b.epoch,.int .i64 b.seq,.int .i64 b.kind,.int .i64 b.time,.slice z.a z.len z.cap] T.a0)::slc T.a2 4 z (b.rs.flatMap z0f)::_) z 4 (b.rs.flatMap z0f))
  have hs:Sat w' (z5f ao outs'::pt c (.cells #[.int .i64 b.base,.int .i64 b.pid,.int .i64 b.epoch,.int .i64 b.seq,.int .i64 b.kind,.int .i64 b.time,.slice z.a z.len z.cap] T.a0)::slc T.a2 4 z (b.rs.flatMap z0f)::slc T.a63 1 y ((z2y b).flatMap zk)::slc T.a63 1 x (t.s.file.flatMap zk)::pt a (.cells #[.pointer (some ⟨t.ix,0,none⟩),.int .i64 t.s.base,.int .i64 t.s.fin,.int .i64 (z0s t.s.bs),.int .i64 (z1o (-1) t.s.bs),.int .i64 (t.s.file.length:Nat)] T.a56)::z2s t.ix (t.s.idx M.gap)::HP.all ((M.SM.eraseIdx i).map λt=>z0t M.gap t.1 t.2)::pt lg (.cells #[.pointer (some ⟨M.d,0,none⟩),.string M.pre,.int .i64 M.seg,.int .i64 M.gap,.slice M.z.a M.z.len M.z.cap] T.a55)::slc T.a36 1 M.z ((M.SM.map Prod.fst).flatMap z1v)::dk M.d D::pt a1 (.cells [.int .i64 off].toArray T.a14)::pt a2 (.cells [.int .i64 (most:Int)].toArray T.a13)::r):=hs.sub;have htold:=z0dk (ao:=ao) (outs:=outs') (b.at z) off (most:Int) a1 a2 ho hzc (by omega) hs;refine ⟨F.a112,#[],#[.pointer (some ⟨a1,0,none⟩),.pointer (some ⟨ao,0,none⟩),.pointer (some ⟨a2,0,none⟩)],rfl,by kernel_rfl,?_⟩
  refine Calls.mono htold λe w' ⟨vs,he,outs2,hvs,hmap2,hs⟩=>⟨(decide ((outs2.length:Int)<(most:Int)),()),by rw [he,hvs];rfl,trivial,?_⟩
  refine z5a ?_
  have hfe:(z0w off (b.at z)).toList.map BatM.p=(z0w off b).toList:=by
   have hpz:b={ (b.at z) with x:=z9b }:=by rw [<- hpb];rfl
   have e2:z0w off (b.at z)=(z0w off b).map λc=>c.at z:=by
    unfold z0w;have ev:z02 (b.at z)=z02 b:=rfl;have en:z1u (b.at z)=z1u b:=rfl;have em:z0i (b.at z)=z0i b:=rfl;rw [ev,en,em];split
    ·rfl
    ·show (if z0i b=true\/off<=b.base then _ else _)=_;split <;> rfl
   rw [e2]
   cases hfb:z0w off b with
   | none=>rfl
   | some c =>
    have:=ztx hpb hfb;show [(c.at z).p]=[c];have e3:(c.at z).p=c.p:=rfl;rw [e3,this]
  rw [hfe,hmap,List.append_assoc,<- hfm] at hmap2;have hlen2:=hfull hmap2
  have hfl1:(z0w off b).toList.length<=1:=by cases z0w off b <;> simp
  have hlen1:=hfull hmap;rw [hfm,List.length_append] at hlen2
  have hback:∀ {w:World},Sat w (z5f ao outs2::pt c (.cells #[.int .i64 b.base,.int .i64 b.pid,.int .i64 b.epoch,.int .i64 b.seq,.int .i64 b.kind,.int .i64 b.time,.slice z.a z.len z.cap] T.a0)::slc T.a2 4 z (b.rs.flatMap z0f)::slc T.a63 1 y ((z2y b).flatMap zk)::slc T.a63 1 x (t.s.file.flatMap zk)::pt a (.cells #[.pointer (some ⟨t.ix,0,none⟩),.int .i64 t.s.base,.int .i64 t.s.fin,.int .i64 (z0s t.s.bs),.int .i64 (z1o (-1) t.s.bs),.int .i64 (t.s.file.length:Nat)] T.a56)::z2s t.ix (t.s.idx M.gap)::HP.all ((M.SM.eraseIdx i).map λt=>z0t M.gap t.1 t.2)::pt lg (.cells #[.pointer (some ⟨M.d,0,none⟩),.string M.pre,.int .i64 M.seg,.int .i64 M.gap,.slice M.z.a M.z.len M.z.cap] T.a55)::slc T.a36 1 M.z ((M.SM.map Prod.fst).flatMap z1v)::dk M.d D::pt a1 (.cells [.int .i64 off].toArray T.a14)::pt a2 (.cells [.int .i64 (most:Int)].toArray T.a13)::r) ->
    Sat w (slc T.a63 1 x (t.s.file.flatMap zk)::pt a (.cells #[.pointer (some ⟨t.ix,0,none⟩),.int .i64 t.s.base,.int .i64 t.s.fin,.int .i64 (z0s t.s.bs),.int .i64 (z1o (-1) t.s.bs),.int .i64 (t.s.file.length:Nat)] T.a56)::z2s t.ix (t.s.idx M.gap)::HP.all ((M.SM.eraseIdx i).map λt=>z0t M.gap t.1 t.2)::pt lg (.cells #[.pointer (some ⟨M.d,0,none⟩),.string M.pre,.int .i64 M.seg,.int .i64 M.gap,.slice M.z.a M.z.len M.z.cap] T.a55)::slc T.a36 1 M.z ((M.SM.map Prod.fst).flatMap z1v)::z5f ao outs2::dk M.d D::pt a1 (.cells [.int .i64 off].toArray T.a14)::pt a2 (.cells [.int .i64 (most:Int)].toArray T.a13)::r):=λhs=>hs.sub
  have hs:=hback hs;refine zi (λh5=>?_) λh5=>?_
  ·have h5:most<=outs2.length:=by
    have:¬ ((outs2.length:Int)<(most:Int)):=by simpa using h5
    omega
   have h6:outs2.length=most:=by omega
   have h7:((t.s.bs.drop k).filterMap (z0w off))=((t.s.bs.drop k).take (j+1)).filterMap (z0w off)++((t.s.bs.drop k).drop (j+1)).filterMap (z0w off):=by
    rw [<- List.filterMap_append,List.take_append_drop]
   have h8:=congrArg List.length hmap2;simp only [List.length_map,List.length_append] at h8;refine zm (zm ⟨rfl,outs2,?_,?_,by omega,hfin hs⟩)
   ·rw [decide_eq_false];rw [h7,List.length_append];omega
   ·rw [h7,<- List.append_assoc,<- hmap2];rw [List.take_append_of_le_length (by rw [List.length_map];omega),List.take_of_length_le (by rw [List.length_map];omega)]
  ·have h5:outs2.length<most:=by
    have:((outs2.length:Int)<(most:Int)):=by simpa using h5
    omega
   have ew:IntKind.wrap .i64 (((z3d t.s (k+j):Nat):Int)+((frL b).length:Nat))=((z3d t.s (k+(j+1)):Nat):Int):=by
    rw [show k+(j+1)=k+j+1 by omega,hpos,w64 (by omega) (by omega)];omega
   refine z27 (y:=((z3d t.s (k+(j+1)):Nat):Int)) ?_ ew;exact z0x (t.s.bs.length-(k+(j+1))) ⟨j+1,outs2,rfl,by omega,rfl,hmap2,h5,by omega,hs⟩
end
def znh (pre:ByteArray) (l:List SegA) (D:DiskA):Prop:=∀ s ∈ l,∃ k,z0r D.fs (zx pre s.base z08)=some (s.file,k)
theorem zlm {l:List SegA} (hok:z15 0 l):∀ s ∈ l,z19 l<=s.base:=by
 cases l with
 | nil=>intro s hs;cases hs
 | cons a l =>
  intro s hs;show a.base<=s.base
  rcases List.mem_cons.1 hs with rfl|hs
  ·exact Int.le_refl _
  ·have:=(hok.2.2.mem s hs).2;omega
theorem zio {l:List SegA} (hok:z15 0 l):z19 l<=zn l:=by
 by_cases h:l=[]
 ·subst h;decide
 ·obtain ⟨l0,s,rfl⟩:=z6b h;have h1:=zlm hok s (by simp);have h2:=(z74 (hok.mem s (by simp)).1).1;unfold zn;rw [z25];simp only;omega
theorem z09f {n:Int} {bs:List BatM} (h:z21 n bs):∀ b ∈ bs,n<=b.base:=by
 intro b hb;obtain ⟨j,hj,rfl⟩:=List.mem_iff_getElem.1 hb
 cases j with
 | zero =>
  cases bs with
  | nil=>simp at hj
  | cons c cs=>exact h.2.2.1
 | succ j =>
  have h1:=h.lt 0 (j+1) hj (by omega);obtain ⟨s1,-,-,-,-⟩:=z1d _ (h.valid _ (List.getElem_mem (show 0<bs.length by omega))).1;omega
theorem z00p {off:Int} {b:BatM} (hv:z02 b=0) (h:off<=b.base):z0w off b=some b:=by
 obtain ⟨s1,-,-,-,-⟩:=z1d b hv;unfold z0w;rw [if_neg,if_pos (.inr h)];rintro (hh|hh)
 ·exact hh hv
 ·unfold z1u at hh;rw [if_neg (by rw [hv];simp)] at hh;omega
theorem zo7 {α:Type} {f:α->Option α} {l:List α} (h:∀ x ∈ l,f x=some x):l.filterMap f=l:=by
 induction l with
 | nil=>rfl
 | cons a l ih=>rw [List.filterMap_cons,h a (List.mem_cons_self ..)];simp only;rw [ih λx hx=>h x (List.mem_cons_of_mem _ hx)]
theorem zpc {l:List SegA} (hok:z15 0 l) {n:Int} (hn:(z0e l).length<=n) (h1:1<=n):z5h l (z19 l) n=(0,z0e l):=by
 have:=zio hok;unfold z5h;rw [if_neg (by omega),if_neg (by omega),zo7,List.take_of_length_le (by omega)];intro b hb;obtain ⟨s,hs,hbs⟩:=List.mem_flatMap.1 hb;have h2:=hok.mem s hs;exact z00p (h2.1.bs.valid b hbs).1 (by have:=zlm hok s hs;have:=z09f h2.1.bs b hbs;omega)
section
variable {w:World} {l r r1 r2:List HP} {lg ao:Nat} {M:LogM} {A:LogA} {D:DiskA} {gap:Int} {a:Nat} {t:SegM} {outs:List BatM}
theorem z054 (i:Nat) (a0 a1:Nat) (off:Int) (hi:i<M.SM.length)
  (hs:Sat w (pt a0 (.cells [.pointer (some ⟨lg,0,none⟩)].toArray T.a35)::pt a1 (.cells [.int .i64 off].toArray T.a14)::lgQ lg M::r)) :
  Ret P F.a111 #[.int .i64 (i:Int),.pointer (some ⟨a0,0,none⟩),.pointer (some ⟨a1,0,none⟩)] w λvs w'=>vs=[.bool (decide (M.SM[i].2.s.base>off))]/\Sat w' (pt a0 (.cells [.pointer (some ⟨lg,0,none⟩)].toArray T.a35)::pt a1 (.cells [.int .i64 off].toArray T.a14)::lgQ lg M::r) :=
 zr1 _ _ _ <| by
  delta z070 AC AE AN AR Ab Aj Ak Ao B6 B7 Bq;obtain ⟨hokm,hs⟩:=z35 (hs.pick [2]);refine zt hs λw' hs=>z8 hs (zf ?_);refine z8 hs (z1g hs (xs:=M.SM.map Prod.fst) (enc:=z1v) i (by rw [List.length_map];exact hi) ?_)
  have e0:(M.SM.map Prod.fst)[i]'(by rw [List.length_map];exact hi)=M.SM[i].1:=by simp
  rw [e0];refine zf ?_;have hs:=z4i (zbh (hs.pick [2]) hi);refine z8 hs (z8 hs ?_);refine wp_lt (ze ?_);have hs:=z89 hi (z30 M.SM[i].2 hs);have hs:=z1t M hokm (hs.pick [1,1]);exact ⟨rfl,rfl,hs.sub⟩
set_option maxHeartbeats 1000000 in
theorem zub (off most:Int) (ho : -9223372036854775808<=off/\off<9223372036854775808) (hmo:most<9223372036854775808) {r1:List HP} [hf:Fo l lgP lg A r1] [hf2:Fo r1 dk A.d D r] (hok:z15 0 A.l) (hhas:znh A.pre A.l D) (hlen:A.l.length<=1000000) (hall:(z0e A.l).length<=1000000) (hs:Sat w l) :
  Ret P F.a110 #[.pointer (some ⟨lg,0,none⟩),.int .i64 off,.int .i64 most] w λvs w'=>∃ (z:Sl) (outs:List BatM),vs=[z.v,.int .i64 (z5h A.l off most).1]/\outs.map BatM.p=(z5h A.l off most).2/\Sat w' (slc T.a0 7 z (outs.flatMap z01)::z28 outs::lgP lg A::dk A.d D::r) :=
 zr0 _ off most <| by
  clear hmo;delta z06z AA AB AC AE AH AJ AN AP AW Aa Ab Ac Ad Af Ag Aj Ak Al Am Ao Av Az Bq Bt Bu;have hs:=hs.perm (hf.perm.trans (.cons _ hf2.perm));clear hf hf2;obtain ⟨M,rfl,hs⟩:=z97 hs;have hMl:M.A.l=M.l:=rfl;have hMpre:M.A.pre=M.pre:=rfl;have hMd:M.A.d=M.d:=rfl;rw [hMl] at hlen hok hhas hall ⊢;rw [hMpre] at hhas;rw [hMd] at hs ⊢;have hll:M.l.length=M.SM.length:=List.length_map ..
  have z4r:∀ (i:Nat) (h:i<M.SM.length),M.SM[i].2.s=M.l[i]'(by omega):=λi h=>by unfold LogM.l;simp
  obtain ⟨m_,FS_,-,hokD,-⟩:=z2h (hs.pick [1]);refine zr hs λa0 w' hs=>zr hs λa1 w' hs=>zr hs λa2 w' hs=>z8 hs (wp_lt ?_);refine z06 ?_ (by simp);refine z8 hs (wp_lt ?_);have hfin0:∀ {w:World} {L:List HP},Sat w (lgQ lg M::dk M.d D::r)->Sat w (slc T.a0 7 ⟨none,0,0⟩ (([]:List BatM).flatMap z01)::z28 []::lgP lg M.A::dk M.d D::r):=λhs=>(znr (z50 M hs)).slc_nil;unfold z5h;refine zi (λh=>?_) λh=>?_
  ·rw [if_pos (show most<1 by omega)];have hs:Sat w' (lgQ lg M::dk M.d D::r):=hs.sub;exact ⟨rfl,⟨none,0,0⟩,[],rfl,rfl,hfin0 (L:=[]) hs⟩
  rw [if_neg (show ¬ most<1 by omega)];refine zj (λq w'=>q=(decide (off<z19 M.l\/off>zn M.l),())/\Sat w' (pt a2 (.cells [.int .i64 most].toArray T.a13)::pt a1 (.cells [.int .i64 off].toArray T.a14)::pt a0 (.cells [.pointer (some ⟨lg,0,none⟩)].toArray T.a35)::lgQ lg M::dk M.d D::r)) ?_ ?_
  ·refine zt hs λw' hs=>z0y hs (z8 hs ?_);refine zb (zk5 (lg:=lg) hs) λ_ w' hs=>?_;obtain ⟨rfl,hs⟩:=hs;refine zd ?_ (by first|trivial|(repeat (first|exact trivial|exact λ_=>z09 hs|exact λ_=>z0g hs|refine And.intro ?_ ?_)));refine z0y hs (z8 hs ?_);refine zi (λh1=>?_) λh1=>?_
   ·exact ze (zg ⟨by rw [decide_eq_true (.inl h1)],hs.sub⟩)
   ·refine zb (zcv (lg:=lg) (by omega) hs) λ_ w' hs=>?_;obtain ⟨rfl,hs⟩:=hs;refine zd ?_ (by first|trivial|(repeat (first|exact trivial|exact λ_=>z09 hs|exact λ_=>z0g hs|refine And.intro ?_ ?_)));refine wp_lt (ze ?_);refine zg ⟨?_,hs.sub⟩;rw [decide_eq_decide.2 (show (off<z19 M.l\/off>zn M.l)↔off>zn M.l from ⟨λhh=>hh.resolve_left h1,.inr⟩)]
  rintro _ w2 ⟨rfl,hs⟩;refine zi (λh1=>?_) λh1=>?_
  ·have h1:off<z19 M.l\/off>zn M.l:=by simpa using h1
   rw [if_pos h1];have hs:Sat w2 (lgQ lg M::dk M.d D::r):=hs.sub;exact ⟨rfl,⟨none,0,0⟩,[],rfl,rfl,hfin0 (L:=[]) hs⟩
  have h1:¬ (off<z19 M.l\/off>zn M.l):=by simpa using h1
  rw [if_neg h1]
  obtain ⟨mN,rfl⟩:∃ mN:Nat,most=(mN:Int):=⟨most.toNat,by omega⟩
  rw [Int.toNat_natCast];refine zu hs λao w' hs=>z8 hs (zf ?_);obtain ⟨hokm,hs⟩:=z35 (hs.pick [4]);refine z8 hs ?_;have hl:=hs.slen M.z (xs:=M.SM.map Prod.fst) (enc:=z1v);rw [List.length_map] at hl;have hs:=z1t M hokm hs;have hs:Sat w' (pt a0 (.cells [.pointer (some ⟨lg,0,none⟩)].toArray T.a35)::pt a1 (.cells [.int .i64 off].toArray T.a14)::lgQ lg M::pt ao (.cells #[.slice none 0 0] T.a41)::pt a2 (.cells [.int .i64 (mN:Int)].toArray T.a13)::dk M.d D::r):=hs.sub;rw [hl];refine zb (zi1 M.SM.length (by omega) F.a111 #[.pointer (some ⟨a0,0,none⟩),.pointer (some ⟨a1,0,none⟩)] (λi=>decide (((M.l.map SegA.base).getD i 0)>off)) (by kernel_rfl) (λi w hi hs=>?_) hs) λ_ w' hs=>?_
  ·have e:(M.l.map SegA.base).getD i 0=M.SM[i].2.s.base:=by
    rw [List.getD_eq_getElem?_getD,List.getElem?_map,List.getElem?_eq_getElem (by omega),z4r i hi];rfl
   simp only [e];exact z054 (M:=M) i a0 a1 off hi hs
  obtain ⟨i0,hi0,hs1,hs2,rfl,hs⟩:=hs;refine zd (z27 (y:=(i0:Int)-1) ?_ (by rw [w64 (by omega) (by omega)]));refine z27 (y:=((i0-1:Nat):Int)) ?_ (by split <;> omega)
  have hskip:i0-1<M.SM.length->(z0e M.l).filterMap (z0w off)=(z0e (M.l.drop (i0-1))).filterMap (z0w off):=λhlt=>by
   refine z05g hok (i:=i0-1) (by omega) ?_
   by_cases h0:i0=0
   ·right;omega
   ·left;have h2:=hs1 (by omega);rw [List.getD_eq_getElem?_getD,List.getElem?_map,List.getElem?_eq_getElem (by omega)] at h2;have h2:decide ((M.l[i0-1]'(by omega)).base>off)=false:=h2;simpa using h2
  have hs:Sat w' (z5f ao []::lgQ lg M::dk M.d D::pt a1 (.cells [.int .i64 off].toArray T.a14)::pt a2 (.cells [.int .i64 (mN:Int)].toArray T.a13)::pt a0 (.cells [.pointer (some ⟨lg,0,none⟩)].toArray T.a35)::r):=by
   have h3:Sat w' (slc T.a0 7 ⟨none,0,0⟩ (([]:List BatM).flatMap z01)::z28 []::_):=(znr hs).slc_nil;have h4:Sat w' (pt ao (.cells #[.slice none 0 0] T.a41)::slc T.a0 7 ⟨none,0,0⟩ (([]:List BatM).flatMap z01)::z28 []::lgQ lg M::dk M.d D::pt a1 (.cells [.int .i64 off].toArray T.a14)::pt a2 (.cells [.int .i64 (mN:Int)].toArray T.a13)::pt a0 (.cells [.pointer (some ⟨lg,0,none⟩)].toArray T.a35)::r):=h3.sub;exact zff (z:=⟨none,0,0⟩) h4
  refine zj (λ_ w'=>∃ outs:List BatM,outs.map BatM.p=((z0e M.l).filterMap (z0w off)).take mN/\Sat w' (z5f ao outs::lgQ lg M::dk M.d D::pt a1 (.cells [.int .i64 off].toArray T.a14)::pt a2 (.cells [.int .i64 (mN:Int)].toArray T.a13)::pt a0 (.cells [.pointer (some ⟨lg,0,none⟩)].toArray T.a35)::r)) ?_ ?_;rotate_left
  ·rintro _ w3 ⟨outs,h4,hs⟩;obtain ⟨z,hs⟩:=zp3 hs;refine z8 hs ⟨rfl,z,outs,rfl,h4,?_⟩;have hs:Sat w3 (lgQ lg M::slc T.a0 7 z (outs.flatMap z01)::z28 outs::dk M.d D::r):=hs.sub;have hs:=z50 M hs;exact hs.sub
  have hpre:∀ (j:Nat),i0-1<=j->j<=M.l.length->(z0e ((M.l.drop (i0-1)).take (j-(i0-1)))).length<=1000000:=λj h1 h2=>by
   refine Nat.le_trans ?_ hall
   have:∀ (a b:List SegA),a.Sublist b->(z0e a).length<=(z0e b).length:=λa b h=>by
    induction h with
    | slnil=>exact Nat.le_refl _
    | cons x _ ih=>unfold z0e at *;rw [List.flatMap_cons,List.length_append];omega
    | cons_cons x _ ih=>unfold z0e at *;rw [List.flatMap_cons,List.flatMap_cons,List.length_append,List.length_append];omega
   exact this _ _ ((List.take_sublist _ _).trans (List.drop_sublist _ _))
  refine z0a (λm v w=>∃ (j:Nat) (outs:List BatM),v=((j:Int),())/\i0-1<=j/\(j<=M.SM.length\/j=i0-1)/\M.SM.length-j=m/\outs.map BatM.p=(z0e ((M.l.drop (i0-1)).take (j-(i0-1)))).filterMap (z0w off)/\outs.length<mN /\
   Sat w (z5f ao outs::lgQ lg M::dk M.d D::pt a1 (.cells [.int .i64 off].toArray T.a14)::pt a2 (.cells [.int .i64 (mN:Int)].toArray T.a13)::pt a0 (.cells [.pointer (some ⟨lg,0,none⟩)].toArray T.a35)::r)) (M.SM.length-(i0-1))
   ⟨i0-1,[],rfl,Nat.le_refl _,.inr rfl,rfl,by simp [z0e],by show 0<mN;omega,hs⟩ ?_
  clear hs;rintro m _ w ⟨j,outs,rfl,hj1,hj2,hm,hmap,hlt,hs⟩;refine zh (z8 hs ?_);refine zf ?_;obtain ⟨hokm,hs⟩:=z35 (hs.pick [1]);refine z8 hs (zi (λhc=>?_) λhc=>?_);rotate_left
  ·have hs:=z1t M hokm hs;refine zm (zg ⟨outs,?_,hs.sub⟩)
   by_cases hlt2:i0-1<M.SM.length
   ·have hje:j=M.SM.length:=by omega
    rw [hskip hlt2,hmap,hje];rw [List.take_of_length_le (l:=M.l.drop (i0-1)) (by rw [List.length_drop];omega)] at hmap ⊢;have:=congrArg List.length hmap;rw [List.length_map] at this;rw [List.take_of_length_le (by omega)]
   ·have h0:M.l=[]:=List.length_eq_zero_iff.1 (by omega);rw [hmap,h0];simp [z0e]
  have hjl:j<M.SM.length:=by omega
  refine z8 hs (zf ?_);refine z8 hs (z1g hs (xs:=M.SM.map Prod.fst) (enc:=z1v) j (by rw [List.length_map];exact hjl) ?_)
  have e0:(M.SM.map Prod.fst)[j]'(by rw [List.length_map];exact hjl)=M.SM[j].1:=by simp
  rw [e0];have hmem:M.SM[j].2.s ∈ M.l:=List.mem_map.2 ⟨_,List.getElem_mem hjl,rfl⟩;have hsok:=(hok.mem _ hmem).1;obtain ⟨kp,hfile⟩:=hhas _ hmem;have hrl:M.SM[j].2.s.file.length<=4194304:=Nat.le_trans (zfr hfile) hokD.used;have hbl:=zk4 hsok;obtain ⟨k,hk,hpl,hskp⟩:=z00i hsok hrl M.gap off
  have hlt2:i0-1<M.SM.length:=by omega
  have hstep:(M.l.drop (i0-1)).take (j+1-(i0-1))=(M.l.drop (i0-1)).take (j-(i0-1))++[M.SM[j].2.s]:=by
   rw [show j+1-(i0-1)=(j-(i0-1))+1 by omega,List.take_succ_eq_append_getElem (by rw [List.length_drop];omega),List.getElem_drop,z4r j hjl]
   congr 3
   omega
  have hnone:(M.SM[j].2.s.bs).filterMap (z0w off)=(M.SM[j].2.s.bs.drop k).filterMap (z0w off):=by
   have e:M.SM[j].2.s.bs=M.SM[j].2.s.bs.take k++M.SM[j].2.s.bs.drop k:=(List.take_append_drop _ _).symm
   calc (M.SM[j].2.s.bs).filterMap (z0w off)=(M.SM[j].2.s.bs.take k++M.SM[j].2.s.bs.drop k).filterMap (z0w off):=by rw [<- e]
    _=(M.SM[j].2.s.bs.drop k).filterMap (z0w off):=by
     rw [List.filterMap_append,zco (l:=M.SM[j].2.s.bs.take k),List.nil_append];intro b hb;exact ziq (hsok.bs.valid b (List.mem_of_mem_take hb)).1 (hskp b hb)
  have hall2:(z0e ((M.l.drop (i0-1)).take (j+1-(i0-1)))).filterMap (z0w off)=(z0e ((M.l.drop (i0-1)).take (j-(i0-1)))).filterMap (z0w off)++(M.SM[j].2.s.bs.drop k).filterMap (z0w off):=by
   rw [hstep];unfold z0e;rw [List.flatMap_append,List.filterMap_append,<- hnone];simp
  have hol:outs.length<=1000000:=by
   have:=congrArg List.length hmap;rw [List.length_map] at this;rw [this];exact Nat.le_trans (List.length_filterMap_le _ _) (hpre j hj1 (by omega))
  refine zj (λq w'=>∃ outs':List BatM,q=(decide (outs.length+((M.SM[j].2.s.bs.drop k).filterMap (z0w off)).length<mN),())/\outs'.map BatM.p=(outs.map BatM.p++(M.SM[j].2.s.bs.drop k).filterMap (z0w off)).take mN /\
    Sat w' (z5f ao outs'::lgQ lg M::dk M.d D::pt a1 (.cells [.int .i64 off].toArray T.a14)::pt a2 (.cells [.int .i64 (mN:Int)].toArray T.a13)::pt a0 (.cells [.pointer (some ⟨lg,0,none⟩)].toArray T.a35)::r)) ?_ ?_
  ·refine zt hs λw' hs=>z0y hs (z8 hs ?_);have hs:=zbh (hs.pick [2]) hjl;refine zb (z0b8 (gap:=M.gap) (a:=M.SM[j].1) (t:=M.SM[j].2) off hsok hrl hs) λ_ w' hs=>?_;obtain ⟨rfl,hs⟩:=hs;refine zd ?_ (by first|trivial|(repeat (first|exact trivial|exact λ_=>z09 hs|exact λ_=>z0g hs|refine And.intro ?_ ?_)));refine ze ?_;have hs:=z89 hjl hs;have hs:=z1t M hokm (hs.pick [1,1]);have hs:Sat w' (z5f ao outs::lgQ lg M::dk M.d D::pt a1 (.cells [.int .i64 off].toArray T.a14)::pt a2 (.cells [.int .i64 (mN:Int)].toArray T.a13)::pt a0 (.cells [.pointer (some ⟨lg,0,none⟩)].toArray T.a35)::r):=hs.sub;rw [hpl];refine zb (z0do off mN a1 a2 ho hjl hsok hfile hk hlt (by omega) hs) λ_ w' hs=>?_;obtain ⟨outs',rfl,hm2,-,hs⟩:=hs;refine zd (wp_lt ?_);exact ze (zg ⟨outs',rfl,hm2,hs⟩)
  clear hs;rintro _ w3 ⟨outs',rfl,hm2,hs⟩;rw [hmap,<- hall2] at hm2;have hlm:=congrArg List.length hmap;rw [List.length_map] at hlm;refine zi (λh5=>?_) λh5=>?_
  ·have h5:¬ (outs.length+((M.SM[j].2.s.bs.drop k).filterMap (z0w off)).length<mN):=by simpa using h5
   refine zm (zg ⟨outs',?_,hs⟩);rw [hm2,hskip hlt2]
   have e:z0e (M.l.drop (i0-1))=z0e ((M.l.drop (i0-1)).take (j+1-(i0-1)))++z0e ((M.l.drop (i0-1)).drop (j+1-(i0-1))):=by
    unfold z0e;rw [<- List.flatMap_append,List.take_append_drop]
   rw [e,List.filterMap_append,List.take_append_of_le_length];rw [hall2,List.length_append];omega
  ·have h5:(outs.length+((M.SM[j].2.s.bs.drop k).filterMap (z0w off)).length<mN):=by simpa using h5
   refine z27 (y:=((j+1:Nat):Int)) ?_ (by rw [w64 (by omega) (by omega)];omega)
   have hll2:((z0e ((M.l.drop (i0-1)).take (j+1-(i0-1)))).filterMap (z0w off)).length<mN:=by rw [hall2,List.length_append];omega
   rw [List.take_of_length_le (by omega)] at hm2;have hl3:=congrArg List.length hm2;rw [List.length_map] at hl3;exact z0x (M.SM.length-(j+1)) ⟨j+1,outs',rfl,by omega,.inl (by omega),rfl,hm2,by omega,hs⟩
theorem z0cq {r1:List HP} [hf:Fo l lgP lg A r1] [hf2:Fo r1 dk A.d D r] (hok:z15 0 A.l) (hhas:znh A.pre A.l D) (hlen:A.l.length<=1000000) (hall:(z0e A.l).length<=1000000) (hs:Sat w l) :
  Ret P F.a106 #[.pointer (some ⟨lg,0,none⟩)] w λvs w'=>∃ (z:Sl) (outs:List BatM),vs=[z.v]/\outs.map BatM.p=z0e A.l/\Sat w' (slc T.a0 7 z (outs.flatMap z01)::z28 outs::lgP lg A::dk A.d D::r) :=
 zqw _ <| by
  delta z06v Aa Ab Ac Ad Al Am Bo;have hs:=hs.perm (hf.perm.trans (.cons _ hf2.perm));clear hf hf2;have hfn:=zio hok;have hnx:=hok.next (Int.le_refl 0)
  have hf0:0<=z19 A.l:=by
   cases hq:A.l with
   | nil=>decide
   | cons s l0=>rw [hq] at hok;have:=hok.1;exact this
  refine z06 ?_ (by simp);obtain ⟨M,hM,hs⟩:=z97 hs;subst hM;refine zb (zk5 (lg:=lg) hs) λ_ w' hs=>?_;obtain ⟨rfl,hs⟩:=hs;refine zd ?_;have hs:=z50 M hs;have hfn:z19 M.l<=zn M.l:=hfn;have hnx:0<=zn M.l/\zn M.l<=1099511627777:=hnx;have hf0:0<=z19 M.l:=hf0;refine zb (zub (lg:=lg) (A:=M.A) (D:=D) (z19 M.l) 1099511627776 (by omega) (by omega) hok hhas hlen hall hs) λ_ w' hs=>?_;obtain ⟨z,outs,rfl,hmap,hs⟩:=hs;refine zd (wp_lt ?_);have hra:z5h M.A.l (z19 M.l) 1099511627776=(0,z0e M.A.l):=zpc hok (by omega) (by omega);rw [hra] at hmap;exact ⟨rfl,z,outs,rfl,hmap,hs⟩
end
end Go.Dec
