/- Disks: Names, part 2: the walk of a loop over maps.Keys that filters and collects (turned from the kit's worked example of such a loop). -/
import Derived.Test.YtnfaklmndojeaaaN1
namespace Go.Proofs.Ytnfaklmndojeaaa
open Go.RowKit Go.Maps Go.Sort Go.Proofs Go.Shelf
set_option linter.unusedVariables false
set_option linter.unusedSimpArgs false

attribute [local go_sem] Oper.semAt_some

/-- The names that begin so. -/
def posF (p : ByteArray) (ss : List (List UInt8)) : List (List UInt8) := ss.filter fun x => preF p ⟨x.toArray⟩
theorem pos_hit (p : ByteArray) (pre : List (List UInt8)) {x : List UInt8} (h : preF p ⟨x.toArray⟩ = true) : posF p (pre ++ [x]) = posF p pre ++ [x] := by simp [posF, h]
theorem pos_miss (p : ByteArray) (pre : List (List UInt8)) {x : List UInt8} (h : ¬ preF p ⟨x.toArray⟩ = true) : posF p (pre ++ [x]) = posF p pre := by simp [posF, h]

theorem info9 : (Try.prog.info? 9).map (fun i => (i.zero, i.size, i.bytes)) = some (some (.string ByteArray.empty), 1, 16) := by kernel_rfl

set_option maxRecDepth 100000 in
set_option maxHeartbeats 2000000 in
theorem names_in {H : Type} (n : Nat) (hn : 3 ≤ n) (d b nn : Nat) (p : ByteArray) (w : World) (D0 : DataW H) {R : Value → Option (DataW H × List MemPlace)} (hown : w.ownsMap Try.prog 9 R b nn D0) (hd : d < w.heap.size)
    (hc : w.cell? ⟨d, 4, none⟩ = some (.map (some b))) (hmax : Maps.size D0 ≤ 1000) (fin : Value → World → Prop)
    (hsort : ∀ (D : Nat) (ss : List (List UInt8)) (v : Value) (W : World), w.heap.size + 2 ≤ D → ss.Perm (strKeys D0) → Boxed W (w.heap.size + 1) 35 v → W.ownsRow (w.heap.size + 1) 9 1 v (posF p ss).length ((posF p ss).map encStr) → Below w.heap.size w W →
      W.heap[D]? = some (.deferred (some [])) → CallsIn Fence.wide (n - 1) Try.prog 44 #[v] W fun e W' => e = .returned (.tuple #[]) ∧ W'.cell? ⟨w.heap.size + 1, 0, none⟩ = some v ∧ W'.heap[D]? = some (.deferred (some [])) ∧ fin v (W'.putObj D (.deferred none))) :
    CallsIn Fence.wide n Try.prog 19 #[.pointer (some ⟨d, 0, none⟩), .string p] w fun e W' => ∃ v, e = .returned v ∧ fin v W' := by
  have h1 : 1 ≤ n := by omega
  obtain ⟨i0, hi, hz0, hz1, hz2⟩ := info_parts info9
  have hbl := hown.lt
  have hc2 : ((w.alloc (.cells #[.string p] 9)).alloc (.cells #[.slice none 0 0] 35)).cell? ⟨d, 4, none⟩ = some (.map (some b)) := by
    rw [World.cell?_alloc_past _ _ _ (by simp; omega), World.cell?_alloc_past _ _ _ hd]; exact hc
  refine callsIn_of_wp_marks Try.func19 rfl trivial ?_ rfl
  simp only [Try.ntmps19, List.size_toArray, List.length_cons, List.length_nil, Nat.reduceAdd, Nat.reduceSub, Array.replicate_succ, Array.replicate_zero, List.push_toArray, List.append_toArray, List.nil_append, List.cons_append]
  gi_wp2_with (refine ⟨trivial, ?_⟩; gi_at_call 42; refine (callsIn_wide.2 (keys_in _ _)).mono ?_; rintro e w' ⟨rfl, rfl⟩)
  have bP := Boxed.new w 9 (.string p)
  have bO := Boxed.new (w.alloc (.cells #[.string p] 9)) 35 (.slice none 0 0)
  have bM := Boxed.new ((w.alloc (.cells #[.string p] 9)).alloc (.cells #[.slice none 0 0] 35)) 66 (.map (some b))
  rw [World.size_alloc] at bO bM
  rw [World.size_alloc] at bM
  have hB0 : Below w.heap.size w (((w.alloc (.cells #[.string p] 9)).alloc (.cells #[.slice none 0 0] 35)).alloc (.cells #[.map (some b)] 66)) := (((Below.refl _ w).alloc (Nat.le_refl _) _).alloc (by simp) _).alloc (by simp; omega) _
  have hown0 : (((w.alloc (.cells #[.string p] 9)).alloc (.cells #[.slice none 0 0] 35)).alloc (.cells #[.map (some b)] 66)).ownsMap Try.prog 9 R b nn D0 := by
    obtain ⟨es, clock, hb, Ft, hs, hD⟩ := hown
    exact ⟨es, clock, (hB0.block b hbl).trans hb, Ft, hs, hD⟩
  have hseq : SeqStops Fence.wide (n - 1) Try.prog 55 #[.pointer (some ⟨w.heap.size + 1 + 1, 0, none⟩)] encStr (fun ss => ss.Perm (strKeys D0)) (fun _ => True) (Maps.size D0) (((w.alloc (.cells #[.string p] 9)).alloc (.cells #[.slice none 0 0] 35)).alloc (.cells #[.map (some b)] 66)) := fun l J Jx W hW hJ hJx hY h0 => by
    have hown' : W.ownsMap Try.prog 9 R b nn D0 := by
      obtain ⟨es, clock, hb, Ft, hs, hD⟩ := hown0
      exact ⟨es, clock, (hW.block b (by simp; omega)).trans hb, Ft, hs, hD⟩
    exact keys1_in Fence.wide (n - 1) trivial rfl (by omega) l (w.heap.size + 1 + 1) b nn D0 J Jx hY W hJ ((hW.cell (p := ⟨w.heap.size + 1 + 1, 0, none⟩) (by simp)).trans bM.cell) hown' h0
  refine wpIn_rangeFunc_ownG rfl h1 (gf := 55) (lb := #[.pointer (some ⟨w.heap.size + 1 + 1, 0, none⟩)]) rfl trivial (enters_of Try.func55 (by kernel_rfl) rfl)
    (encs := fun x => #[encStr x]) (Kp := KeepsWalks) (S := fun ss => ss.Perm (strKeys D0)) (Sp := fun _ => True) (N := Maps.size D0) hseq walksK_t (fun W l o o' _ h _ hw => KeepsWalks.putObj _ h hw) (Below.refl _ _) (fun _ => rfl)
    (fun pre W => ((∃ v, Boxed W (w.heap.size + 1) 35 v ∧ W.ownsRow (w.heap.size + 1) 9 1 v (posF p pre).length ((posF p pre).map encStr) ∧ True) ∧ Boxed W w.heap.size 9 (.string p)) ∧ Below w.heap.size w W)
    (fun _ _ _ => False)
    (OwnFrom.and (OwnFrom.and (Own.from (holdsRow_own (w.heap.size + 1) (w.heap.size + 1) 35 9 1 (fun pre => (posF p pre).length) (fun pre => (posF p pre).map encStr) (fun _ _ => True)) _) (Own.from (boxed_own w.heap.size 9 (fun _ => .string p)) _)) (ownFrom_below (Nat.le_refl _) (by simp; omega)))
    (fun _ _ _ _ _ hs _ _ => hs)
    ⟨⟨⟨_, bO.alloc _, World.ownsRow_nil _ _ _ _, trivial⟩, (bP.alloc _).alloc _⟩, hB0⟩
    (fun x => { tmps := #[Value.pointer (some { block := d, off := 0 }), Value.string p, undef,
                Value.pointer (some { block := w.heap.size, off := 0 }), Value.slice none 0 0,
                Value.pointer (some { block := w.heap.size + 1, off := 0 }), encStr x,
                Value.pointer (some { block := d, off := 0 }), Value.bool false,
                Value.pointer (some { block := d, off := 0 }), Value.pointer (some { block := d, off := 0 }),
                Value.pointer (some { block := d, off := 4 }), Value.map (some b), .func (.func 55) #[] #[.pointer (some ⟨w.heap.size + 1 + 1, 0, none⟩)], encStr x, undef, undef, undef, undef, undef,
                undef, undef, undef, undef, undef], defers := [] }) ?assign ?body ?done ?stop
  case assign =>
    intro l x W K hK
    gi_wp2
    exact hK
  case body =>
    rintro l pre x W ⟨⟨⟨v, hv, hrow, -⟩, hbp⟩, hB⟩ hlt
    have hcv := hv.cell
    have hcp := hbp.cell
    have hpl : (posF p pre).length ≤ pre.length := List.length_filter_le _ _
    have hml : 1000 ≤ maxLen := by decide
    have hvl := hv.lt
    gi_wp2_with (first
      | (refine ⟨trivial, fun _ => by omega, ?_⟩; gi_at_call 43; refine (CallsIn.inRound l (callsIn_wide.2 (prefix_c ⟨x.toArray⟩ p W))).mono ?_; rintro e w' ⟨rfl, he⟩; have he := he.symm; subst he)
      | (gi_at_builtin; refine wpListIn_append_own _ rfl _ _ 35 rfl (w.heap.size + 1) 9 i0 (.string ByteArray.empty) 1 16 Try.underlying35 hi hz0 hz1 hz2 rfl (by decide) _ _ _ rfl (hrow.alloc _) ⟨W.heap.size, 0, none⟩ 1 1 [encStr x] rfl rfl (cell_one_new _ _ _) (by simp [Value.oneCell', encStr]) (by omega) (by omega) (by simp; omega) ?_; intro v' w1 hown' hgrow _; obtain ⟨g', cap', rfl⟩ := ownsRow_succ hown'; obtain ⟨hv1, hv2, hr2, hk2, hb2⟩ := hv.appended (by decide) hrow (by omega) (by omega) hown' hgrow; have hc1 := hv1.cell; have hf1 := hv1.frozen))
    · have hx : preF p ⟨x.toArray⟩ = true := by assumption
      exact ⟨hk2.from _, hk2.walks, ⟨⟨⟨_, hv2, by rw [pos_hit p pre hx]; simpa using hr2, trivial⟩, (hb2.block w.heap.size (by omega)).trans hbp⟩, hB.trans (hb2.mono (by omega))⟩⟩
    · have hx : ¬ preF p ⟨x.toArray⟩ = true := by rename_i hx; rw [hx]; simp
      exact ⟨KeepsFrom.refl _ _, (KeepsOthers.refl _).walks, ⟨⟨⟨v, hv, by rw [pos_miss p pre hx]; exact hrow, trivial⟩, hbp⟩, hB⟩⟩
  case done =>
    rintro D ys W hD hS ⟨⟨⟨v, hv, hrow, -⟩, hbp⟩, hB⟩ hK
    have hcv := hv.cell
    have hvl := hv.lt
    have hD2 : w.heap.size + 2 ≤ D := by simp at hD; omega
    gi_wp2_with (refine ⟨trivial, ?_⟩; gi_at_call 44; refine (hsort D ys v W hD2 hS hv hrow hB hK).mono ?_; rintro e w' ⟨rfl, hc1, hK1, hfin⟩)
    refine ⟨by simp, .inl ⟨_, _, rfl, run_takeDeferred hK1, ?_⟩⟩
    exact ⟨_, results_tmp rfl _ _ _, v, rfl, hfin⟩
  case stop =>
    rintro D c pre W _ _ h _
    exact h.elim

end Go.Proofs.Ytnfaklmndojeaaa
