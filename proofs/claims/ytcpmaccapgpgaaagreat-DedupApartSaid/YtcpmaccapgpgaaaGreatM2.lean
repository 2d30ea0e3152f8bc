/- slices.AppendSeq and slices.Collect over an iterator of structs. -/
import Derived.Test.YtcpmaccapgpgaaaGreatM1
namespace Go.Proofs.YtcpmaccapgpgaaaGreat
open Go.RowKit Go.Maps Go.Sort Go.Proofs Go.Shelf Go.Dec
set_option linter.unusedVariables false
set_option linter.unusedSimpArgs false

theorem infoW : (Tryz.prog.info? 55).map (fun i => (i.zero, i.size, i.bytes)) = some (some (.agg #[.int .i64 0, .int .i64 0, .int .i64 0, .int .i64 0, .int .i64 0, .int .i64 0, .int .i64 0]), 7, 56) := by kernel_rfl

attribute [local go_sem] Oper.semAt_some

def rowObj (c : RowA) : Obj := .cells #[.int .i64 c.pid, .int .i64 c.epoch, .int .i64 c.seq, .int .i64 c.count, .int .i64 c.base, .int .i64 c.frm, .int .i64 c.time] 55

theorem cells_new (w : World) (c : RowA) : ∀ j u, (encW c)[j]? = some u → (w.alloc (rowObj c)).cell? ((⟨w.heap.size, 0, none⟩ : Addr).add j) = some u := by
  intro j u hj
  have hb : (w.alloc (rowObj c)).heap[w.heap.size]? = some (rowObj c) := World.alloc_heap_new w _
  have hj7 : j < 7 := (List.getElem?_eq_some_iff.1 hj).1
  rw [← hj]
  have e : ((⟨w.heap.size, 0, none⟩ : Addr).add j) = ⟨w.heap.size, j, none⟩ := by simp [Addr.add]; omega
  rw [e, cell_of hb]
  exact List.getElem?_toArray (xs := encW c)

set_option maxRecDepth 100000 in
set_option maxHeartbeats 2000000 in
theorem appseq_in (n : Nat) (hn : 2 ≤ n) (gf : Nat) (lb : Array Value) (eg : ∀ args w, (callFunc gf args).run Tryz.prog w = .ok (.enter gf args) w) (w : World) (S : List RowA → Prop) (N : Nat) (hN : N ≤ 100000)
    (hseq : SeqStopsK Fence.wide (n - 1) Tryz.prog gf lb (fun x => #[evW x]) KeepsWalks S (fun _ => True) N w) :
    CallsIn Fence.wide n Tryz.prog 67 #[.slice none 0 0, .func (.func gf) #[] lb] w fun e W' => ∃ v xs, e = .returned v ∧ S xs ∧ W'.ownsRow w.heap.size 55 7 v xs.length (xs.flatMap encW) ∧ Below w.heap.size w W' := by
  have h1 : 1 ≤ n := by omega
  obtain ⟨i0, hi, hz0, hz1, hz2⟩ := info_parts infoW
  refine callsIn_of_wp_marks Tryz.func67 rfl trivial ?_ rfl
  simp only [Tryz.ntmps67, List.size_toArray, List.length_cons, List.length_nil, Nat.reduceAdd, Nat.reduceSub, Array.replicate_succ, Array.replicate_zero, List.push_toArray, List.append_toArray, List.nil_append, List.cons_append]
  gi_wp2
  have bO := Boxed.new w 49 (.slice none 0 0)
  have hB0 : Below w.heap.size w (w.alloc (.cells #[.slice none 0 0] 49)) := (Below.refl _ w).alloc (Nat.le_refl _) _
  refine wpIn_rangeFunc_ownH rfl h1 (gf := gf) (lb := lb) rfl trivial eg (encs := fun x => #[evW x]) (Kp := KeepsWalks) (S := S) (Sp := fun _ => True) (N := N) hseq walksK_t (fun W l o o' _ h _ hw => KeepsWalks.putObj _ h hw) hB0 (fun _ => rfl)
    (fun pre W => (∃ v, Boxed W w.heap.size 49 v ∧ W.ownsRow w.heap.size 55 7 v pre.length (pre.flatMap encW) ∧ True) ∧ Below w.heap.size w W)
    (fun _ _ _ => False)
    (OwnFrom.and (Own.from (holdsRow_own w.heap.size w.heap.size 49 55 7 (fun pre : List RowA => pre.length) (fun pre => pre.flatMap encW) (fun _ _ => True)) _) (ownFrom_below (Nat.le_refl _) (by simp)))
    (fun _ _ _ _ _ hs _ _ => hs)
    ⟨⟨_, bO, World.ownsRow_nil _ _ _ _, trivial⟩, hB0⟩
    (fun x a' W => ∃ B, w.heap.size + 1 ≤ B ∧ W.heap[B]? = some (rowObj x) ∧ a' = { tmps := #[.slice none 0 0, .func (.func gf) #[] lb, .pointer (some ⟨w.heap.size, 0, none⟩), undef, .slice none 0 0, .pointer (some ⟨B, 0, none⟩), .func (.func gf) #[] lb, evW x, undef, undef, undef, undef, undef], defers := [] })
    ?hax ?assign ?body ?done ?stop
  case hax =>
    rintro x a' u W W' row ⟨B, h1, h2, h3⟩ hg hr
    refine ⟨B, h1, (hg.block B (Array.getElem?_eq_some_iff.1 h2).1 (fun e => ?_)).trans h2, h3⟩
    obtain ⟨-, o, ho, hc⟩ := hr B e.symm
    rw [h2] at ho; cases ho; cases hc
  case assign =>
    intro l pre x W K hI hK
    simp only [evW]
    gi_wp2
    refine hK _ _ ((KeepsOthers.alloc W (rowObj x)).from _) (KeepsWalks.alloc _ _) ?_ ⟨W.heap.size, by have := hI.2.size; obtain ⟨v, hv, -⟩ := hI.1; exact hv.lt, World.alloc_heap_new W (rowObj x), rfl⟩
    obtain ⟨⟨v, hv, hr, -⟩, hb⟩ := hI
    exact ⟨⟨v, hv.alloc _, hr.alloc _, trivial⟩, hb.alloc hb.size _⟩
  case body =>
    rintro l pre x a' W hl - ⟨⟨v, hv, hrow, -⟩, hB⟩ ⟨B, hB1, hB2, rfl⟩ hlt
    have hcv := hv.cell
    have hml : 100000 ≤ maxLen := by decide
    have hvl := hv.lt
    have hc0 : W.cell? ⟨B, 0, none⟩ = some (.int .i64 x.pid) := by rw [cell_of hB2]; rfl
    have hc1 : W.cell? ⟨B, 1, none⟩ = some (.int .i64 x.epoch) := by rw [cell_of hB2]; rfl
    have hc2 : W.cell? ⟨B, 2, none⟩ = some (.int .i64 x.seq) := by rw [cell_of hB2]; rfl
    have hc3 : W.cell? ⟨B, 3, none⟩ = some (.int .i64 x.count) := by rw [cell_of hB2]; rfl
    have hc4 : W.cell? ⟨B, 4, none⟩ = some (.int .i64 x.base) := by rw [cell_of hB2]; rfl
    have hc5 : W.cell? ⟨B, 5, none⟩ = some (.int .i64 x.frm) := by rw [cell_of hB2]; rfl
    have hc6 : W.cell? ⟨B, 6, none⟩ = some (.int .i64 x.time) := by rw [cell_of hB2]; rfl
    gi_wp2_with (gi_at_builtin; refine wpListIn_append_own _ rfl _ _ 49 rfl w.heap.size 55 i0 _ 7 56 Tryz.underlying49 hi hz0 hz1 hz2 rfl (by decide) _ _ _ rfl (hrow.alloc _) ⟨W.heap.size, 0, none⟩ 1 1 (encW x) rfl rfl (cells_new W x) (by simp [Value.oneCell', encW]) (by omega) (by omega) (by simp; omega) ?_; intro v' w1 hown' hgrow _; obtain ⟨g', cap', rfl⟩ := ownsRow_succ hown'; obtain ⟨hv1, hv2, hr2, hk2, hb2⟩ := hv.appended (by decide) hrow (by omega) (by omega) hown' hgrow; have hc1 := hv1.cell; have hf1 := hv1.frozen)
    exact ⟨hk2.from _, hk2.walks, ⟨_, hv2, by simpa using hr2, trivial⟩, hB.trans (hb2.mono (by omega))⟩
  case done =>
    rintro D xs W hD hS ⟨⟨v, hv, hrow, -⟩, hB⟩ hK
    have hcv := hv.cell
    gi_wp2
    refine ⟨by simp, .inl ⟨_, _, rfl, run_takeDeferred hK, ?_⟩⟩
    refine ⟨_, results_tmp rfl _ _ _, v, xs, rfl, hS, hrow.kept (grownBy_putObj' _ _ _) ?_, hB.grown (grownBy_putObj' _ _ _) hB.size (fun k e => by cases e; simp at hD; omega)⟩
    rcases hrow.2 with ⟨rfl, _⟩ | ⟨g, cap, cur, rfl, _, hgb, _⟩
    · exact .inl rfl
    · refine .inr fun e' => ?_
      simp only [Value.ownBlock, Option.some.injEq] at e'
      subst e'; rw [hgb] at hK; cases hK
  case stop =>
    rintro D c pre W _ _ h _
    exact h.elim
end Go.Proofs.YtcpmaccapgpgaaaGreat

namespace Go.Dec
open Go.RowKit Go.Maps Go.Sort Go.Proofs Go.Shelf Go.Proofs.YtcpmaccapgpgaaaGreat
/-! ### A part of a world -/
def restr (W : World) (X : Nat → Bool) : PH := ⟨fun b => if X b then W.heap[b]? else none, World.env' W⟩
section
variable {w W : World} {l : List HP} {X : Nat → Bool}
theorem satR_old (hs : Sat w l) (hB : RowKit.Below w.heap.size w W) : satL l (restr W fun b => decide (b < w.heap.size)) := by
  refine satL_sub ⟨fun b o h => ?_, ?_⟩ hs
  · have h : w.heap[b]? = some o := h
    have hlt : b < w.heap.size := (Array.getElem?_eq_some_iff.1 h).1
    show (if decide (b < w.heap.size) = true then W.heap[b]? else none) = some o
    rw [if_pos (decide_eq_true hlt), hB.block b hlt, h]
  · show World.env' w = World.env' W
    unfold World.env'
    rw [hB.os, hB.output]
theorem satR_new {b : Nat} {o : Obj} (hs : satL l (restr W X)) (hX : X b = false) (hb : W.heap[b]? = some o) : satL (pt b o :: l) (restr W fun c => X c || decide (c = b)) := by
  refine ⟨⟨fun c => if c = b then some o else none, World.env' W⟩, restr W X, ⟨fun c u h => ?_, rfl⟩, ⟨fun c u h => ?_, rfl⟩, fun c => ?_, by simp [pt], hs⟩
  · simp only at h
    split at h
    · rename_i hc; subst hc
      obtain rfl := Option.some.inj h
      show (if (X c || decide (c = c)) = true then W.heap[c]? else none) = some o
      rw [if_pos (by simp), hb]
    · cases h
  · have h : (if X c = true then W.heap[c]? else none) = some u := h
    split at h
    · rename_i hc
      show (if (X c || decide (c = b)) = true then W.heap[c]? else none) = some u
      rw [if_pos (by rw [hc]; rfl), h]
    · cases h
  · by_cases hc : c = b
    · subst hc; right
      show (if X c = true then W.heap[c]? else none) = none
      rw [if_neg (by rw [hX]; simp)]
    · left; simp [hc]
theorem satR_done (hs : satL l (restr W X)) : Sat W l := by
  refine satL_sub (p := restr W X) ⟨fun b o h => ?_, rfl⟩ hs
  have h : (if X b = true then W.heap[b]? else none) = some o := h
  split at h
  · exact h
  · cases h
end

section
variable {w : World} {l r : List HP}
theorem collect_c (Bm m : Nat) (es : List (Int × RowA)) (tm : TypeId) (hlen : es.length ≤ 100000) (hs : Sat w (pt Bm (.cells #[.map (some m)] tm) :: mapP ekI evW m es :: l)) :
    Ret P F.slices_Collect_dedup_Row #[.func (.func F.maps_Values_map_int64_dedup_Row_int64_dedup_Row_1) #[] #[.pointer (some ⟨Bm, 0, none⟩)]] w fun vs w' => ∃ (x : Sl) (xs : List RowA), vs = [x.v] ∧ xs.Perm (es.map Prod.snd) ∧ Sat w' (slc T.dedup_Row 7 x (xs.flatMap encW) :: mapP ekI evW m es :: l) := by
  refine slices_Collect_dedup_Row_calls _ ?_
  unfold slices_Collect_dedup_Row
  obtain ⟨E, c, hok, hs1⟩ := (hs.pick [1]).mapOpen
  have hb := hs1.get
  have hBm := hs.get
  have hBl : Bm < w.heap.size := (Array.getElem?_eq_some_iff.1 hBm).1
  have hml : m < w.heap.size := (Array.getElem?_eq_some_iff.1 hb).1
  have hcell : w.cell? ⟨Bm, 0, none⟩ = some (.map (some m)) := by rw [cell_of hBm]; rfl
  have hseq : SeqStopsK Fence.wide (3 - 1) Tryz.prog 68 #[.pointer (some ⟨Bm, 0, none⟩)] (fun x => #[evW x]) KeepsWalks (fun xs => xs.Perm (es.map Prod.snd)) (fun _ => True) es.length w := fun lp J Jx W hW hJ hJx hY h0 =>
    values1_in Fence.wide (3 - 1) trivial rfl (by omega) lp Bm m es J Jx hY W hJ ((hW.cell (p := ⟨Bm, 0, none⟩) hBl).trans hcell) ⟨E, c, hok, (hW.block m hml).trans hb⟩ h0
  have hap := callsIn_wide.1 (appseq_in 3 (by omega) 68 #[.pointer (some ⟨Bm, 0, none⟩)] (enters_of Tryz.func68 (by kernel_rfl) rfl) w _ es.length hlen hseq)
  refine Calls.mono hap ?_
  rintro e W ⟨v, xs, rfl, hp, hrow, hB⟩
  have hsR := satR_old hs hB
  obtain ⟨hxl, h | ⟨g, cap, cur, rfl, hg, hgb, hcap, -, hcur, htk⟩⟩ := hrow
  · obtain ⟨rfl, hn0⟩ := h
    obtain rfl := List.length_eq_zero_iff.1 hn0
    refine ⟨(⟨none, 0, 0⟩, ()), rfl, trivial, rfl, ⟨none, 0, 0⟩, [], rfl, hp, ?_⟩
    exact ((satR_done hsR).tail).slc_nil
  · have hsR := satR_done (satR_new hsR (b := g) (by simp; omega) hgb)
    refine ⟨(⟨some ⟨g, 0, none⟩, xs.length, cap⟩, ()), rfl, trivial, rfl, ⟨some ⟨g, 0, none⟩, xs.length, cap⟩, xs, rfl, hp, ?_⟩
    have hsR := (hsR.pick [1]).tail
    refine hsR.imp fun q hq => .inr ⟨g, 0, cur, (0, 0), rfl, hq, by rw [hxl], hcap, by simp [hcur], fun i hi => ?_, unfrozen_zero _ _⟩
    rw [← htk, List.length_take] at hi
    rw [← htk, Nat.zero_add, List.getElem?_take, if_pos (by omega)]
    simp
end
end Go.Dec
