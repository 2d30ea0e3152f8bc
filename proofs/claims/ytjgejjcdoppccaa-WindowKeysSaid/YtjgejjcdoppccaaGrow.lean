/- What the rows' frames ask of a world behind a walk. -/
import Derived.RowKit3
import Derived.Test.YtjgejjcdoppccaaOpsG
namespace Go.Dec
set_option linter.unusedVariables false

theorem kept_of {W w' : World} {l : List HP} (hs : Sat w' (whole W :: l)) (may : MemPlace → Prop) : W.keptBut w' may := by
  obtain ⟨h, ho, hu, hz⟩ := hs.of_whole
  refine ⟨ho, hu, fun i hi => ?_⟩
  have hg : W.heap[i]? = some W.heap[i] := by simp [hi]
  have hg' := h i _ hg
  rw [hg, hg']
  cases W.heap[i] with
  | cells c t fr => exact ⟨rfl, rfl, rfl, fun _ _ => rfl⟩
  | map es c => exact .inr ⟨rfl, rfl⟩
  | _ => rfl

theorem grown_of {W w' : World} {l : List HP} (hs : Sat w' (whole W :: l)) : Go.RowKit.Grown W w' := by
  obtain ⟨h, ho, hu, hz⟩ := hs.of_whole
  refine ⟨kept_of hs _, hz, ?_⟩
  rcases Nat.lt_or_ge w'.heap.size W.heap.size with hlt | hge
  · exfalso
    have hg : W.heap[w'.heap.size]? = some W.heap[w'.heap.size] := by simp [hlt]
    have := h _ _ hg
    simp at this
  · exact hge

theorem wf64 {n : Int} (h : (Lit.int .i64 n).wf = true) : -9223372036854775808 ≤ n ∧ n < 9223372036854775808 := by
  have h : IntKind.min .i64 ≤ n ∧ n ≤ IntKind.max .i64 := by simpa only [Lit.wf, Bool.and_eq_true, decide_eq_true_eq] using h
  have h1 : IntKind.min .i64 = -9223372036854775808 := by decide
  have h2 : IntKind.max .i64 = 9223372036854775807 := by decide
  omega

/-- A law's walk: true, and nothing old is changed. -/
theorem walk_of {P : Program} {f : FuncId} {args : Array Value} {W : World} {l : List HP} (h : Ret P f args W fun vs w' => vs = [.bool true] ∧ Sat w' (whole W :: l)) : Calls P f args W fun e w' => e = .returned (.bool true) ∧ Go.RowKit.Grown W w' :=
  Calls.mono h fun e w' ⟨vs, he, hv, hs⟩ => ⟨by rw [he, hv]; rfl, grown_of hs⟩

end Go.Dec
