/- Parameters, opened for rows' frames. -/
import Derived.ChangeSlices
import Derived.ChangeMaps5
import Derived.ChangeSame
import Derived.RowKit3
namespace Go.Dec
open Go.ChangeShapes Go.WideShapes Go.RowKit
set_option linter.unusedVariables false
section
variable {H : Type} {enc : TypeId × Value → H} {P : Program} {w : World} {base : Nat} {sp : Nat → Bool} {held : Bool}

theorem open_ints2 {r : Reach} {b0 : Nat} {t : TypeId} {f0 f1 : Field} {k : IntKind} {v : Value} {d : DataW H} {ps : List MemPlace} (ht : P.underlying t = some (.struct #[f0, f1])) (h0 : P.underlying f0.type = some (.int k)) (h1 : P.underlying f1.type = some (.int k))
    (o0 : f0.offset = 0) (o1 : f1.offset = 1) (c0 : P.cellsOf f0.type = 1) (c1 : P.cellsOf f1.type = 1) (ct : P.cellsOf t = 2) (hval : Value.okWide P w r b0 t v) (hd : DataW.Trod enc P w base sp held t v d ps) :
    ∃ x y : Int, v = .agg #[.int k x, .int k y] ∧ ps = [] ∧ (Lit.int k x).wf = true ∧ (Lit.int k y).wf = true := by
  unfold Value.okWide at hval
  rw [ht] at hval
  obtain ⟨cs, rfl, hsz, _⟩ := hval
  obtain ⟨fuel, hf⟩ := hd
  obtain ⟨y0, y1, n, he, hl, hy0, hy1⟩ := trod_struct2 ht hf
  rw [o0, c0] at hy0
  rw [o1, c1] at hy1
  obtain ⟨x, e0, rfl, wx⟩ := DataW.trod_int h0 hy0
  obtain ⟨y, e1, rfl, wy⟩ := DataW.trod_int h1 hy1
  simp only [Prod.mk.injEq] at he
  refine ⟨x, y, ?_, by simpa using he.2, wx, wy⟩
  have hcs : (Value.agg cs).cells.toList = cs.toList := rfl
  rw [hcs] at e0 e1 hl
  rw [ct] at hl
  congr 1
  apply Array.ext'
  match hc : cs.toList, hl with
  | [a, b], _ =>
    rw [hc] at e0 e1
    simp at e0 e1
    subst e0 e1
    rfl

end
end Go.Dec
