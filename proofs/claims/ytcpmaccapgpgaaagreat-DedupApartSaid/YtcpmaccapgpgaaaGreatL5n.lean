/- Dedup: the empty table. -/
import Derived.Test.YtcpmaccapgpgaaaGreatD9
namespace Go.Dec
set_option linter.unusedVariables false
set_option linter.unusedSimpArgs false

theorem ok_nil {most : Int} (h : 1 ≤ most ∧ most ≤ 4096) : okTb ⟨most, 0, []⟩ := ⟨h, by show (0 : Int) ≤ 0 ∧ (0 : Int) ≤ _; omega, by show (0 : Int) ≤ most; omega, by simp, by simp, by simp [openR]⟩
theorem body_nil (most : Int) : bodyT ⟨most, 0, []⟩ = [0, 0] := by kernel_rfl

section
variable {w : World} {l r r2 : List HP} {t q : Nat} {A : TabA}
/-- The document's empty table. -/
theorem dt_nil (most : Int) (hs : Sat w (pt q (.cells #[.int .i64 most, .int .i64 0, .slice none 0 0] T.towpathref07_Table) :: l)) : Sat w (dtP q ⟨most, 0, []⟩ :: l) := by
  have hs : Sat w (slc T.towpathref07_Row 7 ⟨none, 0, 0⟩ (([] : List RowA).flatMap encW) :: pt q (.cells #[.int .i64 most, .int .i64 0, .slice none 0 0] T.towpathref07_Table) :: l) := hs.slc_nil
  exact dt_mk (x := ⟨none, 0, 0⟩) ⟨most, 0, []⟩ (hs.pick [1, 0])
end
end Go.Dec
