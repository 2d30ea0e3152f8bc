/- Isolation: the law's taken. -/
import Derived.Test.YtpjfebedfejmgaaGreatT1
import Derived.Test.YtpjfebedfejmgaaGreatOpsZ
namespace Go.Dec
set_option linter.unusedVariables false
set_option linter.unusedSimpArgs false

def rsP (b : BatM) : HP := slc T.api_Record 4 b.x (b.rs.flatMap encR)
def batsP (bs : List BatM) : HP := HP.all (bs.map rsP)
/-- What was taken, one behind the other, and what the view is then. -/
inductive Hist : List BatM → ViewA → Prop where
  | nil : Hist [] ⟨0, [], []⟩
  | snoc {bs : List BatM} {A : ViewA} {b : BatM} : Hist bs A → codeA A b = 0 → Hist (bs ++ [b]) (takeV A b)
/-- A call of the input's. -/
structure OpJ (l : List HP) (o : OpI) : Prop where
  rd : ∀ w, Sat w l → Rd w 4 o.b.x (o.b.rs.flatMap encR)

section
variable {w : World} {l r : List HP} {v : Nat} {A : ViewA}

theorem bats_rd {bs : List BatM} {b : BatM} (hb : b ∈ bs) : FocR (batsP bs :: l) b.x 4 (b.rs.flatMap encR) := ⟨fun w hs => by
  obtain ⟨L, hs⟩ := hs.all_mem hb
  have hs : Sat w (slc T.api_Record 4 b.x (b.rs.flatMap encR) :: HP.all L :: l) := hs
  exact hs.rd⟩
theorem bats_put {bs : List BatM} {b : BatM} (hs : Sat w (slc T.api_Record 4 b.x (b.rs.flatMap encR) :: batsP bs :: l)) : Sat w (batsP (bs ++ [b]) :: l) := by
  have hs : Sat w (HP.all (rsP b :: bs.map rsP) :: l) := Sat.all_put' (a := rsP b) hs
  have := hs.all_perm' (L' := (bs ++ [b]).map rsP) (by rw [List.map_append]; exact (List.perm_append_comm (l₁ := [rsP b])))
  exact this

end
end Go.Dec
