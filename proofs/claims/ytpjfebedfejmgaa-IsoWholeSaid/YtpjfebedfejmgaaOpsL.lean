/- Ops, part L: lists of parts. -/
import Derived.Test.YtpjfebedfejmgaaOpsY
namespace Go.Dec
set_option linter.unusedVariables false
section
variable {w : World} {l r : List HP}
theorem Sat.all_nil' (hs : Sat w l) : Sat w (HP.all [] :: l) :=
  ⟨⟨fun _ => none, World.env' w⟩, World.ph w, ⟨(fun _ _ h => by cases h), rfl⟩, PH.sub_refl _, (fun _ => Or.inl rfl), trivial, hs⟩
theorem Sat.all_cons' {a : HP} {L : List HP} (hs : Sat w (HP.all (a :: L) :: l)) : Sat w (a :: HP.all L :: l) := by
  refine Sat.star (A := a) (B := HP.all L) (hs.imp fun p h => ?_)
  obtain ⟨p1, p2, h1, h2, hd, hA, hl⟩ := h
  exact ⟨p1, p2, h1, h2, hd, hA, hl⟩
theorem Sat.all_put' {a : HP} {L : List HP} (hs : Sat w (a :: HP.all L :: l)) : Sat w (HP.all (a :: L) :: l) := by
  refine (Sat.star_mk (A := a) (B := HP.all L) hs).imp fun p h => ?_
  obtain ⟨p1, p2, h1, h2, hd, hA, hl⟩ := h
  exact ⟨p1, p2, h1, h2, hd, hA, hl⟩
theorem Sat.all_perm' {L L' : List HP} (hp : L.Perm L') (hs : Sat w (HP.all L :: l)) : Sat w (HP.all L' :: l) := hs.imp fun p h => satL_perm hp h
theorem Sat.all_mem {α : Type} {f : α → HP} {xs : List α} {x : α} (hx : x ∈ xs) (hs : Sat w (HP.all (xs.map f) :: l)) : ∃ L, Sat w (f x :: HP.all L :: l) := by
  obtain ⟨s, u, rfl⟩ := List.append_of_mem hx
  exact ⟨(s ++ u).map f, (hs.all_perm' (L' := f x :: (s ++ u).map f) ((List.perm_middle (l₁ := s) (l₂ := u) (a := x)).map f)).all_cons'⟩
end
end Go.Dec
