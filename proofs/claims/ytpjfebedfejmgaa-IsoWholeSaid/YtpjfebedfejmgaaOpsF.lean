/- Ops, part F: one cell of an element, stored. -/
import Derived.Test.YtpjfebedfejmgaaOpsE
namespace Go.Dec
set_option linter.unusedVariables false
set_option linter.unusedSimpArgs false

section
variable {P : Program} {w : World} {l r : List HP} {Q : Post} {S : World → Prop} {T T' : TypeId} {sz : Nat} {x : Sl} {cs : List Value} {a A : Addr} {q : Nat}

theorem flat_fld {α : Type} {enc : α → List Value} (henc : ∀ x, (enc x).length = sz) {xs : List α} {i j : Nat} {y : α} {v : Value} (hi : i < xs.length) (hj : j < sz) (hy : enc y = (enc xs[i]).set j v) :
    (xs.flatMap enc).take (i * sz + j) ++ [v] ++ (xs.flatMap enc).drop (i * sz + j + 1) = (xs.set i y).flatMap enc := by
  have hl := flat_length henc xs
  have hle : i * sz + sz ≤ xs.length * sz := by
    calc i * sz + sz = (i + 1) * sz := by rw [Nat.add_mul, Nat.one_mul]
      _ ≤ xs.length * sz := Nat.mul_le_mul_right _ hi
  rw [← flat_set henc y xs i hi, hy]
  have hg := flat_get henc xs i hi
  generalize xs.flatMap enc = L at *
  apply List.ext_getElem?
  intro k
  rw [← hg, List.append_assoc, List.append_assoc]
  by_cases k1 : k < i * sz
  · rw [List.getElem?_append_left (by simp; omega), List.getElem?_append_left (by simp; omega), List.getElem?_take, List.getElem?_take, if_pos (by omega), if_pos k1]
  · rw [List.getElem?_append_right (l₁ := L.take (i * sz)) (by simp; omega)]
    have e1 : (L.take (i * sz)).length = i * sz := by simp; omega
    rw [e1]
    by_cases k2 : k < i * sz + sz
    · rw [List.getElem?_append_left (l₂ := L.drop (i * sz + sz)) (by simp; omega), List.getElem?_set]
      by_cases k3 : k = i * sz + j
      · subst k3
        rw [if_pos (by omega), if_pos (by simp; omega), List.getElem?_append_right (by simp; omega)]
        have : i * sz + j - (L.take (i * sz + j)).length = 0 := by simp; omega
        rw [this]; rfl
      · rw [if_neg (by omega), List.getElem?_take, if_pos (by omega), List.getElem?_drop]
        by_cases k4 : k < i * sz + j
        · rw [List.getElem?_append_left (by simp; omega), List.getElem?_take, if_pos k4]; congr 1; omega
        · rw [List.getElem?_append_right (by simp; omega), List.getElem?_append_right (by simp; omega), List.getElem?_drop]
          congr 1
          simp
          omega
    · rw [List.getElem?_append_right (l₂ := L.drop (i * sz + sz)) (by simp; omega), List.getElem?_append_right (by simp; omega), List.getElem?_append_right (by simp; omega), List.getElem?_drop, List.getElem?_drop]
      congr 1
      simp
      omega

/-- A store of one cell of an element. -/
theorem wp_stF {α : Type} {enc : α → List Value} {xs : List α} {i j : Nat} {y : α} {v : Value} {k : Prog} (henc : ∀ x, (enc x).length = sz) (hs : Sat w l) [hf : FocS l x T sz (xs.flatMap enc) r] [h1 : One P T'] (hx : x.a = some a) (hi : i < xs.length) (hj : j < sz)
    (hA : ∀ b o, a = ⟨b, o, none⟩ → A = ⟨b, o + (i * sz + j), none⟩) (hv : v.cells = #[v]) (hone : v.oneCell' = true) (hy : enc y = (enc xs[i]).set j v)
    (h : ∀ w', Sat w' (slc T sz x ((xs.set i y).flatMap enc) :: r) → S w' ∧ k.wp P S w' Q) : (Prog.actU (st T' A v) k).wp P S w Q := by
  refine wp_stS (q := i * sz + j) (vs := [v]) hs hx hA h1.ok.2 (by rw [hv]) (by simpa using hone) ?_ ?_
  · rw [flat_length henc]
    calc i * sz + j + 1 ≤ (i + 1) * sz := by rw [Nat.add_mul, Nat.one_mul]; omega
      _ ≤ xs.length * sz := Nat.mul_le_mul_right _ hi
  · intro w' hs'
    have := flat_fld henc hi hj hy
    rw [List.length_singleton] at hs'
    rw [this] at hs'
    exact h w' hs'

end
end Go.Dec
