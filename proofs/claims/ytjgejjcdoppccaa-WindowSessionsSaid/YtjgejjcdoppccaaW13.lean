/- Windows: the document's Session. -/
import Derived.Test.YtjgejjcdoppccaaW12
namespace Go.Dec
set_option linter.unusedVariables false
set_option linter.unusedSimpArgs false

theorem sessN_dup {gap : Int} (hg : 1 ≤ gap) {ys : List Int} (hso : ∀ i j, i ≤ j → j < ys.length → ys.getD i 0 ≤ ys.getD j 0) {i : Nat} : ∀ j, i < j → j ≤ ys.length → (∀ k, i < k → k < j → ys.getD k 0 = ys.getD i 0) → sessN gap ys j = sessN gap ys (i + 1)
  | 0, h, _, _ => by omega
  | j + 1, h, hj, hk => by
    by_cases hij : i = j
    · subst hij; rfl
    · have ih := sessN_dup hg hso j (by omega) (by omega) fun k h1 h2 => hk k h1 (by omega)
      rw [← ih]
      obtain ⟨A, s, ho⟩ := sess_ok hg hso j (by omega) (by omega)
      have e1 := hk j (by omega) (by omega)
      have e2 : ys.getD (j - 1) 0 = ys.getD i 0 := by
        by_cases h : j - 1 = i
        · rw [h]
        · exact hk (j - 1) (by omega) (by omega)
      rw [sessN, if_pos ⟨by omega, by rw [e1, e2]; omega⟩, ho.eq, setEnd_append, e1, e2]

theorem next_idx {ys : List Int} (hso : ∀ i j, i ≤ j → j < ys.length → ys.getD i 0 ≤ ys.getD j 0) {i : Nat} : ∀ (n m : Nat), ys.length - m = n → i < m → m ≤ ys.length → (∀ k, i < k → k < m → ys.getD k 0 = ys.getD i 0) →
    ∃ j, i < j ∧ j ≤ ys.length ∧ (∀ k, i < k → k < j → ys.getD k 0 = ys.getD i 0) ∧ ∀ k, j ≤ k → k < ys.length → ys.getD i 0 < ys.getD k 0
  | 0, m, hn, him, hm, hk => ⟨m, him, hm, hk, fun k h1 h2 => by omega⟩
  | n + 1, m, hn, him, hm, hk => by
    by_cases h : ys.getD m 0 = ys.getD i 0
    · exact next_idx hso n (m + 1) (by omega) (by omega) (by omega) fun k h1 h2 => if hkm : k = m then by rw [hkm]; exact h else hk k h1 (by omega)
    · refine ⟨m, him, hm, hk, fun k h1 h2 => ?_⟩
      have h3 := hso i m (by omega) (by omega)
      have h4 := hso m k h1 h2
      omega

section
variable {w : World} {l r : List HP}

theorem sorted_idx {ys : List Int} (h : ys.Pairwise (· ≤ ·)) : ∀ i j, i ≤ j → j < ys.length → ys.getD i 0 ≤ ys.getD j 0 := fun i j hij hj => by
  rcases Nat.lt_or_eq_of_le hij with h1 | h1
  · have := List.pairwise_iff_getElem.1 h i j (by omega) hj h1
    simpa [hj, show i < ys.length by omega] using this
  · subst h1; exact Int.le_refl _

/-- The least valid time above n, so far. -/
def Least (xs : List Int) (n m : Int) : Prop := (m = -1 ∧ ∀ t ∈ xs, isT t = true → ¬ n < t) ∨ (m ∈ xs ∧ isT m = true ∧ n < m ∧ ∀ t ∈ xs, isT t = true → n < t → m ≤ t)

theorem Least.snoc {xs : List Int} {n m t : Int} (h : Least xs n m) (hn : -1 ≤ n) : Least (xs ++ [t]) n (if isT t = true ∧ n < t ∧ (m < 0 ∨ t < m) then t else m) := by
  have hv : ∀ z, isT z = true → 0 ≤ z := fun z hz => by simp [isT] at hz; omega
  split
  · rename_i hc
    refine .inr ⟨by simp, hc.1, hc.2.1, fun z hz h1 h2 => ?_⟩
    rcases List.mem_append.1 hz with hz | hz
    · rcases h with ⟨h3, h4⟩ | ⟨h3, h4, h5, h6⟩
      · exact absurd h2 (h4 z hz h1)
      · have := h6 z hz h1 h2
        have := hv m h4
        omega
    · obtain rfl := List.mem_singleton.1 hz; omega
  · rename_i hc
    rcases h with ⟨h3, h4⟩ | ⟨h3, h4, h5, h6⟩
    · refine .inl ⟨h3, fun z hz h1 h2 => ?_⟩
      rcases List.mem_append.1 hz with hz | hz
      · exact h4 z hz h1 h2
      · obtain rfl := List.mem_singleton.1 hz; exact hc ⟨h1, h2, .inl (by omega)⟩
    · refine .inr ⟨by simp [h3], h4, h5, fun z hz h1 h2 => ?_⟩
      rcases List.mem_append.1 hz with hz | hz
      · exact h6 z hz h1 h2
      · obtain rfl := List.mem_singleton.1 hz
        rcases Int.lt_or_le z m with h | h
        · exact absurd ⟨h1, h2, .inr h⟩ hc
        · exact h

end
end Go.Dec
