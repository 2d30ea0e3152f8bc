/- Windows: what sessions are. -/
import Derived.Test.YtjgejjcdoppccaaW11
namespace Go.Dec
set_option linter.unusedVariables false
set_option linter.unusedSimpArgs false

theorem setEnd_append (A : List (Int × Int)) (p : Int × Int) (e : Int) : setEnd (A ++ [p]) e = A ++ [(p.1, e)] := by
  have hl : (A ++ [p]).length - 1 = A.length := by simp
  rw [setEnd, List.modify_eq_set, hl]
  have : (A ++ [p])[A.length]? = some p := by simp
  rw [this, List.set_append, if_neg (Nat.lt_irrefl _), Nat.sub_self]
  rfl

/-- The sessions of the first n times, n not 0. -/
structure SessOk (gap : Int) (ys : List Int) (n : Nat) (A : List (Int × Int)) (s : Int) : Prop where
  eq : sessN gap ys n = A ++ [(s, ys.getD (n - 1) 0 + gap)]
  le : s ≤ ys.getD (n - 1) 0
  lt : ∀ p ∈ A, p.1 < p.2 ∧ p.2 ≤ s
  ord : A.Pairwise fun p q => p.2 ≤ q.1
  cov : ∀ k, k < n → ∃ p ∈ A ++ [(s, ys.getD (n - 1) 0 + gap)], p.1 ≤ ys.getD k 0 ∧ ys.getD k 0 < p.2

theorem sess_ok {gap : Int} (hg : 1 ≤ gap) {ys : List Int} (hso : ∀ i j, i ≤ j → j < ys.length → ys.getD i 0 ≤ ys.getD j 0) : ∀ n, 0 < n → n ≤ ys.length → ∃ A s, SessOk gap ys n A s
  | 1, _, _ => by
    refine ⟨[], ys.getD 0 0, by simp [sessN], by simp, (fun p hp => by cases hp), .nil, fun k hk => ⟨_, List.mem_singleton.2 rfl, ?_, ?_⟩⟩
    · rw [show k = 0 by omega]; exact Int.le_refl _
    · rw [show k = 0 by omega]; show ys.getD 0 0 < ys.getD 0 0 + gap; omega
  | n + 2, _, hn => by
    obtain ⟨A, s, h⟩ := sess_ok hg hso (n + 1) (by omega) (by omega)
    have hle := hso n (n + 1) (by omega) (by omega)
    have h1 := h.le
    have heq := h.eq
    simp only [Nat.add_sub_cancel] at h1 heq
    have hcov := h.cov
    simp only [Nat.add_sub_cancel] at hcov
    by_cases hc : ys.getD (n + 1) 0 - ys.getD n 0 < gap
    · refine ⟨A, s, ?_, by rw [show n + 2 - 1 = n + 1 by omega]; omega, h.lt, h.ord, fun k hk => ?_⟩
      · rw [sessN, if_pos ⟨by omega, by simpa using hc⟩, heq, setEnd_append]; simp
      · simp only [show n + 2 - 1 = n + 1 by omega]
        by_cases hk' : k = n + 1
        · subst hk'
          exact ⟨_, List.mem_append_right _ (List.mem_singleton.2 rfl), by dsimp only; omega, by dsimp only; omega⟩
        · obtain ⟨p, hp, h2, h3⟩ := hcov k (by omega)
          rcases List.mem_append.1 hp with hp | hp
          · exact ⟨p, List.mem_append_left _ hp, h2, h3⟩
          · obtain rfl := List.mem_singleton.1 hp
            exact ⟨_, List.mem_append_right _ (List.mem_singleton.2 rfl), h2, by dsimp only at h3 ⊢; omega⟩
    · refine ⟨A ++ [(s, ys.getD n 0 + gap)], ys.getD (n + 1) 0, ?_, by simp, fun p hp => ?_, ?_, fun k hk => ?_⟩
      · rw [sessN, if_neg (by simpa using hc), heq]; simp
      · rcases List.mem_append.1 hp with hp | hp
        · have := h.lt p hp; omega
        · obtain rfl := List.mem_singleton.1 hp
          dsimp only; omega
      · rw [List.pairwise_append]
        refine ⟨h.ord, List.pairwise_singleton _ _, fun p hp q hq => ?_⟩
        obtain rfl := List.mem_singleton.1 hq
        exact (h.lt p hp).2
      · simp only [show n + 2 - 1 = n + 1 by omega]
        by_cases hk' : k = n + 1
        · subst hk'
          exact ⟨_, List.mem_append_right _ (List.mem_singleton.2 rfl), by dsimp only; omega, by dsimp only; omega⟩
        · obtain ⟨p, hp, h2, h3⟩ := hcov k (by omega)
          exact ⟨p, List.mem_append_left _ hp, h2, h3⟩

end Go.Dec
