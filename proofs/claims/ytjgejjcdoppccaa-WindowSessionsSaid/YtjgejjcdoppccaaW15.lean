/- Windows: the law of Session: its pieces. -/
import Derived.Test.YtjgejjcdoppccaaW14
namespace Go.Dec
set_option linter.unusedVariables false
set_option linter.unusedSimpArgs false

/-- Sessions: each begins where the one ahead has ended, or later; each valid time is in just one. -/
theorem sessF_ord {gap : Int} (hz : isSz gap = true) (xs : List Int) : (sessF gap xs).Pairwise (fun p q => p.2 ≤ q.1) ∧ (∀ p ∈ sessF gap xs, p.1 < p.2) ∧ ∀ t ∈ xs, isT t = true → ∃ p ∈ sessF gap xs, p.1 ≤ t ∧ t < p.2 := by
  have hg : 1 ≤ gap ∧ gap ≤ 1099511627776 := by simpa [isSz] using hz
  rw [sessF, if_pos hz]
  have hso := sorted_idx (sortT_sorted xs)
  have hmem : ∀ z, z ∈ sortT xs ↔ z ∈ xs ∧ isT z = true := fun z => by rw [(sortT_perm xs).mem_iff, List.mem_filter]
  generalize sortT xs = ys at *
  by_cases h0 : ys.length = 0
  · obtain rfl := List.length_eq_zero_iff.1 h0
    exact ⟨.nil, (fun p hp => by cases hp), fun t ht hv => by have := (hmem t).2 ⟨ht, hv⟩; cases this⟩
  · obtain ⟨A, s, h⟩ := sess_ok hg.1 hso ys.length (by omega) (Nat.le_refl _)
    rw [h.eq]
    refine ⟨?_, fun p hp => ?_, fun t ht hv => ?_⟩
    · rw [List.pairwise_append]
      refine ⟨h.ord, List.pairwise_singleton _ _, fun p hp q hq => ?_⟩
      obtain rfl := List.mem_singleton.1 hq
      exact (h.lt p hp).2
    · rcases List.mem_append.1 hp with hp | hp
      · exact (h.lt p hp).1
      · obtain rfl := List.mem_singleton.1 hp
        have := h.le
        dsimp only; omega
    · obtain ⟨k, hk, he⟩ := List.mem_iff_getElem.1 ((hmem t).2 ⟨ht, hv⟩)
      obtain ⟨p, hp, h1, h2⟩ := h.cov k hk
      have e : ys.getD k 0 = t := by simp [hk, he]
      rw [e] at h1 h2
      exact ⟨p, hp, h1, h2⟩

/-- How many spans a time is in. -/
def inMany (L : List (Int × Int)) (t : Int) : Nat := (L.filter fun p => hasF p.1 p.2 t).length

theorem inMany_one {L : List (Int × Int)} {t : Int} (ho : L.Pairwise fun p q => p.2 ≤ q.1) (hl : ∀ p ∈ L, p.1 < p.2) (h : ∃ p ∈ L, p.1 ≤ t ∧ t < p.2) : inMany L t = 1 := by
  induction L with
  | nil => obtain ⟨p, hp, _⟩ := h; cases hp
  | cons q L ih =>
    rw [List.pairwise_cons] at ho
    unfold inMany
    rw [List.filter_cons]
    by_cases hq : hasF q.1 q.2 t = true
    · rw [if_pos hq]
      have hq' : q.1 ≤ t ∧ t < q.2 := by simpa [hasF] using hq
      have : L.filter (fun p => hasF p.1 p.2 t) = [] := by
        rw [List.filter_eq_nil_iff]
        intro p hp hc
        have h1 := ho.1 p hp
        have : p.1 ≤ t ∧ t < p.2 := by simpa [hasF] using hc
        omega
      rw [this]; rfl
    · rw [if_neg hq]
      obtain ⟨p, hp, h1, h2⟩ := h
      rcases List.mem_cons.1 hp with rfl | hp
      · exact absurd (by simp [hasF]; omega) hq
      · exact ih ho.2 (fun p hp => hl p (List.mem_cons_of_mem _ hp)) ⟨p, hp, h1, h2⟩

theorem sessF_reverse (gap : Int) (xs : List Int) : sessF gap xs.reverse = sessF gap xs := by
  have : sortT xs.reverse = sortT xs := by
    refine sortT_eq ((sortT_perm _).trans ?_) (sortT_sorted _)
    exact (List.reverse_perm xs).filter _
  unfold sessF; rw [this]

end Go.Dec
