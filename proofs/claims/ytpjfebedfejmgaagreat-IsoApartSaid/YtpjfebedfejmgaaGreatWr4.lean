/- Wire: what a reader has in front of it. -/
import Derived.Test.YtpjfebedfejmgaaGreatWr3
namespace Go.Dec
set_option linter.unusedVariables false
set_option linter.unusedSimpArgs false

def Rest (R : RdM) : List UInt8 := R.bs.drop R.at_
theorem uintL_inj {a b : Nat} {x y : List UInt8} (ha : a < 18446744073709551616) (hb : b < 18446744073709551616) (h : uintL a ++ x = uintL b ++ y) : a = b ∧ x = y := by
  have h1 := num_uintL ha x
  have h2 := num_uintL hb y
  rw [h, h2] at h1
  simp only [Option.some.injEq, Prod.mk.injEq] at h1
  obtain ⟨rfl, -⟩ := h1
  exact ⟨rfl, List.append_cancel_left h⟩
theorem uI_inj {a b : Int} {x y : List UInt8} (ha : 0 ≤ a ∧ a < 18446744073709551616) (hb : 0 ≤ b ∧ b < 18446744073709551616) (h : uI a ++ x = uI b ++ y) : a = b ∧ x = y := by
  obtain ⟨h1, h2⟩ := uintL_inj (by omega) (by omega) h
  exact ⟨by omega, h2⟩
/-- A number that is read: it stood there, or none did. -/
theorem uint_cases {R : RdM} (hb : R.at_ ≤ R.bs.length) :
    (R.e = 0 ∧ R.uint.1 < 18446744073709551616 ∧ R.uint.2.e = 0 ∧ R.uint.2.at_ ≤ R.uint.2.bs.length ∧ R.uint.2.bs = R.bs ∧ Rest R = uintL R.uint.1 ++ Rest R.uint.2) ∨
    (R.uint.1 = 0 ∧ R.uint.2.e ≠ 0 ∧ R.uint.2.at_ ≤ R.uint.2.bs.length ∧ (R.e = 0 → ∀ m z, m < 18446744073709551616 → Rest R ≠ uintL m ++ z)) := by
  unfold RdM.uint Rest
  by_cases h0 : R.e = 0
  · rw [if_neg (by rw [h0]; simp)]
    cases hn : numR 0 (R.bs.drop R.at_) with
    | none =>
      refine .inr ⟨rfl, (show (6 : Int) ≠ 0 by decide), hb, fun _ m z hm he => ?_⟩
      rw [he, num_uintL hm] at hn
      cases hn
    | some p =>
      obtain ⟨v, k⟩ := p
      obtain ⟨h1, h2⟩ := num_invL hn
      have h3 := numR_len _ _ _ _ hn
      rw [List.length_drop] at h3
      refine .inl ⟨h0, h2, h0, by show R.at_ + k ≤ R.bs.length; omega, rfl, ?_⟩
      show R.bs.drop R.at_ = uintL v ++ R.bs.drop (R.at_ + k)
      rw [← h1, ← List.drop_drop, List.take_append_drop]
  · rw [if_pos h0]
    exact .inr ⟨rfl, h0, hb, fun h => absurd h h0⟩
theorem rest_len {R : RdM} : (Rest R).length = R.bs.length - R.at_ := by unfold Rest; rw [List.length_drop]
theorem rd_bound {w : World} {l : List HP} {T' : TypeId} {p : Nat} {R : RdM} (hs : Sat w (rdP T' p R :: l)) : R.at_ ≤ R.bs.length ∧ R.bs.length ≤ 1000000000 := by
  obtain ⟨x, h, -⟩ := rd_open hs
  exact h
theorem done_cases {R : RdM} (hb : R.at_ ≤ R.bs.length) : R.done.e = 0 ↔ R.e = 0 ∧ Rest R = [] := by
  have hl := rest_len (R := R)
  unfold RdM.done RdM.fail
  by_cases h : R.at_ < R.bs.length
  · rw [if_pos h]
    constructor
    · intro h2
      by_cases h3 : R.e = 0
      · simp [h3] at h2
      · simp [h3] at h2
    · rintro ⟨-, h2⟩
      rw [h2] at hl; simp at hl; omega
  · rw [if_neg h]
    exact ⟨fun h2 => ⟨h2, List.length_eq_zero_iff.1 (by omega)⟩, fun h2 => h2.1⟩
end Go.Dec
