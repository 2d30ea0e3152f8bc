/- Sorting, part G: the insertion that may stop early. -/
import Derived.Test.YtpjfebedfejmgaaSortF
namespace Go.Dec
set_option linter.unusedVariables false
set_option linter.unusedSimpArgs false

section
variable {P : Program} {I : SortI} {lt : I.E → I.E → Bool} {w : World} {l : List HP} {Q : Post} {d : Sl} {xs ys : List I.E}

/-- Nothing in the range is less than what stands ahead of it. -/
def Pre (lt : I.E → I.E → Bool) (xs : List I.E) (a b : Nat) : Prop := 0 < a → ∀ k, a ≤ k → k < b → ltAt lt xs k (a - 1) = false

theorem ltAt_false_iff {p q : Nat} : ltAt lt xs p q = false ↔ ∀ x y, xs[p]? = some x → xs[q]? = some y → lt x y = false := by
  unfold ltAt
  constructor
  · intro h x y hx hy; rw [hx, hy] at h; exact h
  · intro h
    split
    · rename_i x y hx hy; exact h x y hx hy
    · rfl

/-- What all elements of a range are to an element outside stays behind swaps in the range. -/
theorem Sw.outer {a b r : Nat} (h : Sw a b xs ys) (hb : b ≤ xs.length) (hr : r < a ∨ b ≤ r) (hk : ∀ k, a ≤ k → k < b → ltAt lt xs k r = false) : ∀ k, a ≤ k → k < b → ltAt lt ys k r = false := by
  intro k k1 k2
  rw [ltAt_false_iff]
  intro x y hx hy
  rw [h.out hr] at hy
  exact Sw.all h hb (p := fun x => lt x y = false) (fun k x k1 k2 hx => ltAt_false_iff.1 (hk k k1 k2) x y hx hy) k x k1 k2 hx

theorem Sw.outer' {a b r : Nat} (h : Sw a b xs ys) (hb : b ≤ xs.length) (hr : r < a ∨ b ≤ r) (hk : ∀ k, a ≤ k → k < b → ltAt lt xs r k = false) : ∀ k, a ≤ k → k < b → ltAt lt ys r k = false := by
  intro k k1 k2
  rw [ltAt_false_iff]
  intro y x hy hx
  rw [h.out hr] at hy
  exact Sw.all h hb (p := fun x => lt y x = false) (fun k x k1 k2 hx => ltAt_false_iff.1 (hk k k1 k2) y x hy hx) k x k1 k2 hx

theorem Pre.sw {a b : Nat} (h : Pre lt xs a b) (hb : b ≤ xs.length) (hs : Sw a b xs ys) : Pre lt ys a b := fun h0 => hs.outer hb (.inl (by omega)) (h h0)

theorem pins_c (ok : I.Ok P lt) (im : I.Impl P) (lo : LtOk lt) (x0 : I.E) (a b : Nat) (hab : a < b) (hb : b ≤ xs.length) (h63 : xs.length < 2305843009213693952) (hpre : Pre lt xs a b) (hs : Sat w (I.arr d xs :: l)) :
    Ret P I.f_pins ([d.v, .int .i64 a, .int .i64 b] ++ I.ex).toArray w fun vs w' => ∃ (q : Bool) (ys : List I.E), vs = [.bool q] ∧ Sw a b xs ys ∧ (q = true → SortedR lt ys a b) ∧ Sat w' (I.arr d ys :: l) := im.pins <| by
  unfold SortI.pins
  refine wp_lw (y := ((a + 1 : Nat) : Int)) (by rw [w64 (by omega) (by omega)]; omega) ?_
  refine wp_mid (fun v w' => ∃ ys, Sw a b xs ys ∧ Sat w' (I.arr d ys :: l)) ?_ (fun _ w' ⟨ys, hsw, hs⟩ => ⟨rfl, false, ys, rfl, hsw, (fun h => by cases h), hs⟩)
  refine wp_loop (fun n v w => ∃ (i c : Nat) (ys : List I.E), v = ((i : Int), (c : Int), ()) ∧ a + 1 ≤ i ∧ i ≤ b ∧ c ≤ 5 ∧ 5 - c = n ∧ Sw a b xs ys ∧ SortedR lt ys a i ∧ Sat w (I.arr d ys :: l)) 5 ⟨a + 1, 0, xs, rfl, by omega, by omega, by omega, rfl, .refl _, fun p q h1 h2 h3 => by omega, hs⟩ ?_
  rintro n _ w ⟨i, c, ys, rfl, hi, hib, hc5, hn, hsw, hso, hs⟩
  have hyl := hsw.length
  refine wp_ite (fun hc => ?_) fun hc => ?_
  · have hc : (c : Int) < 5 := of_decide_eq_true hc
    refine wp_mid (fun v w' => ∃ (i : Nat) (ys : List I.E), v = ((i : Int), ()) ∧ a + 1 ≤ i ∧ i ≤ b ∧ Sw a b xs ys ∧ SortedR lt ys a i ∧ Sat w' (I.arr d ys :: l)) ?_ ?_
    · refine wp_mid (fun v w' => ∃ (i : Nat), v = ((i : Int), ()) ∧ a + 1 ≤ i ∧ i ≤ b ∧ SortedR lt ys a i ∧ Sat w' (I.arr d ys :: l)) ?_ ?_
      · refine wp_loop (fun n v w => ∃ (i : Nat), v = ((i : Int), ()) ∧ a + 1 ≤ i ∧ i ≤ b ∧ b - i = n ∧ SortedR lt ys a i ∧ Sat w (I.arr d ys :: l)) (b - i) ⟨i, rfl, hi, hib, rfl, hso, hs⟩ ?_
        clear hs hso hib hi hn
        rintro n _ w ⟨i, rfl, hi, hib, hn, hso, hs⟩
        refine wp_gcmp ok (f := not) i (i - 1) (fun h => ⟨rfl, by have h : (i : Int) < b := of_decide_eq_true h; omega⟩) (fun h => ⟨by rw [w64 (by omega) (by omega)]; omega, by have h : (i : Int) < b := of_decide_eq_true h; omega⟩) x0 hs fun w' hs => ?_
        refine wp_ite (fun hc2 => ?_) fun hc2 => ?_
        · have hc2 : (decide ((i : Int) < b) && !ltAt lt ys i (i - 1)) = true := hc2
          simp only [Bool.and_eq_true, decide_eq_true_eq, Bool.not_eq_true'] at hc2
          refine wp_lw (y := ((i + 1 : Nat) : Int)) (by rw [w64 (by omega) (by omega)]; omega) ?_
          refine wp_leave ⟨(((i + 1 : Nat) : Int), ()), b - (i + 1), by omega, rfl, i + 1, rfl, by omega, by omega, rfl, fun p q h1 h2 h3 => ?_, hs⟩
          by_cases hq : q = i
          · subst hq
            by_cases hp : p = q - 1
            · subst hp; exact hc2.2
            · exact lo.transAt (q := q - 1) (by omega) hc2.2 (hso p (q - 1) h1 (by omega) (by omega))
          · exact hso p q h1 h2 (by omega)
        · refine wp_pass ?_
          exact wp_leave ⟨((i : Int), ()), rfl, i, rfl, hi, hib, hso, hs⟩
      · clear hs hso hib hi
        rintro _ w ⟨i, rfl, hi, hib, hso, hs⟩
        refine wp_ite (fun hc2 => ?_) fun hc2 => ?_
        · have hc2 : ((i : Int) == (b : Int)) = true := hc2
          have hc2 : i = b := by have : (i : Int) = b := by simpa using hc2
                                 omega
          subst hc2
          refine wp_pass ?_
          refine wp_pass ?_
          refine wp_pass ?_
          exact ⟨rfl, true, ys, rfl, hsw, fun _ => hso, hs⟩
        have hc2 : ((i : Int) == (b : Int)) = false := hc2
        have hc2 : i < b := by have : ¬ (i : Int) = b := by simpa using hc2
                               omega
        refine wp_ite (fun hc3 => ?_) fun hc3 => ?_
        · refine wp_pass ?_
          refine wp_pass ?_
          refine wp_pass ?_
          exact ⟨rfl, false, ys, rfl, hsw, (fun h => by cases h), hs⟩
        refine wp_swap ok i (i - 1) rfl (by dsimp only; rw [w64 (by omega) (by omega)]; omega) (by omega) (by omega) hs fun w' hs => ?_
        have hsw2 : Sw a b xs (swapL ys i (i - 1)) := .step hsw (by omega) (by omega) (by omega) (by omega)
        have hbut : ∀ p q, a ≤ p → p < q → q < i → q ≠ i - 1 → ltAt lt (swapL ys i (i - 1)) q p = false := fun p q h1 h2 h3 h4 => by
          rw [ltAt_swap (by omega) (by omega)]
          unfold tr
          rw [if_neg (by omega), if_neg (by omega), if_neg (by omega), if_neg (by omega)]
          exact hso p q h1 h2 (by omega)
        clear hso
        generalize swapL ys i (i - 1) = ys at *
        have hyl := hsw2.length
        refine wp_mid (fun v w' => ∃ ys, Sw a b xs ys ∧ SortedR lt ys a i ∧ Sat w' (I.arr d ys :: l)) ?_ ?_
        · refine wp_ite (fun hc4 => ?_) fun hc4 => ?_
          · refine wp_lw (y := ((i - 1 : Nat) : Int)) (by dsimp only; rw [w64 (by omega) (by omega)]; omega) ?_
            refine wp_mid (fun v w' => ∃ ys, Sw a b xs ys ∧ SortedR lt ys a i ∧ Sat w' (I.arr d ys :: l)) ?_ (fun _ w' h => wp_leave ⟨(), rfl, h⟩)
            refine wp_loop (fun n v w => ∃ (j : Nat) (ys : List I.E), v = ((j : Int), ()) ∧ a ≤ j ∧ j < i ∧ j = n ∧ Sw a b xs ys ∧ (∀ p q, a ≤ p → p < q → q < i → q ≠ j → ltAt lt ys q p = false) ∧ Sat w (I.arr d ys :: l)) (i - 1) ⟨i - 1, ys, rfl, by omega, by omega, rfl, hsw2, hbut, hs⟩ ?_
            clear hs hbut hyl hsw2 hsw
            rintro n _ w ⟨j, ys, rfl, hj, hji, rfl, hsw, hso, hs⟩
            have hyl := hsw.length
            refine wp_ite (fun hc5 => ?_) fun hc5 => ?_
            · have hc5 : (j : Int) ≥ 1 := of_decide_eq_true hc5
              refine wp_plain ok j (j - 1) rfl (by dsimp only; rw [w64 (by omega) (by omega)]; omega) (by omega) (by omega) hs fun w' hs => ?_
              refine wp_ite (fun hc6 => ?_) fun hc6 => ?_
              · have hc6 : (!ltAt lt ys j (j - 1)) = true := hc6
                simp only [Bool.not_eq_true'] at hc6
                refine wp_pass ?_
                refine wp_leave ⟨(), rfl, ys, hsw, fun p q h1 h2 h3 => ?_, hs⟩
                by_cases hq : q = j
                · subst hq
                  by_cases hp : p = q - 1
                  · subst hp; exact hc6
                  · exact lo.transAt (q := q - 1) (by omega) hc6 (hso p (q - 1) h1 (by omega) (by omega) (by omega))
                · exact hso p q h1 h2 h3 hq
              · have hc6 : (!ltAt lt ys j (j - 1)) = false := hc6
                simp only [Bool.not_eq_false'] at hc6
                have hja : a < j := by
                  rcases Nat.lt_or_ge a j with h | h
                  · exact h
                  · exfalso
                    have e : j = a := by omega
                    subst e
                    have := (hpre.sw hb hsw) (by omega) j (by omega) (by omega)
                    rw [this] at hc6; cases hc6
                refine wp_swap ok j (j - 1) rfl (by dsimp only; rw [w64 (by omega) (by omega)]; omega) (by omega) (by omega) hs fun w' hs => ?_
                refine wp_lw (y := ((j - 1 : Nat) : Int)) (by dsimp only; rw [w64 (by omega) (by omega)]; omega) ?_
                refine wp_leave ⟨(((j - 1 : Nat) : Int), ()), j - 1, by omega, rfl, j - 1, _, rfl, by omega, by omega, rfl, .step hsw (by omega) (by omega) (by omega) (by omega), fun p q p1 p2 p3 p4 => ?_, hs⟩
                rw [ltAt_swap (by omega) (by omega)]
                unfold tr
                by_cases q1 : q = j
                · subst q1
                  rw [if_pos rfl]
                  by_cases q2 : p = q - 1
                  · subst q2
                    rw [if_neg (by omega), if_pos rfl]
                    exact lo.asymmAt hc6
                  · rw [if_neg (by omega), if_neg q2]
                    exact hso p (q - 1) p1 (by omega) (by omega) (by omega)
                · rw [if_neg q1, if_neg p4]
                  by_cases q2 : p = j
                  · subst q2
                    rw [if_pos rfl]
                    exact hso (p - 1) q (by omega) (by omega) p3 q1
                  · rw [if_neg q2]
                    by_cases q3 : p = j - 1
                    · subst q3
                      rw [if_pos rfl]
                      exact hso j q (by omega) (by omega) p3 q1
                    · rw [if_neg q3]; exact hso p q p1 p2 p3 q1
            · have hc5 : ¬ (j : Int) ≥ 1 := of_decide_eq_false hc5
              refine wp_pass ?_
              exact wp_leave ⟨(), rfl, ys, hsw, fun p q h1 h2 h3 => hso p q h1 h2 h3 (by omega), hs⟩
          · have hc4 : ¬ IntKind.wrap .i64 ((i : Int) - a) ≥ 2 := of_decide_eq_false hc4
            rw [w64 (by omega) (by omega)] at hc4
            exact wp_leave ⟨(), rfl, ys, hsw2, fun p q h1 h2 h3 => by omega, hs⟩
        · clear hs hbut hyl hsw2 hsw
          rintro _ w ⟨ys, hsw, hso, hs⟩
          refine wp_mid (fun v w' => ∃ ys, Sw a b xs ys ∧ SortedR lt ys a i ∧ Sat w' (I.arr d ys :: l)) ?_ ?_
          · refine wp_ite (fun hc4 => ?_) fun hc4 => ?_
            · refine wp_lw (y := ((i + 1 : Nat) : Int)) (by dsimp only; rw [w64 (by omega) (by omega)]; omega) ?_
              refine wp_mid (fun v w' => ∃ ys, Sw a b xs ys ∧ SortedR lt ys a i ∧ Sat w' (I.arr d ys :: l)) ?_ (fun _ w' h => wp_leave ⟨(), rfl, h⟩)
              refine wp_loop (fun n v w => ∃ (j : Nat) (ys : List I.E), v = ((j : Int), ()) ∧ i + 1 ≤ j ∧ j ≤ b ∧ b - j = n ∧ Sw a b xs ys ∧ SortedR lt ys a i ∧ Sat w (I.arr d ys :: l)) (b - (i + 1)) ⟨i + 1, ys, rfl, by omega, by omega, rfl, hsw, hso, hs⟩ ?_
              clear hs hso hsw
              rintro n _ w ⟨j, ys, rfl, hj, hji, hn, hsw, hso, hs⟩
              have hyl := hsw.length
              refine wp_ite (fun hc5 => ?_) fun hc5 => ?_
              · have hc5 : (j : Int) < b := of_decide_eq_true hc5
                refine wp_plain ok j (j - 1) rfl (by dsimp only; rw [w64 (by omega) (by omega)]; omega) (by omega) (by omega) hs fun w' hs => ?_
                refine wp_ite (fun hc6 => ?_) fun hc6 => ?_
                · refine wp_pass ?_
                  exact wp_leave ⟨(), rfl, ys, hsw, hso, hs⟩
                · refine wp_swap ok j (j - 1) rfl (by dsimp only; rw [w64 (by omega) (by omega)]; omega) (by omega) (by omega) hs fun w' hs => ?_
                  refine wp_lw (y := ((j + 1 : Nat) : Int)) (by dsimp only; rw [w64 (by omega) (by omega)]; omega) ?_
                  refine wp_leave ⟨(((j + 1 : Nat) : Int), ()), b - (j + 1), by omega, rfl, j + 1, _, rfl, by omega, by omega, rfl, .step hsw (by omega) (by omega) (by omega) (by omega), fun p q p1 p2 p3 => ?_, hs⟩
                  rw [ltAt_swap (by omega) (by omega)]
                  unfold tr
                  rw [if_neg (by omega), if_neg (by omega), if_neg (by omega), if_neg (by omega)]
                  exact hso p q p1 p2 p3
              · refine wp_pass ?_
                exact wp_leave ⟨(), rfl, ys, hsw, hso, hs⟩
            · exact wp_leave ⟨(), rfl, ys, hsw, hso, hs⟩
          · clear hs hso hsw
            rintro _ w ⟨ys, hsw, hso, hs⟩
            exact wp_leave ⟨((i : Int), ()), rfl, i, ys, rfl, hi, hib, hsw, hso, hs⟩
    · clear hs hso hib hi hsw
      rintro _ w ⟨i, ys, rfl, hi, hib, hsw, hso, hs⟩
      refine wp_lw (y := ((c + 1 : Nat) : Int)) (by dsimp only; rw [w64 (by omega) (by omega)]; omega) ?_
      exact wp_leave ⟨((i : Int), ((c + 1 : Nat) : Int), ()), 5 - (c + 1), by omega, rfl, i, c + 1, ys, rfl, hi, hib, by omega, rfl, hsw, hso, hs⟩
  · refine wp_pass ?_
    exact wp_leave ⟨(), rfl, ys, hsw, hs⟩

end
end Go.Dec
