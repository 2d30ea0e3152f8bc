/- Sorting, part F: partition; partition of equals. -/
import Derived.Test.YtpjfebedfejmgaaSortE
namespace Go.Dec
set_option linter.unusedVariables false
set_option linter.unusedSimpArgs false

section
variable {P : Program} {I : SortI} {lt : I.E → I.E → Bool} {w : World} {l : List HP} {Q : Post} {d : Sl} {xs ys : List I.E}

def PartI (lt : I.E → I.E → Bool) (ys : List I.E) (a b i j : Nat) : Prop :=
  a + 1 ≤ i ∧ i ≤ j + 1 ∧ j < b ∧ (∀ k, a + 1 ≤ k → k < i → ltAt lt ys k a = true) ∧ (∀ k, j < k → k < b → ltAt lt ys k a = false)
def PartP (lt : I.E → I.E → Bool) (ys : List I.E) (a b m : Nat) : Prop :=
  a ≤ m ∧ m < b ∧ (∀ k, a ≤ k → k < m → ltAt lt ys k m = true) ∧ (∀ k, m < k → k < b → ltAt lt ys k m = false)

theorem part_step {a b i j : Nat} (hb : b ≤ ys.length) (h : PartI lt ys a b i j) (hij : i < j) (hi : ltAt lt ys i a = false) (hj : ltAt lt ys j a = true) : PartI lt (swapL ys i j) a b (i + 1) (j - 1) := by
  obtain ⟨h1, h2, h3, h4, h5⟩ := h
  have ha : tr i j a = a := by unfold tr; rw [if_neg (by omega), if_neg (by omega)]
  refine ⟨by omega, by omega, by omega, fun k k1 k2 => ?_, fun k k1 k2 => ?_⟩
  · rw [ltAt_swap (by omega) (by omega), ha]
    unfold tr
    split
    · exact hj
    · rw [if_neg (by omega)]; exact h4 k k1 (by omega)
  · rw [ltAt_swap (by omega) (by omega), ha]
    unfold tr
    rw [if_neg (by omega)]
    split
    · exact hi
    · exact h5 k (by omega) k2

theorem part_end {a b i j : Nat} (hb : b ≤ ys.length) (h : PartI lt ys a b i j) (hij : j < i) : PartP lt (swapL ys j a) a b j := by
  obtain ⟨h1, h2, h3, h4, h5⟩ := h
  have hj : tr j a j = a := by unfold tr; rw [if_pos rfl]
  refine ⟨by omega, h3, fun k k1 k2 => ?_, fun k k1 k2 => ?_⟩
  · rw [ltAt_swap (by omega) (by omega), hj]
    unfold tr
    rw [if_neg (by omega)]
    split
    · exact h4 j (by omega) (by omega)
    · exact h4 k (by omega) (by omega)
  · rw [ltAt_swap (by omega) (by omega), hj]
    unfold tr
    rw [if_neg (by omega), if_neg (by omega)]
    exact h5 k k1 k2

theorem part_c (ok : I.Ok P lt) (im : I.Impl P) (x0 : I.E) (a b p : Nat) (hap : a ≤ p) (hpb : p < b) (hb : b ≤ xs.length) (h63 : xs.length < 2305843009213693952) (hs : Sat w (I.arr d xs :: l)) :
    Ret P I.f_part ([d.v, .int .i64 a, .int .i64 b, .int .i64 p] ++ I.ex).toArray w fun vs w' => ∃ (m : Nat) (q : Bool) (ys : List I.E), vs = [.int .i64 m, .bool q] ∧ Sw a b xs ys ∧ PartP lt ys a b m ∧ Sat w' (I.arr d ys :: l) := im.part <| by
  unfold SortI.part
  refine wp_swap ok a p rfl rfl (by omega) (by omega) hs fun w' hs => ?_
  have hsw : Sw a b xs (swapL xs a p) := .step (.refl _) (by omega) (by omega) (by omega) (by omega)
  generalize swapL xs a p = ys at *
  have hyl := hsw.length
  refine wp_lw (y := ((a + 1 : Nat) : Int)) (by rw [w64 (by omega) (by omega)]; omega) ?_
  refine wp_lw (y := ((b - 1 : Nat) : Int)) (by rw [w64 (by omega) (by omega)]; omega) ?_
  refine scan_up1 ok x0 (f := id) (a + 1) (b - 1) a rfl (by omega) (by omega) (by omega) (by omega) hs fun i w' i1 i2 i3 i4 hs => ?_
  refine scan_dn1 ok x0 (f := not) i (b - 1) a rfl (by omega) (by omega) (by omega) (by omega) (by omega) hs fun j w' j1 j2 j3 j4 hs => ?_
  have hI : PartI lt ys a b i j := ⟨i1, j1, by omega, i3, fun k k1 k2 => by simpa using j3 k k1 (by omega)⟩
  refine wp_ite (fun hc => ?_) fun hc => ?_
  · have hc : (i : Int) > j := of_decide_eq_true hc
    refine wp_swap ok j a rfl rfl (by omega) (by omega) hs fun w' hs => ?_
    refine wp_lt ?_
    exact ⟨rfl, j, true, _, rfl, .step hsw (by omega) (by omega) (by omega) (by omega), part_end (by omega) hI (by omega), hs⟩
  · have hc : ¬ (i : Int) > j := of_decide_eq_false hc
    have hia := i4 (by omega)
    have hja : ltAt lt ys j a = true := by simpa using j4 (by omega)
    have hne : i ≠ j := by rintro rfl; rw [id, hja] at hia; cases hia
    refine wp_swap ok i j rfl rfl (by omega) (by omega) hs fun w' hs => ?_
    have hI2 := part_step (by omega) hI (by omega) hia hja
    have hsw2 : Sw a b xs (swapL ys i j) := .step hsw (by omega) (by omega) (by omega) (by omega)
    refine wp_lw (y := ((i + 1 : Nat) : Int)) (by dsimp only; rw [w64 (by omega) (by omega)]; omega) ?_
    refine wp_lw (y := ((j - 1 : Nat) : Int)) (by dsimp only; rw [w64 (by omega) (by omega)]; omega) ?_
    refine wp_mid (fun v w' => ∃ (i j : Nat) (ys : List I.E), v = ((j : Int), ()) ∧ j < i ∧ PartI lt ys a b i j ∧ Sw a b xs ys ∧ Sat w' (I.arr d ys :: l)) ?_ ?_
    · refine wp_loop (fun n v w => ∃ (i j : Nat) (ys : List I.E), v = ((i : Int), (j : Int), ()) ∧ PartI lt ys a b i j ∧ j = n ∧ Sw a b xs ys ∧ Sat w (I.arr d ys :: l)) (j - 1) ⟨i + 1, j - 1, _, rfl, hI2, rfl, hsw2, hs⟩ ?_
      clear hI hI2 hsw hsw2 hs i1 i2 i3 i4 j1 j2 j3 j4 hc hia hja hne hyl
      rintro n _ w ⟨i', j', ys, rfl, ⟨h1, h2, h3, h4, h5⟩, rfl, hsw, hs⟩
      have hyl := hsw.length
      refine wp_mid (fun v w' => ∃ (i j : Nat) (ys : List I.E), v = ((i : Int), (j : Int), ()) ∧ PartI lt ys a b i j ∧ j < j' ∧ Sw a b xs ys ∧ Sat w' (I.arr d ys :: l)) ?_ ?_
      · refine scan_up1 ok x0 (f := id) i' j' a rfl (by omega) (by omega) (by omega) (by omega) hs fun i w' i1 i2 i3 i4 hs => ?_
        refine scan_dn1 ok x0 (f := not) i j' a rfl (by omega) (by omega) (by omega) (by omega) (by omega) hs fun j w' j1 j2 j3 j4 hs => ?_
        have hI : PartI lt ys a b i j := ⟨by omega, j1, by omega, fun k k1 k2 => if hk : k < i' then h4 k k1 hk else i3 k (by omega) k2, fun k k1 k2 => if hk : j' < k then h5 k hk k2 else by simpa using j3 k k1 (by omega)⟩
        refine wp_ite (fun hc => ?_) fun hc => ?_
        · have hc : (i : Int) > j := of_decide_eq_true hc
          refine wp_pass ?_
          refine wp_pass ?_
          exact wp_leave ⟨((j : Int), ()), rfl, i, j, ys, rfl, by omega, hI, hsw, hs⟩
        · have hc : ¬ (i : Int) > j := of_decide_eq_false hc
          have hia := i4 (by omega)
          have hja : ltAt lt ys j a = true := by simpa using j4 (by omega)
          have hne : i ≠ j := by rintro rfl; rw [id, hja] at hia; cases hia
          refine wp_swap ok i j rfl rfl (by omega) (by omega) hs fun w' hs => ?_
          refine wp_lw (y := ((i + 1 : Nat) : Int)) (by dsimp only; rw [w64 (by omega) (by omega)]; omega) ?_
          refine wp_lw (y := ((j - 1 : Nat) : Int)) (by dsimp only; rw [w64 (by omega) (by omega)]; omega) ?_
          exact wp_leave ⟨(((i + 1 : Nat) : Int), ((j - 1 : Nat) : Int), ()), rfl, i + 1, j - 1, _, rfl, part_step (by omega) hI (by omega) hia hja, by omega, .step hsw (by omega) (by omega) (by omega) (by omega), hs⟩
      · rintro _ w' ⟨i, j, ys, rfl, hI, hlt, hsw, hs⟩
        exact wp_leave ⟨((i : Int), (j : Int), ()), j, hlt, rfl, i, j, ys, rfl, hI, rfl, hsw, hs⟩
    · rintro _ w' ⟨i, j, ys, rfl, hij, hI, hsw, hs⟩
      have hyl := hsw.length
      have hjb := hI.2.2.1
      have h1 := hI.1
      have h2 := hI.2.1
      refine wp_swap ok j a rfl rfl (by omega) (by omega) hs fun w' hs => ?_
      refine wp_lt ?_
      exact ⟨rfl, j, false, _, rfl, .step hsw (by omega) (by omega) (by omega) (by omega), part_end (by omega) hI hij, hs⟩

/-! ### Equals -/
def EqI (lt : I.E → I.E → Bool) (ys : List I.E) (a b i j : Nat) : Prop :=
  a + 1 ≤ i ∧ i ≤ j + 1 ∧ j < b ∧ (∀ k, a + 1 ≤ k → k < i → ltAt lt ys a k = false) ∧ (∀ k, j < k → k < b → ltAt lt ys a k = true)

theorem eq_step {a b i j : Nat} (hb : b ≤ ys.length) (h : EqI lt ys a b i j) (hij : i < j) (hi : ltAt lt ys a i = true) (hj : ltAt lt ys a j = false) : EqI lt (swapL ys i j) a b (i + 1) (j - 1) := by
  obtain ⟨h1, h2, h3, h4, h5⟩ := h
  have ha : tr i j a = a := by unfold tr; rw [if_neg (by omega), if_neg (by omega)]
  refine ⟨by omega, by omega, by omega, fun k k1 k2 => ?_, fun k k1 k2 => ?_⟩
  · rw [ltAt_swap (by omega) (by omega), ha]
    unfold tr
    split
    · exact hj
    · rw [if_neg (by omega)]; exact h4 k k1 (by omega)
  · rw [ltAt_swap (by omega) (by omega), ha]
    unfold tr
    rw [if_neg (by omega)]
    split
    · exact hi
    · exact h5 k (by omega) k2

theorem peq_c (ok : I.Ok P lt) (im : I.Impl P) (x0 : I.E) (a b p : Nat) (hap : a ≤ p) (hpb : p < b) (hb : b ≤ xs.length) (h63 : xs.length < 2305843009213693952) (hs : Sat w (I.arr d xs :: l)) :
    Ret P I.f_peq ([d.v, .int .i64 a, .int .i64 b, .int .i64 p] ++ I.ex).toArray w fun vs w' => ∃ (m : Nat) (ys : List I.E), vs = [.int .i64 m] ∧ Sw a b xs ys ∧ ys[a]? = xs[p]? ∧ a < m ∧ m ≤ b ∧ (∀ k, a + 1 ≤ k → k < m → ltAt lt ys a k = false) ∧ (∀ k, m ≤ k → k < b → ltAt lt ys a k = true) ∧ Sat w' (I.arr d ys :: l) := im.peq <| by
  unfold SortI.peq
  refine wp_swap ok a p rfl rfl (by omega) (by omega) hs fun w' hs => ?_
  have hsw : Sw a b xs (swapL xs a p) := .step (.refl _) (by omega) (by omega) (by omega) (by omega)
  have hya : (swapL xs a p)[a]? = xs[p]? := by rw [swapL_get (by omega) (by omega)]; unfold tr; rw [if_pos rfl]
  generalize swapL xs a p = ys at *
  have hyl := hsw.length
  refine wp_lw (y := ((a + 1 : Nat) : Int)) (by rw [w64 (by omega) (by omega)]; omega) ?_
  refine wp_lw (y := ((b - 1 : Nat) : Int)) (by rw [w64 (by omega) (by omega)]; omega) ?_
  refine wp_mid (fun v w' => ∃ (i j : Nat) (ys : List I.E), v = ((i : Int), ()) ∧ j < i ∧ EqI lt ys a b i j ∧ Sw a b xs ys ∧ ys[a]? = xs[p]? ∧ Sat w' (I.arr d ys :: l)) ?_ ?_
  · refine wp_loop (fun n v w => ∃ (i j : Nat) (ys : List I.E), v = ((i : Int), (j : Int), ()) ∧ EqI lt ys a b i j ∧ j = n ∧ Sw a b xs ys ∧ ys[a]? = xs[p]? ∧ Sat w (I.arr d ys :: l)) (b - 1) ⟨a + 1, b - 1, _, rfl, ⟨by omega, by omega, by omega, fun k k1 k2 => by omega, fun k k1 k2 => by omega⟩, rfl, hsw, hya, hs⟩ ?_
    clear hsw hs hya hyl
    rintro n _ w ⟨i', j', ys, rfl, ⟨h1, h2, h3, h4, h5⟩, rfl, hsw, hya, hs⟩
    have hyl := hsw.length
    refine wp_mid (fun v w' => ∃ (i j : Nat) (ys : List I.E), v = ((i : Int), (j : Int), ()) ∧ EqI lt ys a b i j ∧ j < j' ∧ Sw a b xs ys ∧ ys[a]? = xs[p]? ∧ Sat w' (I.arr d ys :: l)) ?_ ?_
    · refine scan_up2 ok x0 (f := not) i' j' a rfl (by omega) (by omega) (by omega) (by omega) hs fun i w' i1 i2 i3 i4 hs => ?_
      refine scan_dn2 ok x0 (f := id) i j' a rfl (by omega) (by omega) (by omega) (by omega) (by omega) hs fun j w' j1 j2 j3 j4 hs => ?_
      have hI : EqI lt ys a b i j := ⟨by omega, j1, by omega, fun k k1 k2 => if hk : k < i' then h4 k k1 hk else by simpa using i3 k (by omega) k2, fun k k1 k2 => if hk : j' < k then h5 k hk k2 else j3 k k1 (by omega)⟩
      refine wp_ite (fun hc => ?_) fun hc => ?_
      · have hc : (i : Int) > j := of_decide_eq_true hc
        refine wp_pass ?_
        refine wp_pass ?_
        exact wp_leave ⟨((i : Int), ()), rfl, i, j, ys, rfl, by omega, hI, hsw, hya, hs⟩
      · have hc : ¬ (i : Int) > j := of_decide_eq_false hc
        have hia : ltAt lt ys a i = true := by simpa using i4 (by omega)
        have hja := j4 (by omega)
        have hne : i ≠ j := by rintro rfl; rw [id, hia] at hja; cases hja
        refine wp_swap ok i j rfl rfl (by omega) (by omega) hs fun w' hs => ?_
        refine wp_lw (y := ((i + 1 : Nat) : Int)) (by dsimp only; rw [w64 (by omega) (by omega)]; omega) ?_
        refine wp_lw (y := ((j - 1 : Nat) : Int)) (by dsimp only; rw [w64 (by omega) (by omega)]; omega) ?_
        refine wp_leave ⟨(((i + 1 : Nat) : Int), ((j - 1 : Nat) : Int), ()), rfl, i + 1, j - 1, _, rfl, eq_step (by omega) hI (by omega) hia hja, by omega, .step hsw (by omega) (by omega) (by omega) (by omega), ?_, hs⟩
        rw [swapL_get (by omega) (by omega)]
        unfold tr
        rw [if_neg (by omega), if_neg (by omega)]
        exact hya
    · rintro _ w' ⟨i, j, ys, rfl, hI, hlt, hsw, hya, hs⟩
      exact wp_leave ⟨((i : Int), (j : Int), ()), j, hlt, rfl, i, j, ys, rfl, hI, rfl, hsw, hya, hs⟩
  · rintro _ w' ⟨i, j, ys, rfl, hij, ⟨h1, h2, h3, h4, h5⟩, hsw, hya, hs⟩
    refine wp_lt ?_
    exact ⟨rfl, i, ys, rfl, hsw, hya, by omega, by omega, h4, fun k k1 k2 => h5 k (by omega) k2, hs⟩

end
end Go.Dec
