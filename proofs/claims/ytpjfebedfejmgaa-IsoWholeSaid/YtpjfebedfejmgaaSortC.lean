/- Sorting, part C: lists under swaps; insertion. -/
import Derived.Test.YtpjfebedfejmgaaSortB
namespace Go.Dec
set_option linter.unusedVariables false
set_option linter.unusedSimpArgs false

/-- Swaps within [a, b). -/
inductive Sw {α : Type} (a b : Nat) : List α → List α → Prop
  | refl (xs : List α) : Sw a b xs xs
  | step {xs ys : List α} {i j : Nat} (h : Sw a b xs ys) (hi : a ≤ i) (hi' : i < b) (hj : a ≤ j) (hj' : j < b) : Sw a b xs (swapL ys i j)

def tr (i j p : Nat) : Nat := if p = i then j else if p = j then i else p

structure LtOk {α : Type} (lt : α → α → Bool) : Prop where
  asymm : ∀ {x y}, lt x y = true → lt y x = false
  trans : ∀ {x y z}, lt x y = false → lt y z = false → lt x z = false

section
variable {α : Type} {lt : α → α → Bool} {xs ys zs : List α} {a b : Nat}

theorem swapL_length (xs : List α) (i j : Nat) : (swapL xs i j).length = xs.length := by
  unfold swapL; split <;> simp

theorem swapL_get {i j : Nat} (hi : i < xs.length) (hj : j < xs.length) (p : Nat) : (swapL xs i j)[p]? = xs[tr i j p]? := by
  simp only [swapL, List.getElem?_eq_getElem hi, List.getElem?_eq_getElem hj, tr]
  rw [List.getElem?_set]
  by_cases h1 : p = i
  · subst h1
    rw [if_pos rfl]
    by_cases h2 : j = p
    · subst h2; rw [if_pos rfl, if_pos (by simpa using hi), List.getElem?_eq_getElem hi]
    · rw [if_neg h2, List.getElem?_set, if_pos rfl, if_pos hi, List.getElem?_eq_getElem hj]
  · rw [if_neg h1]
    by_cases h2 : j = p
    · subst h2; rw [if_pos rfl, if_pos rfl, if_pos (by simpa using hj), List.getElem?_eq_getElem hi]
    · rw [if_neg h2, if_neg (Ne.symm h2), List.getElem?_set, if_neg (Ne.symm h1)]

theorem ltAt_swap {i j : Nat} (hi : i < xs.length) (hj : j < xs.length) (p q : Nat) : ltAt lt (swapL xs i j) p q = ltAt lt xs (tr i j p) (tr i j q) := by
  simp only [ltAt, swapL_get hi hj]

theorem LtOk.asymmAt (h : LtOk lt) {p q : Nat} (hl : ltAt lt xs p q = true) : ltAt lt xs q p = false := by
  unfold ltAt at *
  split at hl
  · rename_i x y hx hy; rw [hx, hy]; exact h.asymm hl
  · cases hl

theorem LtOk.transAt (h : LtOk lt) {p q r : Nat} (hq : q < xs.length) (h1 : ltAt lt xs p q = false) (h2 : ltAt lt xs q r = false) : ltAt lt xs p r = false := by
  unfold ltAt at *
  rw [List.getElem?_eq_getElem hq] at h1 h2
  cases hp : xs[p]? with
  | none => rfl
  | some x =>
    cases hr : xs[r]? with
    | none => rfl
    | some z => rw [hp] at h1; rw [hr] at h2; exact h.trans h1 h2

theorem LtOk.irrefl (h : LtOk lt) (p : Nat) : ltAt lt xs p p = false := by
  cases hc : ltAt lt xs p p with
  | false => rfl
  | true => have := h.asymmAt hc; rw [hc] at this; cases this

theorem Sw.length (h : Sw a b xs ys) : ys.length = xs.length := by
  induction h with
  | refl => rfl
  | step _ _ _ _ _ ih => rw [swapL_length, ih]

theorem Sw.trans (h1 : Sw a b xs ys) (h2 : Sw a b ys zs) : Sw a b xs zs := by
  induction h2 with
  | refl => exact h1
  | step _ hi hi' hj hj' ih => exact .step ih hi hi' hj hj'

theorem Sw.mono {a' b' : Nat} (h : Sw a b xs ys) (ha : a' ≤ a) (hb : b ≤ b') : Sw a' b' xs ys := by
  induction h with
  | refl => exact .refl _
  | step _ hi hi' hj hj' ih => exact .step ih (by omega) (by omega) (by omega) (by omega)

theorem Sw.out (h : Sw a b xs ys) {k : Nat} (hk : k < a ∨ b ≤ k) : ys[k]? = xs[k]? := by
  induction h with
  | refl => rfl
  | @step ys' i j h1 hi hi' hj hj' ih =>
    rw [← ih]
    unfold swapL
    split
    · rw [List.getElem?_set_ne (by omega), List.getElem?_set_ne (by omega)]
    · rfl

theorem swapL_perm (xs : List α) (i j : Nat) : (swapL xs i j).Perm xs := by
  unfold swapL
  split
  · rename_i x y hx hy
    obtain ⟨hi, rfl⟩ := List.getElem?_eq_some_iff.1 hx
    obtain ⟨hj, rfl⟩ := List.getElem?_eq_some_iff.1 hy
    exact List.set_set_perm hi hj
  · exact .refl _

theorem Sw.perm (h : Sw a b xs ys) : ys.Perm xs := by
  induction h with
  | refl => exact .refl _
  | step _ _ _ _ _ ih => exact (swapL_perm _ _ _).trans ih

/-- What holds of all elements of the range holds of all behind swaps. -/
theorem Sw.all (h : Sw a b xs ys) (hb : b ≤ xs.length) {p : α → Prop} (hp : ∀ k x, a ≤ k → k < b → xs[k]? = some x → p x) : ∀ k x, a ≤ k → k < b → ys[k]? = some x → p x := by
  induction h with
  | refl => exact hp
  | @step ys' i j h1 hi hi' hj hj' ih =>
    intro k x h2 h3 hx
    have hl := h1.length
    rw [swapL_get (by omega) (by omega)] at hx
    unfold tr at hx
    split at hx
    · exact ih j x hj hj' hx
    · split at hx
      · exact ih i x hi hi' hx
      · exact ih k x h2 h3 hx

def SortedR (lt : α → α → Bool) (xs : List α) (a b : Nat) : Prop := ∀ p q, a ≤ p → p < q → q < b → ltAt lt xs q p = false

end

section
variable {P : Program} {I : SortI} {lt : I.E → I.E → Bool} {w : World} {l : List HP} {Q : Post} {d : Sl} {xs : List I.E}

theorem cast_sub {n : Nat} (h : 1 ≤ n) : ((n : Int) - 1) = ((n - 1 : Nat) : Int) := by omega

theorem ins_c (ok : I.Ok P lt) (lo : LtOk lt) (x0 : I.E) (a b : Nat) (hab : a ≤ b) (hb : b ≤ xs.length) (h63 : xs.length < 4611686018427387904) (hs : Sat w (I.arr d xs :: l)) :
    (I.ins d a b).wp P tt w fun e vs w' => e = 0 ∧ vs = [] ∧ ∃ ys, Sw a b xs ys ∧ SortedR lt ys a b ∧ Sat w' (I.arr d ys :: l) := by
  unfold SortI.ins
  refine wp_lw (y := ((a + 1 : Nat) : Int)) (by rw [w64 (by omega) (by omega)]; rfl) ?_
  refine wp_mid (fun v w' => ∃ ys, Sw a b xs ys ∧ SortedR lt ys a b ∧ Sat w' (I.arr d ys :: l)) ?_ (fun _ w' h => ⟨rfl, rfl, h⟩)
  refine wp_loop (fun n v w => ∃ (i : Nat) (ys : List I.E), v = ((i : Int), ()) ∧ a + 1 ≤ i ∧ b + 1 - i = n ∧ (i ≤ b ∨ b < a + 1) ∧ Sw a b xs ys ∧ SortedR lt ys a i ∧ Sat w (I.arr d ys :: l)) (b + 1 - (a + 1)) ?_ ?_
  · exact ⟨a + 1, xs, rfl, by omega, rfl, by omega, .refl _, fun p q h1 h2 h3 => by omega, hs⟩
  rintro n _ w ⟨i, ys, rfl, hi, hn, hib, hsw, hso, hs⟩
  have hyl := hsw.length
  refine wp_ite (fun hc => ?_) fun hc => ?_
  · have hc : (i : Int) < b := of_decide_eq_true hc
    refine wp_mid (fun v w' => ∃ ys, Sw a b xs ys ∧ SortedR lt ys a (i + 1) ∧ Sat w' (I.arr d ys :: l)) ?_ ?_
    · refine wp_lt ?_
      refine wp_mid (fun v w' => ∃ ys, Sw a b xs ys ∧ SortedR lt ys a (i + 1) ∧ Sat w' (I.arr d ys :: l)) ?_ (fun _ w' h => wp_leave ⟨(), rfl, h⟩)
      refine wp_loop (fun n v w => ∃ (j : Nat) (ys : List I.E), v = ((j : Int), ()) ∧ a ≤ j ∧ j ≤ i ∧ j = n ∧ Sw a b xs ys ∧ (∀ p q, a ≤ p → p < q → q ≤ i → q ≠ j → ltAt lt ys q p = false) ∧ Sat w (I.arr d ys :: l)) i ?_ ?_
      · exact ⟨i, ys, rfl, by omega, by omega, rfl, hsw, fun p q h1 h2 h3 h4 => hso p q h1 h2 (by omega), hs⟩
      rintro n _ w ⟨j, ys, rfl, hj, hji, rfl, hsw, hso, hs⟩
      have hyl := hsw.length
      refine wp_gcmp ok (f := id) j (j - 1) (fun _ => ⟨rfl, by omega⟩) (fun h => ?_) x0 hs fun w' hs => ?_
      · have h : (j : Int) > a := of_decide_eq_true h
        exact ⟨by rw [w64 (by omega) (by omega)]; omega, by omega⟩
      refine wp_ite (fun hc2 => ?_) fun hc2 => ?_
      · have hc2 : (decide ((j : Int) > a) && ltAt lt ys j (j - 1)) = true := hc2
        simp only [Bool.and_eq_true, decide_eq_true_eq] at hc2
        obtain ⟨h1, h2⟩ := hc2
        refine wp_swap ok j (j - 1) rfl (by rw [w64 (by omega) (by omega)]; omega) (by omega) (by omega) hs fun w' hs => ?_
        refine wp_lw (y := ((j - 1 : Nat) : Int)) (by rw [w64 (by omega) (by omega)]; omega) ?_
        refine wp_leave ⟨(((j - 1 : Nat) : Int), ()), j - 1, by omega, rfl, j - 1, _, rfl, by omega, by omega, rfl, .step hsw (by omega) (by omega) (by omega) (by omega), fun p q p1 p2 p3 p4 => ?_, hs⟩
        rw [ltAt_swap (by omega) (by omega)]
        unfold tr
        by_cases q1 : q = j
        · subst q1
          rw [if_pos rfl]
          by_cases q2 : p = q - 1
          · subst q2
            rw [if_neg (by omega), if_pos rfl]
            exact lo.asymmAt h2
          · rw [if_neg (by omega), if_neg q2]
            exact hso p (q - 1) p1 (by omega) (by omega) (by omega)
        · rw [if_neg q1, if_neg p4]
          by_cases q2 : p = j
          · subst q2
            rw [if_pos rfl]
            exact hso (p - 1) q (by omega) (by omega) p3 q1
          · rw [if_neg q2]
            by_cases q3 : p = j - 1
            · subst q3
              rw [if_pos rfl]
              exact hso j q (by omega) (by omega) p3 q1
            · rw [if_neg q3]; exact hso p q p1 p2 p3 q1
      · have hc2 : (decide ((j : Int) > a) && ltAt lt ys j (j - 1)) = false := hc2
        refine wp_pass ?_
        refine wp_leave ⟨(), rfl, ys, hsw, fun p q p1 p2 p3 => ?_, hs⟩
        by_cases hq : q = j
        · subst hq
          rw [decide_eq_true (show (q : Int) > a by omega), Bool.true_and] at hc2
          by_cases hp : p = q - 1
          · subst hp; exact hc2
          · exact lo.transAt (q := q - 1) (by omega) hc2 (hso p (q - 1) p1 (by omega) (by omega) (by omega))
        · exact hso p q p1 p2 (by omega) hq
    · rintro _ w' ⟨zs, hsw, hso, hs⟩
      refine wp_lw (y := ((i + 1 : Nat) : Int)) (by rw [w64 (by omega) (by omega)]; rfl) ?_
      exact wp_leave ⟨(((i + 1 : Nat) : Int), ()), b + 1 - (i + 1), by omega, rfl, i + 1, zs, rfl, by omega, rfl, by omega, hsw, hso, hs⟩
  · have hc : ¬ (i : Int) < b := of_decide_eq_false hc
    refine wp_pass ?_
    refine wp_leave ⟨(), rfl, ys, hsw, fun p q p1 p2 p3 => hso p q p1 p2 (by omega), hs⟩

end
end Go.Dec
