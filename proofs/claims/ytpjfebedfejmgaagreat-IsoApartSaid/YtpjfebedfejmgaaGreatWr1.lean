/- Wire: numbers as bytes, written and read: plain lists. -/
import Derived.KernelRfl
namespace Go.Dec
set_option linter.unusedVariables false
set_option linter.unusedSimpArgs false

def uintF : Nat → Nat → List UInt8
  | 0, _ => []
  | k + 1, n => if n < 128 then [UInt8.ofNat n] else UInt8.ofNat (n % 128 + 128) :: uintF k (n / 128)
/-- A number: seven bits a byte, the lowest first. -/
def uintL (n : Nat) : List UInt8 := uintF 10 n
/-- The number that bytes begin with, from byte number i on, and how many bytes that are. -/
def numR (i : Nat) : List UInt8 → Option (Nat × Nat)
  | [] => none
  | c :: r => if i ≥ 10 ∨ (i = 9 ∧ 1 < c.toNat) then none else if 128 ≤ c.toNat then (numR (i + 1) r).map fun p => (c.toNat % 128 + 128 * p.1, p.2 + 1) else if c.toNat = 0 ∧ 0 < i then none else some (c.toNat, 1)

theorem numR_cons (i : Nat) (c : UInt8) (r : List UInt8) : numR i (c :: r) = if i ≥ 10 ∨ (i = 9 ∧ 1 < c.toNat) then none else if 128 ≤ c.toNat then (numR (i + 1) r).map fun p => (c.toNat % 128 + 128 * p.1, p.2 + 1) else if c.toNat = 0 ∧ 0 < i then none else some (c.toNat, 1) := rfl

theorem uintF_succ : ∀ (k n : Nat), 0 < k → n < 128 ^ k → uintF (k + 1) n = uintF k n
  | k + 1, n, _, h => by
    show (if n < 128 then _ else _ :: uintF (k + 1) (n / 128)) = if n < 128 then _ else _ :: uintF k (n / 128)
    by_cases h1 : n < 128
    · rw [if_pos h1, if_pos h1]
    · rw [if_neg h1, if_neg h1]
      have hk : 0 < k := by
        apply Nat.pos_of_ne_zero
        rintro rfl
        simp at h; omega
      rw [uintF_succ k (n / 128) hk]
      rw [Nat.pow_succ] at h
      omega
theorem uintL_eq {n : Nat} (h : n < 18446744073709551616) : uintL n = if n < 128 then [UInt8.ofNat n] else UInt8.ofNat (n % 128 + 128) :: uintL (n / 128) := by
  unfold uintL
  rw [uintF_succ 9 (n / 128) (by decide) (by omega)]
  rfl
theorem uintF_len : ∀ (k n : Nat), (uintF k n).length ≤ k
  | 0, _ => Nat.le_refl _
  | k + 1, n => by
    have := uintF_len k (n / 128)
    unfold uintF
    split <;> simp <;> omega
theorem uintF_pos (k n : Nat) : 0 < (uintF (k + 1) n).length := by
  unfold uintF
  split <;> simp
theorem uintL_len (n : Nat) : 0 < (uintL n).length ∧ (uintL n).length ≤ 10 := ⟨uintF_pos 9 n, uintF_len 10 n⟩
theorem numR_len : ∀ (bs : List UInt8) (i v k : Nat), numR i bs = some (v, k) → 0 < k ∧ k ≤ bs.length ∧ i + k ≤ 10
  | [], i, v, k, h => by cases h
  | c :: r, i, v, k, h => by
    unfold numR at h
    split at h
    · cases h
    rename_i h1
    split at h
    · rename_i h2
      cases hr : numR (i + 1) r with
      | none => rw [hr] at h; cases h
      | some p =>
        rw [hr] at h
        simp only [Option.map_some, Option.some.injEq, Prod.mk.injEq] at h
        have := numR_len r (i + 1) p.1 p.2 hr
        simp; omega
    · split at h
      · cases h
      · simp only [Option.some.injEq, Prod.mk.injEq] at h
        simp; omega

theorem num_uint : ∀ (k i n : Nat) (rest : List UInt8), n < 128 ^ k → 0 < k → n * 128 ^ i < 18446744073709551616 → (0 < i → 0 < n) → i < 10 → numR i (uintF k n ++ rest) = some (n, (uintF k n).length)
  | k + 1, i, n, rest, hn, _, h64, hi, hi10 => by
    have hcase : i = 0 ∨ i = 1 ∨ i = 2 ∨ i = 3 ∨ i = 4 ∨ i = 5 ∨ i = 6 ∨ i = 7 ∨ i = 8 ∨ i = 9 := by omega
    have h9 : i = 9 → n < 2 := fun e => by subst e; simp at h64; omega
    unfold uintF
    by_cases h : n < 128
    · rw [if_pos h]
      show (if _ then _ else if _ then _ else if _ then _ else _) = _
      have e : (UInt8.ofNat n).toNat = n := by simp; omega
      rw [e, if_neg (by omega), if_neg (by omega), if_neg (by omega)]
      rfl
    · rw [if_neg h]
      have e : (UInt8.ofNat (n % 128 + 128)).toNat = n % 128 + 128 := by simp; omega
      have h64' : n / 128 * 128 ^ (i + 1) < 18446744073709551616 := by
        rw [Nat.pow_succ, Nat.mul_comm (128 ^ i), ← Nat.mul_assoc]
        exact Nat.lt_of_le_of_lt (Nat.mul_le_mul_right _ (Nat.div_mul_le_self n 128)) h64
      have hk : 0 < k := by
        apply Nat.pos_of_ne_zero
        rintro rfl
        simp at hn; omega
      have ih := num_uint k (i + 1) (n / 128) rest (by rw [Nat.pow_succ] at hn; omega) hk h64' (fun _ => by omega) (by omega)
      rw [List.cons_append]
      show (if _ then _ else if _ then _ else _) = _
      have e3 : (n % 128 + 128) % 128 + 128 * (n / 128) = n := by omega
      rw [e, if_neg (by omega), if_pos (by omega), ih, Option.map_some, e3, List.length_cons]
theorem num_uintL {n : Nat} (h : n < 18446744073709551616) (rest : List UInt8) : numR 0 (uintL n ++ rest) = some (n, (uintL n).length) :=
  num_uint 10 0 n rest (by omega) (by decide) (by omega) (fun h => absurd h (by decide)) (by decide)

theorem num_inv : ∀ (bs : List UInt8) (i v k : Nat), i < 10 → numR i bs = some (v, k) → bs.take k = uintF (10 - i) v ∧ v * 128 ^ i < 18446744073709551616 ∧ (0 < i → 0 < v)
  | [], i, v, k, _, h => by cases h
  | c :: r, i, v, k, hi10, h => by
    have hcase : i = 0 ∨ i = 1 ∨ i = 2 ∨ i = 3 ∨ i = 4 ∨ i = 5 ∨ i = 6 ∨ i = 7 ∨ i = 8 ∨ i = 9 := by omega
    have hc := c.toNat_lt
    unfold numR at h
    split at h
    · cases h
    rename_i h1
    split at h
    · rename_i h2
      cases hr : numR (i + 1) r with
      | none => rw [hr] at h; cases h
      | some p =>
        rw [hr] at h
        simp only [Option.map_some, Option.some.injEq, Prod.mk.injEq] at h
        obtain ⟨rfl, rfl⟩ := h
        obtain ⟨g1, g2, g3⟩ := num_inv r (i + 1) p.1 p.2 (by omega) hr
        have hp := g3 (by omega)
        obtain ⟨m, hm⟩ : ∃ m, 10 - i = m + 1 := ⟨9 - i, by omega⟩
        have hm' : 10 - (i + 1) = m := by omega
        rw [hm'] at g1
        refine ⟨?_, ?_, fun _ => by omega⟩
        · rw [hm]
          unfold uintF
          rw [if_neg (by omega), List.take_succ_cons, g1]
          have e1 : (c.toNat % 128 + 128 * p.1) % 128 + 128 = c.toNat := by omega
          have e2 : (c.toNat % 128 + 128 * p.1) / 128 = p.1 := by omega
          rw [e1, e2]
          simp
        · obtain ⟨m, hm⟩ : ∃ m, 18446744073709551616 = m * 128 ^ (i + 1) := by
            rcases hcase with rfl | rfl | rfl | rfl | rfl | rfl | rfl | rfl | rfl | rfl
            · exact ⟨2 ^ 57, rfl⟩
            · exact ⟨2 ^ 50, rfl⟩
            · exact ⟨2 ^ 43, rfl⟩
            · exact ⟨2 ^ 36, rfl⟩
            · exact ⟨2 ^ 29, rfl⟩
            · exact ⟨2 ^ 22, rfl⟩
            · exact ⟨2 ^ 15, rfl⟩
            · exact ⟨2 ^ 8, rfl⟩
            · exact ⟨2 ^ 1, rfl⟩
            · omega
          rw [hm] at g2 ⊢
          have hlt := Nat.lt_of_mul_lt_mul_right g2
          have h5 : (p.1 + 1) * 128 ^ (i + 1) ≤ m * 128 ^ (i + 1) := Nat.mul_le_mul_right _ hlt
          refine Nat.lt_of_lt_of_le ?_ h5
          rw [Nat.pow_succ, Nat.mul_comm (128 ^ i), ← Nat.mul_assoc]
          exact Nat.mul_lt_mul_of_pos_right (by omega) (Nat.pow_pos (by decide))
    · split at h
      · cases h
      · simp only [Option.some.injEq, Prod.mk.injEq] at h
        obtain ⟨rfl, rfl⟩ := h
        obtain ⟨m, hm⟩ : ∃ m, 10 - i = m + 1 := ⟨9 - i, by omega⟩
        refine ⟨?_, ?_, fun _ => by omega⟩
        · rw [hm]
          unfold uintF
          rw [if_pos (by omega)]
          simp
        · rcases hcase with rfl | rfl | rfl | rfl | rfl | rfl | rfl | rfl | rfl | rfl <;> simp <;> omega
theorem num_invL {bs : List UInt8} {v k : Nat} (h : numR 0 bs = some (v, k)) : bs.take k = uintL v ∧ v < 18446744073709551616 := by
  obtain ⟨h1, h2, -⟩ := num_inv bs 0 v k (by decide) h
  exact ⟨h1, by simpa using h2⟩

/-- How many bytes go on. -/
def leadL : List UInt8 → Nat
  | [] => 0
  | c :: r => if 128 ≤ c.toNat then leadL r + 1 else 0
def valL : List UInt8 → Nat
  | [] => 0
  | c :: r => c.toNat % 128 + 128 * valL r
theorem leadL_le : ∀ bs : List UInt8, leadL bs ≤ bs.length
  | [] => Nat.le_refl _
  | c :: r => by
    have := leadL_le r
    unfold leadL
    split <;> simp <;> omega
theorem leadL_all : ∀ (bs : List UInt8) (i : Nat) (h : i < leadL bs), 128 ≤ (bs[i]'(Nat.lt_of_lt_of_le h (leadL_le bs))).toNat
  | [], i, h => by cases h
  | c :: r, i, h => by
    unfold leadL at h
    split at h
    · rename_i h1
      cases i with
      | zero => exact h1
      | succ i => exact leadL_all r i (by omega)
    · cases h
theorem leadL_end : ∀ (bs : List UInt8) (h : leadL bs < bs.length), (bs[leadL bs]'h).toNat < 128
  | [], h => by cases h
  | c :: r, h => by
    by_cases h1 : 128 ≤ c.toNat
    · have e : leadL (c :: r) = leadL r + 1 := by show (if _ then _ else _) = _; rw [if_pos h1]
      simp only [e, List.getElem_cons_succ]
      exact leadL_end r (by rw [e] at h; simpa using h)
    · have e : leadL (c :: r) = 0 := by show (if _ then _ else _) = _; rw [if_neg h1]
      simp only [e, List.getElem_cons_zero]
      omega
/-- The reading, by its length first. -/
theorem num_lead : ∀ (bs : List UInt8) (i : Nat), numR i bs = if h : leadL bs < bs.length ∧ i + leadL bs < 10 then
    if ((bs[leadL bs]'h.1).toNat = 0 ∧ 0 < i + leadL bs) ∨ (i + leadL bs = 9 ∧ 1 < (bs[leadL bs]'h.1).toNat) then none else some (valL (bs.take (leadL bs + 1)), leadL bs + 1) else none
  | [], i => by simp [numR, leadL]
  | c :: r, i => by
    have ih := num_lead r (i + 1)
    have hl := leadL_le r
    unfold numR
    by_cases h1 : 128 ≤ c.toNat
    · have e : leadL (c :: r) = leadL r + 1 := by show (if _ then _ else _) = _; rw [if_pos h1]
      rw [if_pos h1, ih]
      simp only [e, List.length_cons, List.getElem_cons_succ, List.take_succ_cons, valL]
      by_cases h2 : leadL r < r.length ∧ i + 1 + leadL r < 10
      · rw [if_neg (by omega), dif_pos h2, dif_pos (by omega)]
        have e2 : i + (leadL r + 1) = i + 1 + leadL r := by omega
        simp only [e2]
        split <;> rfl
      · rw [dif_neg h2, dif_neg (by omega)]
        split <;> rfl
    · have e : leadL (c :: r) = 0 := by show (if _ then _ else _) = _; rw [if_neg h1]
      rw [if_neg h1]
      simp only [e, List.length_cons, List.getElem_cons_zero, List.take_succ_cons, valL, List.take_zero, Nat.add_zero]
      by_cases h2 : i < 10
      · rw [dif_pos ⟨by omega, h2⟩]
        by_cases h3 : i = 9 ∧ 1 < c.toNat
        · rw [if_pos (.inr h3), if_pos (.inr h3)]
        · rw [if_neg (by omega)]
          by_cases h4 : c.toNat = 0 ∧ 0 < i
          · rw [if_pos h4, if_pos (.inl h4)]
          · rw [if_neg h4, if_neg (by omega)]
            have : c.toNat % 128 = c.toNat := by omega
            simp [this]
      · rw [if_pos (by omega), dif_neg (by omega)]
theorem valL_lt : ∀ bs : List UInt8, valL bs < 128 ^ bs.length
  | [] => by simp [valL]
  | c :: r => by
    have := valL_lt r
    unfold valL
    rw [List.length_cons, Nat.pow_succ]
    omega
end Go.Dec
