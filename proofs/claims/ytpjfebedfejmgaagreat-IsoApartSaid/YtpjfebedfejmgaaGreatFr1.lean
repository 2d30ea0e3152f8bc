/- Frames: sums and frames as plain lists of bytes; the sum by bits is the sum. -/
import Derived.KernelRfl
namespace Go.Dec
set_option linter.unusedVariables false
set_option linter.unusedSimpArgs false

abbrev polyB : BitVec 32 := 0xEDB88320#32
def crcS (s : BitVec 32) : BitVec 32 := (s >>> 1) ^^^ (polyB &&& (0#32 - (s &&& 1#32)))
def crcN : Nat → BitVec 32 → BitVec 32
  | 0, s => s
  | k + 1, s => crcS (crcN k s)
def crcB (s : BitVec 32) (c : UInt8) : BitVec 32 := crcN 8 (s ^^^ BitVec.ofNat 32 c.toNat)
def crcL (s : BitVec 32) (bs : List UInt8) : BitVec 32 := bs.foldl crcB s
def moreL (x : BitVec 32) (bs : List UInt8) : BitVec 32 := ~~~ (crcL (~~~ x) bs)
def sumL (bs : List UInt8) : Nat := (moreL 0#32 bs).toNat
def fourL (n : Nat) : List UInt8 := [UInt8.ofNat n, UInt8.ofNat (n / 256), UInt8.ofNat (n / 65536), UInt8.ofNat (n / 16777216)]
def num4 : List UInt8 → Nat
  | a :: b :: c :: d :: _ => a.toNat + 256 * b.toNat + 65536 * c.toNat + 16777216 * d.toNat
  | _ => 0
def headL (bs : List UInt8) : List UInt8 := fourL bs.length ++ bs
def sealL (bs : List UInt8) : List UInt8 := if bs.length > 262144 then [] else headL bs ++ fourL (sumL (headL bs))
def firstL (b : List UInt8) : Option (List UInt8 × Nat) :=
  if b.length < 8 ∨ num4 b > 262144 ∨ num4 b + 8 > b.length then none else if num4 (b.drop (num4 b + 4)) = sumL (b.take (num4 b + 4)) then some ((b.drop 4).take (num4 b), num4 b + 8) else none

theorem moreL_append (x : BitVec 32) (a b : List UInt8) : moreL x (a ++ b) = moreL (moreL x a) b := by
  unfold moreL crcL
  rw [List.foldl_append, BitVec.not_not]

/-! ### By bits -/
def refS (s : BitVec 32) (b : Bool) : BitVec 32 := (s >>> 1) ^^^ (if (s.getLsbD 0 != b) = true then polyB else 0#32)
def refN (c : BitVec 32) : Nat → BitVec 32 → BitVec 32
  | 0, s => s
  | k + 1, s => refS (refN c k s) (c.getLsbD k)

theorem and_one (x : BitVec 32) : x &&& 1#32 = if x.getLsbD 0 = true then 1#32 else 0#32 := by
  apply BitVec.eq_of_getLsbD_eq
  intro i hi
  rw [BitVec.getLsbD_and, BitVec.getLsbD_one]
  by_cases h0 : i = 0
  · subst h0
    by_cases hx : x.getLsbD 0 = true
    · rw [if_pos hx, hx]; rfl
    · have hx' : x.getLsbD 0 = false := by cases h : x.getLsbD 0 with
        | false => rfl
        | true => exact absurd h hx
      rw [if_neg hx, hx']; rfl
  · have : (decide (i = 0)) = false := decide_eq_false h0
    by_cases hx : x.getLsbD 0 = true
    · rw [if_pos hx]; simp [h0]
    · rw [if_neg hx]; simp [h0]
theorem crcS_eq (x : BitVec 32) : crcS x = (x >>> 1) ^^^ (if x.getLsbD 0 = true then polyB else 0#32) := by
  unfold crcS
  rw [and_one]
  by_cases hx : x.getLsbD 0 = true
  · rw [if_pos hx, if_pos hx]; rfl
  · rw [if_neg hx, if_neg hx]; rfl
theorem crcS_xor (r c : BitVec 32) : crcS (r ^^^ c) = refS r (c.getLsbD 0) ^^^ (c >>> 1) := by
  rw [crcS_eq, BitVec.ushiftRight_xor_distrib, BitVec.getLsbD_xor]
  unfold refS
  have : ((r.getLsbD 0 ^^ c.getLsbD 0) = true) = ((r.getLsbD 0 != c.getLsbD 0) = true) := by cases r.getLsbD 0 <;> cases c.getLsbD 0 <;> rfl
  simp only [this]
  rw [BitVec.xor_assoc, BitVec.xor_comm (c >>> 1), ← BitVec.xor_assoc]
theorem shift_step (c : BitVec 32) (k : Nat) : (c >>> k) >>> 1 = c >>> (k + 1) := by rw [BitVec.shiftRight_add]
theorem crcN_xor (r c : BitVec 32) : ∀ k, crcN k (r ^^^ c) = refN c k r ^^^ (c >>> k)
  | 0 => by simp [crcN, refN]
  | k + 1 => by
    show crcS (crcN k (r ^^^ c)) = refS (refN c k r) (c.getLsbD k) ^^^ _
    rw [crcN_xor r c k, crcS_xor, shift_step]
    congr 2
theorem crcB_bits (s : BitVec 32) (c : UInt8) : crcB s c = refN (BitVec.ofNat 32 c.toNat) 8 s := by
  unfold crcB
  rw [crcN_xor]
  have : BitVec.ofNat 32 c.toNat >>> 8 = 0#32 := by
    apply BitVec.eq_of_toNat_eq
    rw [BitVec.toNat_ushiftRight, BitVec.toNat_ofNat, Nat.shiftRight_eq_div_pow]
    have := c.toNat_lt
    rw [Nat.mod_eq_of_lt (by omega)]
    show c.toNat / 2 ^ 8 = 0
    omega
  rw [this]; simp

/-! ### Four bytes -/
theorem num4_cons (a b c d : UInt8) (r : List UInt8) : num4 (a :: b :: c :: d :: r) = a.toNat + 256 * b.toNat + 65536 * c.toNat + 16777216 * d.toNat := rfl
theorem num_four {n : Nat} (h : n < 4294967296) (r : List UInt8) : num4 (fourL n ++ r) = n := by
  unfold fourL num4
  simp
  omega
theorem four_num : ∀ (b : List UInt8), 4 ≤ b.length → fourL (num4 b) = b.take 4 ∧ num4 b < 4294967296
  | a :: b :: c :: d :: r, _ => by
    have h1 := a.toNat_lt
    have h2 := b.toNat_lt
    have h3 := c.toNat_lt
    have h4 := d.toNat_lt
    rw [num4_cons]
    refine ⟨?_, by omega⟩
    have e : ∀ (x : UInt8) (n : Nat), n % 256 = x.toNat → UInt8.ofNat n = x := fun x n h => by
      apply UInt8.toNat_inj.1
      simp [h]
    unfold fourL
    rw [e a _ (by omega), e b _ (by omega), e c _ (by omega), e d _ (by omega)]
    rfl
theorem four_len (n : Nat) : (fourL n).length = 4 := rfl
theorem sumL_lt (bs : List UInt8) : sumL bs < 4294967296 := (moreL 0#32 bs).isLt

/-- A frame, opened. -/
theorem first_seal {bs : List UInt8} (h : bs.length ≤ 262144) (r : List UInt8) : firstL (sealL bs ++ r) = some (bs, bs.length + 8) := by
  have hs := sumL_lt (headL bs)
  have hl : (headL bs).length = bs.length + 4 := by unfold headL; rw [List.length_append, four_len]; omega
  have e0 : sealL bs ++ r = headL bs ++ (fourL (sumL (headL bs)) ++ r) := by unfold sealL; rw [if_neg (by omega), List.append_assoc]
  have e1 : num4 (sealL bs ++ r) = bs.length := by
    rw [e0]; unfold headL; rw [List.append_assoc]; exact num_four (by omega) _
  have e2 : (sealL bs ++ r).length = bs.length + 8 + r.length := by
    rw [e0, List.length_append, List.length_append, hl, four_len]; omega
  unfold firstL
  rw [e1, e2, if_neg (by omega), e0, ← hl, List.drop_left, List.take_left, num_four hs, if_pos rfl]
  congr 2
  unfold headL
  rw [List.append_assoc, show (4 : Nat) = (fourL bs.length).length from rfl, List.drop_left, List.take_left]

theorem first_inv {b body : List UInt8} {n : Nat} (h : firstL b = some (body, n)) : n = body.length + 8 ∧ n ≤ b.length ∧ body.length ≤ 262144 ∧ b.take n = sealL body := by
  unfold firstL at h
  split at h
  · cases h
  rename_i h1
  split at h
  · rename_i h2
    simp only [Option.some.injEq, Prod.mk.injEq] at h
    obtain ⟨rfl, rfl⟩ := h
    have hbl : ((b.drop 4).take (num4 b)).length = num4 b := by rw [List.length_take, List.length_drop]; omega
    refine ⟨by rw [hbl], by omega, by rw [hbl]; omega, ?_⟩
    have hh : headL ((b.drop 4).take (num4 b)) = b.take (num4 b + 4) := by
      unfold headL
      rw [hbl, (four_num b (by omega)).1, Nat.add_comm, List.take_add]
    unfold sealL
    rw [if_neg (by rw [hbl]; omega), hh, ← h2, (four_num (b.drop (num4 b + 4)) (by rw [List.length_drop]; omega)).1, show num4 b + 8 = (num4 b + 4) + 4 from rfl, List.take_add]
  · cases h
/-- The document's way to ask: is what stands there the body's frame? -/
theorem first_doc (b : List UInt8) : firstL b = if b.length < 8 ∨ num4 b > 262144 ∨ num4 b + 8 > b.length then none else if sealL ((b.drop 4).take (num4 b)) = b.take (num4 b + 8) then some ((b.drop 4).take (num4 b), num4 b + 8) else none := by
  by_cases h1 : b.length < 8 ∨ num4 b > 262144 ∨ num4 b + 8 > b.length
  · unfold firstL; rw [if_pos h1, if_pos h1]
  rw [if_neg h1]
  by_cases h2 : sealL ((b.drop 4).take (num4 b)) = b.take (num4 b + 8)
  · rw [if_pos h2]
    have hbl : ((b.drop 4).take (num4 b)).length = num4 b := by rw [List.length_take, List.length_drop]; omega
    have h3 := first_seal (bs := (b.drop 4).take (num4 b)) (by rw [hbl]; omega) (b.drop (num4 b + 8))
    rw [h2, List.take_append_drop, hbl] at h3
    exact h3
  · rw [if_neg h2]
    cases hf : firstL b with
    | none => rfl
    | some q =>
      obtain ⟨g1, g2, g3, g4⟩ := first_inv (body := q.1) (n := q.2) hf
      unfold firstL at hf
      rw [if_neg h1] at hf
      split at hf
      · simp only [Option.some.injEq] at hf
        subst hf
        exact absurd g4.symm h2
      · cases hf
end Go.Dec
