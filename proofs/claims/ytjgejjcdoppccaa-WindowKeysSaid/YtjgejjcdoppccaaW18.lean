/- Windows: hex digits, in plain words: read again, compared. -/
import Derived.Test.YtjgejjcdoppccaaW17
namespace Go.Dec
set_option linter.unusedVariables false
set_option linter.unusedSimpArgs false

theorem toArray_iff {α : Type} {a b : List α} : a.toArray = b.toArray ↔ a = b := ⟨fun h => congrArg Array.toList h, fun h => by rw [h]⟩
/-- A digit's byte. -/
def hd (k : Nat) : UInt8 := UInt8.ofNat (hexd k).toNat
/-- So many digits of a number. -/
def hexW : Nat → Nat → List UInt8
  | 0, _ => []
  | w + 1, m => hd (m / 16 ^ w % 16) :: hexW w m

theorem hexW_length : ∀ (w m : Nat), (hexW w m).length = w
  | 0, _ => rfl
  | w + 1, m => by rw [hexW, List.length_cons, hexW_length w m]

theorem hexW_snoc : ∀ (w m : Nat), hexW (w + 1) m = hexW w (m / 16) ++ [hd (m % 16)]
  | 0, m => by simp [hexW]
  | w + 1, m => by
    rw [hexW, hexW_snoc w m, hexW, List.cons_append, Nat.div_div_eq_div_mul, Nat.pow_succ, Nat.mul_comm]

theorem hexW_mod : ∀ (w m k : Nat), w ≤ k → hexW w (m % 16 ^ k) = hexW w m
  | 0, _, _, _ => rfl
  | w + 1, m, k, h => by
    rw [hexW, hexW, hexW_mod w m k (by omega)]
    obtain ⟨j, rfl⟩ : ∃ j, k = w + 1 + j := ⟨k - (w + 1), by omega⟩
    rw [Nat.pow_add, Nat.pow_succ, Nat.mul_assoc, Nat.mod_mul_right_div_self, Nat.mod_mul_right_mod]

theorem hexL_eq (m : Nat) : (hexL m).map (fun n => UInt8.ofNat n.toNat) = hexW 11 m := by
  simp only [hexL, hexW, List.range, List.range.loop, List.map_cons, List.map_nil, hd]

/-- The digits, as a text. -/
def hexB (m : Nat) : ByteArray := ⟨(hexW 11 m).toArray⟩
theorem hexB_eq (m : Nat) : strOfNums (hexL m) = hexB m := by unfold strOfNums hexB; rw [hexL_eq]
theorem hexB_size (m : Nat) : (hexB m).size = 11 := by simp [hexB, ByteArray.size, hexW_length]

theorem hexv_hd : ∀ d : Fin 16, hexv (hd d.val).toNat = some d.val := by decide +kernel
theorem hd_hexv : ∀ b : Fin 256, ∀ d, hexv b.val = some d → hd d = UInt8.ofNat b.val := by
  intro b d h
  have : ∀ b : Fin 256, (match hexv b.val with | some d => decide (hd d = UInt8.ofNat b.val) | none => true) = true := by decide +kernel
  have := this b
  rw [h] at this
  exact of_decide_eq_true this
theorem hd_lt : ∀ i j : Fin 16, decide (hd i.val < hd j.val) = decide (i.val < j.val) ∧ (hd i.val == hd j.val) = decide (i.val = j.val) := by decide +kernel

theorem hexR_hexW : ∀ (w m n : Nat), hexR (hexW w m) n = some (n * 16 ^ w + m % 16 ^ w)
  | 0, m, n => by simp [hexW, hexR, Nat.mod_one]
  | w + 1, m, n => by
    have h16 : m / 16 ^ w % 16 < 16 := Nat.mod_lt _ (by decide)
    rw [hexW, hexR, hexv_hd ⟨_, h16⟩]
    dsimp only
    rw [hexR_hexW w m]
    congr 1
    rw [Nat.pow_succ, Nat.mod_mul, Nat.add_mul, Nat.mul_assoc, Nat.mul_comm 16 (16 ^ w), Nat.mul_comm (16 ^ w) (m / 16 ^ w % 16)]
    omega

theorem hexR_snoc (l : List UInt8) (b : UInt8) (n : Nat) : hexR (l ++ [b]) n = (hexR l n).bind fun m => match hexv b.toNat with | some d => some (m * 16 + d) | none => none := by
  rw [hexR_append]
  cases hexR l n with
  | none => rfl
  | some m =>
    simp only [Option.bind_some, hexR]
    cases hexv b.toNat <;> rfl

theorem hexR_inv : ∀ (k : Nat) (l : List UInt8) (m : Nat), l.length = k → hexR l 0 = some m → l = hexW k m
  | 0, l, m, hl, h => by rw [List.length_eq_zero_iff.1 hl]; rfl
  | k + 1, l, m, hl, h => by
    rcases List.eq_nil_or_concat l with rfl | ⟨r, b, rfl⟩
    · simp at hl
    rw [List.concat_eq_append] at *
    rw [hexR_snoc] at h
    cases hr : hexR r 0 with
    | none => rw [hr] at h; cases h
    | some q =>
      rw [hr] at h
      simp only [Option.bind_some] at h
      cases hv : hexv b.toNat with
      | none => rw [hv] at h; cases h
      | some d =>
        rw [hv] at h
        obtain rfl := Option.some.inj h
        have hd16 := hexv_lt hv
        have ih := hexR_inv k r q (by simpa using hl) hr
        rw [hexW_snoc, show (q * 16 + d) / 16 = q by omega, show (q * 16 + d) % 16 = d by omega, ← ih]
        have := hd_hexv ⟨b.toNat, b.toNat_lt⟩ d hv
        rw [this]
        simp

/-- Digits compare as their numbers do. -/
theorem less_hexW : ∀ (w a b : Nat) (u v : List UInt8), Op.bytesLess (hexW w a ++ u) (hexW w b ++ v) = (decide (a % 16 ^ w < b % 16 ^ w) || (decide (a % 16 ^ w = b % 16 ^ w) && Op.bytesLess u v))
  | 0, a, b, u, v => by simp [hexW, Nat.mod_one]
  | w + 1, a, b, u, v => by
    have ha : a / 16 ^ w % 16 < 16 := Nat.mod_lt _ (by decide)
    have hb : b / 16 ^ w % 16 < 16 := Nat.mod_lt _ (by decide)
    obtain ⟨h1, h2⟩ := hd_lt ⟨_, ha⟩ ⟨_, hb⟩
    dsimp only at h1 h2
    rw [hexW, hexW, List.cons_append, List.cons_append, Op.bytesLess, h1, h2, less_hexW w]
    have pa := Nat.mod_lt a (Nat.pow_pos (n := w) (show 0 < 16 by decide))
    have pb := Nat.mod_lt b (Nat.pow_pos (n := w) (show 0 < 16 by decide))
    rw [Nat.pow_succ, Nat.mod_mul, Nat.mod_mul (x := b)]
    generalize a / 16 ^ w % 16 = p at *
    generalize b / 16 ^ w % 16 = q at *
    generalize a % 16 ^ w = s at *
    generalize b % 16 ^ w = t at *
    generalize 16 ^ w = m at *
    rcases Nat.lt_trichotomy p q with h | h | h
    · have : m * (p + 1) ≤ m * q := Nat.mul_le_mul_left _ h
      rw [Nat.mul_add, Nat.mul_one] at this
      rw [decide_eq_true h, decide_eq_true (show s + m * p < t + m * q by omega)]; rfl
    · subst h
      rw [decide_eq_false (Nat.lt_irrefl p), decide_eq_true (rfl : p = p)]
      simp only [Bool.false_or, Bool.true_and, Nat.add_lt_add_iff_right, Nat.add_right_cancel_iff]
    · have : m * (q + 1) ≤ m * p := Nat.mul_le_mul_left _ h
      rw [Nat.mul_add, Nat.mul_one] at this
      rw [decide_eq_false (show ¬ p < q by omega), decide_eq_false (show ¬ p = q by omega), decide_eq_false (show ¬ s + m * p < t + m * q by omega), decide_eq_false (show ¬ s + m * p = t + m * q by omega)]; rfl

/-- How a digit is found: the sum of all that it could be. -/
def pd (b : Nat) : Nat → Nat
  | 0 => 0
  | k + 1 => pd b k + if (hd k).toNat = b then k else 0
theorem pd_hexv : ∀ b : Fin 256, pd b.val 16 = (hexv b.val).getD 0 := by decide +kernel
theorem pd_le (b : Nat) : ∀ k, pd b k ≤ k * k
  | 0 => by simp [pd]
  | k + 1 => by
    have := pd_le b k
    have : (k + 1) * (k + 1) = k * k + 2 * k + 1 := by rw [Nat.add_mul, Nat.mul_add, Nat.mul_one, Nat.one_mul]; omega
    rw [pd]; split <;> omega
/-- The number that digits come to, others counted as nothing. -/
def digN : List UInt8 → Nat → Nat
  | [], n => n
  | b :: r, n => digN r (n * 16 + (hexv b.toNat).getD 0)
theorem digN_append : ∀ (l r : List UInt8) (n : Nat), digN (l ++ r) n = digN r (digN l n)
  | [], _, _ => rfl
  | b :: l, r, n => by rw [List.cons_append, digN, digN, digN_append l r]
theorem digN_hexR : ∀ (l : List UInt8) (n m : Nat), hexR l n = some m → digN l n = m
  | [], n, m, h => by obtain rfl := Option.some.inj h; rfl
  | b :: r, n, m, h => by
    rw [hexR] at h
    cases hv : hexv b.toNat with
    | none => rw [hv] at h; cases h
    | some d => rw [hv] at h; rw [digN, hv]; exact digN_hexR r _ m h
theorem digN_lt : ∀ (l : List UInt8) (n : Nat), digN l n < (n + 1) * 16 ^ l.length
  | [], n => by simp [digN]
  | b :: r, n => by
    have h1 := digN_lt r (n * 16 + (hexv b.toNat).getD 0)
    have h2 : (hexv b.toNat).getD 0 < 16 := by
      cases hv : hexv b.toNat with
      | none => decide
      | some d => exact hexv_lt hv
    rw [digN, List.length_cons, Nat.pow_succ, Nat.mul_comm (16 ^ r.length) 16, ← Nat.mul_assoc]
    exact Nat.lt_of_lt_of_le h1 (Nat.mul_le_mul_right _ (by omega))

/-- A key's bytes. -/
def keyB (m : Nat) (key : ByteArray) : ByteArray := ⟨(119 :: (hexW 11 m ++ 58 :: key.data.toList)).toArray⟩
theorem keyB_eq (m : Nat) (key : ByteArray) : keyS m key = keyB m key := by
  unfold keyS keyB
  rw [hexB_eq]
  cases key with
  | mk d =>
    apply congrArg ByteArray.mk
    apply Array.ext'
    simp [hexB]

theorem bt_get {s : ByteArray} {i : Nat} (h : i < s.size) : bt s (i : Int) = ((s.data.toList[i]'h).toNat : Int) := by
  unfold bt
  rw [Int.toNat_natCast, List.getD_eq_getElem?_getD, List.getElem?_eq_getElem (by exact h)]; rfl

/-- A text of 13 bytes at least, in its parts. -/
theorem split13 (s : ByteArray) (h : 13 ≤ s.size) : ∃ (a c : UInt8) (e : List UInt8) (r : List UInt8), s = ⟨(a :: (e ++ c :: r)).toArray⟩ ∧ e.length = 11 ∧ bt s 0 = a.toNat ∧ bt s 12 = c.toNat ∧ (s.extract 1 12).data.toList = e ∧ s.extract 13 s.size = ⟨r.toArray⟩ := by
  obtain ⟨⟨L⟩⟩ := s
  have h : 13 ≤ L.length := h
  match L, h with
  | a :: b1 :: b2 :: b3 :: b4 :: b5 :: b6 :: b7 :: b8 :: b9 :: b10 :: b11 :: c :: r, h =>
    refine ⟨a, c, [b1, b2, b3, b4, b5, b6, b7, b8, b9, b10, b11], r, rfl, rfl, rfl, rfl, ?_, ?_⟩
    · simp [ByteArray.data_extract]
    · apply congrArg ByteArray.mk
      simp [ByteArray.data_extract, ByteArray.size]

/-- What the document's way of reading comes to: the number, and whether its key is the text. -/
theorem parse_doc (s : ByteArray) (h : 13 ≤ s.size) :
    parseF s = if digN (s.extract 1 12).data.toList 0 ≤ 1099511627776 ∧ s.size - 13 ≤ 1011 ∧ keyB (digN (s.extract 1 12).data.toList 0) (s.extract 13 s.size) = s then some (digN (s.extract 1 12).data.toList 0, s.extract 13 s.size) else none := by
  obtain ⟨a, c, e, r, hs, hel, h0, h12, he, hr⟩ := split13 s h
  unfold parseF
  rw [he, hr, h0, h12]
  have hinj : ∀ m, (keyB m ⟨r.toArray⟩ = s ↔ a = 119 ∧ c = 58 ∧ hexW 11 m = e) := fun m => by
    rw [hs]
    show (ByteArray.mk (119 :: (hexW 11 m ++ 58 :: r)).toArray) = _ ↔ _
    rw [ByteArray.mk.injEq, toArray_iff, List.cons.injEq]
    constructor
    · rintro ⟨rfl, h2⟩
      have := List.append_inj h2 (by rw [hexW_length, hel])
      simp only [List.cons.injEq, and_true] at this
      exact ⟨rfl, this.2.symm, this.1⟩
    · rintro ⟨rfl, rfl, rfl⟩
      exact ⟨rfl, rfl⟩
  simp only [hinj]
  by_cases hc : s.size < 13 ∨ s.size > 1024 ∨ (a.toNat : Int) ≠ 119 ∨ (c.toNat : Int) ≠ 58
  · rw [if_pos hc, if_neg]
    rintro ⟨h1, h2, rfl, rfl, h3⟩
    have : (119 : UInt8).toNat = 119 := rfl
    have : (58 : UInt8).toNat = 58 := rfl
    omega
  rw [if_neg hc]
  have ha : a = 119 := by
    apply UInt8.toNat_inj.1
    have : (119 : UInt8).toNat = 119 := rfl
    omega
  have hcc : c = 58 := by
    apply UInt8.toNat_inj.1
    have : (58 : UInt8).toNat = 58 := rfl
    omega
  cases hx : hexR e 0 with
  | none =>
    dsimp only
    rw [if_neg]
    rintro ⟨-, -, -, -, h3⟩
    have := hexR_hexW 11 (digN e 0) 0
    rw [h3, hx] at this
    cases this
  | some m =>
    dsimp only
    rw [digN_hexR e 0 m hx]
    have := hexR_inv 11 e m hel hx
    by_cases hm : m ≤ 1099511627776
    · rw [if_pos hm, if_pos ⟨hm, by omega, ha, hcc, this.symm⟩]
    · rw [if_neg hm, if_neg (fun h => hm h.1)]

theorem parse_key {m : Nat} {key : ByteArray} (hm : m ≤ 1099511627776) (hk : key.size ≤ 1011) : parseF (keyB m key) = some (m, key) := by
  have hsz : (keyB m key).size = 13 + key.size := by
    show (119 :: (hexW 11 m ++ 58 :: key.data.toList)).toArray.size = _
    rw [List.size_toArray, List.length_cons, List.length_append, hexW_length, List.length_cons, Array.length_toList]
    show 11 + (key.size + 1) + 1 = _
    omega
  obtain ⟨a, c, e, r, hs, hel, h0, h12, he, hr⟩ := split13 (keyB m key) (by omega)
  have h2 : keyB m key = ⟨(119 :: (hexW 11 m ++ 58 :: key.data.toList)).toArray⟩ := rfl
  rw [h2] at hs
  rw [ByteArray.mk.injEq, toArray_iff, List.cons.injEq] at hs
  obtain ⟨rfl, h3⟩ := hs
  have h4 := List.append_inj h3 (by rw [hexW_length, hel])
  rw [List.cons.injEq] at h4
  obtain ⟨rfl, rfl, rfl⟩ := h4
  unfold parseF
  rw [he, hr, h0, h12, hexR_hexW, if_neg (by have : (119 : UInt8).toNat = 119 := rfl; have : (58 : UInt8).toNat = 58 := rfl; omega)]
  dsimp only
  have : m % 16 ^ 11 = m := Nat.mod_eq_of_lt (by omega)
  rw [this, Nat.zero_mul, Nat.zero_add, if_pos hm]

/-- Keys have the order of their starts, then of their keys. -/
theorem less_keys {a b : Nat} (ha : a ≤ 1099511627776) (hb : b ≤ 1099511627776) (k l : ByteArray) :
    Op.bytesLess (keyB a k).toList (keyB b l).toList = (decide ((a : Int) < b) || (a : Int) == b && Op.bytesLess k.toList l.toList) := by
  rw [ByteArray.toList_eq, ByteArray.toList_eq, ByteArray.toList_eq, ByteArray.toList_eq]
  show Op.bytesLess (119 :: (hexW 11 a ++ 58 :: k.data.toList)) (119 :: (hexW 11 b ++ 58 :: l.data.toList)) = _
  rw [Op.bytesLess, less_hexW, Nat.mod_eq_of_lt (by omega), Nat.mod_eq_of_lt (by omega), Op.bytesLess]
  simp only [UInt8.lt_irrefl, decide_false, Bool.false_or, beq_self_eq_true, Bool.true_and]
  congr 1
  · rw [decide_eq_decide]; omega
  · congr 1
    rw [Bool.eq_iff_iff]; simp; omega

theorem less_bound {a b : Nat} (ha : a ≤ 1099511627776) (hb : b < 17592186044416) (k : ByteArray) :
    Op.bytesLess (keyB a k).toList ((ByteArray.mk #[119]) ++ hexB b).toList = decide (a < b) := by
  rw [ByteArray.toList_eq, ByteArray.toList_eq]
  have e : ((ByteArray.mk #[119]) ++ hexB b).data.toList = 119 :: (hexW 11 b ++ []) := by simp [hexB]
  rw [e]
  show Op.bytesLess (119 :: (hexW 11 a ++ 58 :: k.data.toList)) _ = _
  rw [Op.bytesLess, less_hexW, Nat.mod_eq_of_lt (by omega), Nat.mod_eq_of_lt (by omega), Op.bytesLess]
  simp

end Go.Dec
