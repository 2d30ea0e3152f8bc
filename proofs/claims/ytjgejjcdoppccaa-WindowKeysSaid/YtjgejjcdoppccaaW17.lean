/- Windows: Parse. -/
import Derived.Test.YtjgejjcdoppccaaW9
import Derived.Test.YtjgejjcdoppccaaOpsX
namespace Go.Dec
set_option linter.unusedVariables false
set_option linter.unusedSimpArgs false

/-- What a hex digit's byte says, if it is one. -/
def hexv (b : Nat) : Option Nat := if 48 ≤ b ∧ b ≤ 57 then some (b - 48) else if 97 ≤ b ∧ b ≤ 102 then some (b - 87) else none
/-- The number of hex digits, read on from n. -/
def hexR : List UInt8 → Nat → Option Nat
  | [], n => some n
  | b :: r, n => match hexv b.toNat with
    | some d => hexR r (n * 16 + d)
    | none => none

theorem hexv_lt {b d : Nat} (h : hexv b = some d) : d < 16 := by
  unfold hexv at h
  split at h
  · obtain rfl := Option.some.inj h; omega
  · split at h
    · obtain rfl := Option.some.inj h; omega
    · cases h

theorem or_digit (n d : Nat) (hd : d < 16) (hn : n < 1152921504606846976) : BitVec.toNat (BitVec.ofInt 64 (((n * 16 : Nat) : Int)) ||| BitVec.ofInt 64 (d : Int)) = n * 16 + d := by
  rw [BitVec.toNat_or, BitVec.toNat_ofInt, BitVec.toNat_ofInt]
  have e1 : ((((n * 16 : Nat) : Int) % ((2 ^ 64 : Nat) : Int))).toNat = n * 16 := by omega
  have e2 : (((d : Int) % ((2 ^ 64 : Nat) : Int))).toNat = d := by omega
  rw [e1, e2]
  have := Nat.two_pow_add_eq_or_of_lt (i := 4) (b := d) (by omega) n
  rw [Nat.mul_comm n 16]
  exact this.symm

theorem hexR_append : ∀ (l r : List UInt8) (n : Nat), hexR (l ++ r) n = (hexR l n).bind (hexR r)
  | [], r, n => rfl
  | b :: l, r, n => by
    rw [List.cons_append, hexR, hexR]
    cases hexv b.toNat with
    | none => rfl
    | some d => exact hexR_append l r _

theorem hexR_lt : ∀ (l : List UInt8) (n m : Nat), hexR l n = some m → m < (n + 1) * 16 ^ l.length
  | [], n, m, h => by obtain rfl := Option.some.inj h; simp
  | b :: l, n, m, h => by
    rw [hexR] at h
    cases hv : hexv b.toNat with
    | none => rw [hv] at h; cases h
    | some d =>
      rw [hv] at h
      have h1 := hexR_lt l _ _ h
      have h2 := hexv_lt hv
      rw [List.length_cons, Nat.pow_succ, Nat.mul_comm (16 ^ l.length) 16, ← Nat.mul_assoc]
      exact Nat.lt_of_lt_of_le h1 (Nat.mul_le_mul_right _ (by omega))

/-- What a key says. -/
def parseF (s : ByteArray) : Option (Nat × ByteArray) :=
  if s.size < 13 ∨ s.size > 1024 ∨ bt s 0 ≠ 119 ∨ bt s 12 ≠ 58 then none else
    match hexR (s.extract 1 12).data.toList 0 with
    | some n => if n ≤ 1099511627776 then some (n, s.extract 13 s.size) else none
    | none => none

def parseV : Option (Nat × ByteArray) → List Value
  | some (n, r) => [.int .i64 n, .string r, .int .i64 0]
  | none => [.int .i64 0, .string (ByteArray.mk #[]), .int .i64 6]

section
variable {w : World} {l r : List HP}

theorem parse_c (s : ByteArray) (hs : Sat w l) : Ret P F.window_Parse #[.string s] w fun vs w' => vs = parseV (parseF s) ∧ Sat w' l :=
  window_Parse_calls s <| by
    unfold window_Parse
    refine wp_must (fun h => ?_) ?_
    · simp only [Bool.or_eq_false_iff, decide_eq_false_iff_not] at h
      omega
    refine wp_must (fun h => ?_) ?_
    · simp only [Bool.or_eq_false_iff, decide_eq_false_iff_not] at h
      omega
    refine wp_ite (fun h => ?_) fun h => ?_
    · have h : (decide (((ByteArray.size s : Nat) : Int) < 13) || decide (((ByteArray.size s : Nat) : Int) > 1024) || bt s (0 : Int) != 119 || bt s (12 : Int) != 58) = true := h
      refine ⟨rfl, ?_, hs⟩
      rw [parseF, if_pos]
      · rfl
      · simp only [Bool.or_eq_true, decide_eq_true_eq, bne_iff_ne, ne_eq] at h
        omega
    have h : (decide (((ByteArray.size s : Nat) : Int) < 13) || decide (((ByteArray.size s : Nat) : Int) > 1024) || bt s (0 : Int) != 119 || bt s (12 : Int) != 58) = false := h
    have h : ¬ (s.size < 13 ∨ s.size > 1024 ∨ bt s 0 ≠ 119 ∨ bt s 12 ≠ 58) := by
      simp only [Bool.or_eq_false_iff, decide_eq_false_iff_not, bne_eq_false_iff_eq] at h
      omega
    rw [parseF, if_neg h]
    refine wp_must (by omega) ?_
    refine wp_rangeS hs fun b w' hs => ⟨trivial, ?_⟩
    have hsz : (s.extract 1 12).size = 11 := by rw [ByteArray.size_extract]; omega
    generalize he : s.extract 1 12 = e at *
    have hel : e.data.toList.length = 11 := by rw [← hsz]; rfl
    refine wp_mid (fun v w' => ∃ m : Nat, v = ((m : Int), ()) ∧ hexR e.data.toList 0 = some m ∧ m < 17592186044416 ∧ Sat w' l) ?_ ?_
    · refine wp_loop (fun n v w => ∃ pos m : Nat, v = ((m : Int), ()) ∧ pos ≤ 11 ∧ 11 - pos = n ∧ hexR (e.data.toList.take pos) 0 = some m ∧ Sat w (pt b (.stringIter e pos) :: l)) 11 ⟨0, 0, rfl, by omega, rfl, rfl, hs⟩ ?_
      clear hs
      rintro n _ w ⟨pos, m, rfl, hp, hn, hx, hs⟩
      have hm : m < 17592186044416 := by
        have := hexR_lt _ _ _ hx
        rw [List.length_take, hel, Nat.min_eq_left hp] at this
        have h2 : (16 : Nat) ^ pos ≤ 16 ^ 11 := Nat.pow_le_pow_right (by omega) hp
        simp at this
        omega
      refine wp_nx (b := b) hs (fun hlt w' hs => ?_) (fun hge => ?_)
      · rw [hsz] at hlt
        have hlt' : pos < e.size := by omega
        have hgb : e.data.toList[pos]? = some (e[pos]'hlt') := by
          rw [List.getElem?_eq_getElem (by omega)]; rfl
        have htk : e.data.toList.take (pos + 1) = e.data.toList.take pos ++ [e[pos]'hlt'] := by rw [List.take_add_one, hgb]; rfl
        have hnext : hexR (e.data.toList.take (pos + 1)) 0 = match hexv (e[pos]'hlt').toNat with | some d => some (m * 16 + d) | none => none := by
          rw [htk, hexR_append, hx, Option.bind_some, hexR]
          cases hexv (e[pos]'hlt').toNat <;> rfl
        have hnone : hexv (e[pos]'hlt').toNat = none → hexR e.data.toList 0 = none := fun hv => by
          have : e.data.toList = e.data.toList.take (pos + 1) ++ e.data.toList.drop (pos + 1) := (List.take_append_drop _ _).symm
          rw [this, hexR_append, hnext, hv]; rfl
        refine wp_lt (wp_lt ?_)
        dsimp only
        by_cases hb : (e[pos]'hlt').toNat < 128
        · rw [decode_lt hlt' hb] at hs ⊢
          dsimp only at hs ⊢
          generalize (e[pos]'hlt').toNat = c at *
          refine wp_bind ?_
          refine wp_if (fun h1 => ?_) fun h1 => ?_
          · have hv : hexv c = some (c - 48) := by unfold hexv; rw [if_pos (by omega)]
            rw [hv] at hnext
            refine wp_ltx (y := ((m * 16 + (c - 48) : Nat) : Int)) ?_ ?_
            · refine wp_go ?_
              refine wp_lp (11 - (pos + 1)) ?_
              exact ⟨pos + 1, _, rfl, by omega, rfl, hnext, hs⟩
            · have e1 : IntKind.wrap .i64 ((m : Int) * 16) = ((m * 16 : Nat) : Int) := by rw [w64 (by omega) (by omega)]; omega
              have e2 : IntKind.wrap .i32 ((c : Int) - 48) = ((c - 48 : Nat) : Int) := by rw [wi32 (by omega) (by omega)]; omega
              have e3 : IntKind.wrap .i64 ((c - 48 : Nat) : Int) = ((c - 48 : Nat) : Int) := w64e
              rw [e1, e2, e3, or_digit m (c - 48) (by omega) (by omega), w64 (by omega) (by omega)]
          · refine wp_lt (wp_if (fun h2 => ?_) fun h2 => ?_)
            · have hv : hexv c = some (c - 87) := by unfold hexv; rw [if_neg (by omega), if_pos (by omega)]
              rw [hv] at hnext
              refine wp_ltx (y := ((m * 16 + (c - 87) : Nat) : Int)) ?_ ?_
              · refine wp_go ?_
                refine wp_lp (11 - (pos + 1)) ?_
                exact ⟨pos + 1, _, rfl, by omega, rfl, hnext, hs⟩
              · have e1 : IntKind.wrap .i64 ((m : Int) * 16) = ((m * 16 : Nat) : Int) := by rw [w64 (by omega) (by omega)]; omega
                have e2 : IntKind.wrap .i32 (IntKind.wrap .i32 ((c : Int) - 97) + 10) = ((c - 87 : Nat) : Int) := by rw [wi32 (x := (c : Int) - 97) (by omega) (by omega), wi32 (by omega) (by omega)]; omega
                have e3 : IntKind.wrap .i64 ((c - 87 : Nat) : Int) = ((c - 87 : Nat) : Int) := w64e
                rw [e1, e2, e3, or_digit m (c - 87) (by omega) (by omega), w64 (by omega) (by omega)]
            · have hv : hexv c = none := by unfold hexv; rw [if_neg (by omega), if_neg (by omega)]
              refine wp_pass (wp_pass (wp_pass ?_))
              refine ⟨rfl, ?_, hs.tail⟩
              rw [hnone hv]; rfl
        · have hge := decode_ge hlt' hb
          generalize (Utf8.decode e pos).1 = c at *
          have hv : hexv (e[pos]'hlt').toNat = none := by unfold hexv; rw [if_neg (by omega), if_neg (by omega)]
          refine wp_bind ?_
          refine wp_ifF ?_ (by omega)
          refine wp_lt (wp_ifF ?_ (by omega))
          refine wp_pass (wp_pass (wp_pass ?_))
          refine ⟨rfl, ?_, hs.tail⟩
          rw [hnone hv]; rfl
      · refine wp_pass ?_
        refine wp_leave ⟨((m : Int), ()), rfl, m, rfl, ?_, hm, hs.tail⟩
        rwa [List.take_of_length_le (by omega)] at hx
    · clear hs
      rintro _ w ⟨m, rfl, hx, hm, hs⟩
      rw [hx]
      refine wp_callS (isT m, ()) (isTime_c m hs) rfl fun w' hs => ⟨trivial, ?_⟩
      refine wp_ite (fun h3 => ?_) fun h3 => ?_
      · have h3 : (!isT (m : Int)) = true := h3
        refine ⟨rfl, ?_, hs⟩
        simp only [Bool.not_eq_true'] at h3
        dsimp only
        rw [if_neg]
        · rfl
        · intro hle
          have : isT (m : Int) = true := by simp [isT]; omega
          rw [this] at h3; cases h3
      · have h3 : (!isT (m : Int)) = false := h3
        simp only [Bool.not_eq_false'] at h3
        have h4 : m ≤ 1099511627776 := by simp [isT] at h3; omega
        refine wp_tick fun w2 hw => ?_
        have hs := hs.heap hw
        refine wp_must (by omega) (wp_lt (wp_lt (wp_untick ?_)))
        refine ⟨rfl, ?_, hs⟩
        dsimp only
        rw [if_pos h4]
        rfl

end
end Go.Dec
