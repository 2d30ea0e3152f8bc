/- Windows: hex, Key, Due. -/
import Derived.Test.YtjgejjcdoppccaaW7
import Derived.Test.YtjgejjcdoppccaaOpsG
namespace Go.Dec
set_option linter.unusedVariables false
set_option linter.unusedSimpArgs false

instance : ByT P T.s_uint8 := ⟨T.uint8, by kernel_rfl, by kernel_rfl⟩
instance : StT P T.string := ⟨by kernel_rfl⟩

def digits : ByteArray := ByteArray.mk #[48, 49, 50, 51, 52, 53, 54, 55, 56, 57, 97, 98, 99, 100, 101, 102]
def hexd (k : Nat) : Int := bt digits (k : Int)
def hexL (m : Nat) : List Int := (List.range 11).map fun p => hexd (m / 16 ^ (10 - p) % 16)
def hexA (m i : Nat) : List Int := (List.range 11).map fun p => if 11 ≤ p + i then hexd (m / 16 ^ (10 - p) % 16) else 0

theorem hexA_zero (m : Nat) : hexA m 0 = List.replicate 11 0 := by
  rw [List.eq_replicate_iff]
  refine ⟨by simp [hexA], fun b hb => ?_⟩
  obtain ⟨p, hp, rfl⟩ := List.mem_map.1 hb
  have := List.mem_range.1 hp
  rw [if_neg (by omega)]
theorem hexA_full (m : Nat) : hexA m 11 = hexL m := by
  unfold hexA hexL
  apply List.map_congr_left
  intro p hp
  rw [if_pos (by omega)]
theorem hexA_step (m i : Nat) (hi : i < 11) : (u8s (hexA m i)).toArray.setIfInBounds (10 - i) (.int .u8 (hexd (m / 16 ^ i % 16))) = (u8s (hexA m (i + 1))).toArray := by
  apply Array.ext_getElem?
  intro p
  rw [Array.getElem?_setIfInBounds]
  by_cases h : 10 - i = p
  · subst h
    simp [u8s, hexA, show 10 - i < 11 by omega, show 11 ≤ 10 - i + (i + 1) by omega, show 10 - (10 - i) = i by omega]
  · rw [if_neg h]
    by_cases hp : p < 11
    · simp only [u8s, hexA, List.getElem?_toArray, List.getElem?_map, List.getElem?_range hp, Option.map_some]
      by_cases h1 : 11 ≤ p + i
      · rw [if_pos h1, if_pos (by omega)]
      · rw [if_neg h1, if_neg (by omega)]
    · simp [u8s, hexA, hp]

theorem and15 (m : Nat) (h : m < 18446744073709551616) : BitVec.toNat (BitVec.ofInt 64 (m : Int) &&& BitVec.ofInt 64 15) = m % 16 := by
  rw [BitVec.toNat_and, BitVec.toNat_ofInt, BitVec.toNat_ofInt]
  have e1 : (((m : Int) % ((2 ^ 64 : Nat) : Int))).toNat = m := by omega
  have e2 : (((15 : Int) % ((2 ^ 64 : Nat) : Int))).toNat = 2 ^ 4 - 1 := by decide
  rw [e1, e2, Nat.and_two_pow_sub_one_eq_mod]

section
variable {w : World} {l r : List HP}

theorem hex_c (m : Nat) (hm : m < 17592186044416) (hs : Sat w l) : Ret P F.window_hex #[.int .i64 m] w fun vs w' => vs = [.string (strOfNums (hexL m))] ∧ Sat w' l :=
  window_hex_calls m <| by
    unfold window_hex
    refine wp_newZ hs fun b w' hs => ⟨trivial, ?_⟩
    have h0 : Sat w' (pt b (.cells (u8s (hexA m 0)).toArray T.a11_uint8) :: l) := by rw [hexA_zero]; exact hs
    clear hs
    refine wp_mid (fun _ w' => Sat w' (pt b (.cells (u8s (hexL m)).toArray T.a11_uint8) :: l)) ?_ ?_
    · refine wp_loop (fun n v w => ∃ i : Nat, v = (((m / 16 ^ i : Nat) : Int), (i : Int), ()) ∧ i ≤ 11 ∧ 11 - i = n ∧ Sat w (pt b (.cells (u8s (hexA m i)).toArray T.a11_uint8) :: l)) 11 ⟨0, by simp, by omega, rfl, h0⟩ ?_
      clear h0
      rintro n _ w ⟨i, rfl, hi, hn, hs⟩
      refine wp_ite (fun hc => ?_) fun hc => ?_
      · have hc : (i : Int) < 11 := of_decide_eq_true hc
        have hq : m / 16 ^ i ≤ m := Nat.div_le_self _ _
        have hd : m / 16 ^ (i + 1) = m / 16 ^ i / 16 := by rw [Nat.pow_succ, Nat.div_div_eq_div_mul]
        have e1 : IntKind.wrap .i64 (((BitVec.toNat (BitVec.ofInt 64 ((m / 16 ^ i : Nat) : Int) &&& BitVec.ofInt 64 15) : Nat) : Int)) = ((m / 16 ^ i % 16 : Nat) : Int) := by
          rw [and15 _ (by omega), w64 (by omega) (by omega)]
        have e2 : IntKind.wrap .i64 (10 - (i : Int)) = ((10 - i : Nat) : Int) := by rw [w64 (by omega) (by omega)]; omega
        refine wp_lt ?_
        refine wp_must (by dsimp only; rw [e1]; omega) ?_
        refine wp_must (by dsimp only; rw [e2]; omega) ?_
        dsimp only
        rw [e1]
        refine wp_stAt (b := b) (off := 10 - i) hs ?_ ?_ rfl rfl fun w' hs => ⟨trivial, ?_⟩
        · rw [e2]
          show Addr.add ⟨b, 0, none⟩ ((10 - i) * 1) = _
          rw [add_mk]; simp
        · simp [u8s, hexA]
        · refine wp_lw (y := ((m / 16 ^ (i + 1) : Nat) : Int)) ?_ ?_
          · rw [hd, Int.fdiv_eq_ediv_of_nonneg _ (by omega)]; omega
          refine wp_dn (us' := [.int .i64 ((m / 16 ^ (i + 1) : Nat) : Int), .int .i64 ((i + 1 : Nat) : Int)]) (by rw [w64 (by omega) (by omega)]; rfl) ?_
          refine wp_leave ⟨(((m / 16 ^ (i + 1) : Nat) : Int), ((i + 1 : Nat) : Int), ()), 11 - (i + 1), by omega, rfl, i + 1, rfl, by omega, rfl, ?_⟩
          rw [← hexA_step m i (by omega)]
          exact hs
      · have hc : ¬ (i : Int) < 11 := of_decide_eq_false hc
        refine wp_pass ?_
        refine wp_leave ⟨(), rfl, ?_⟩
        rw [← hexA_full, show (11 : Nat) = i by omega]
        exact hs
    · rintro _ w' hs
      refine wp_rd (p := .str) (x := strOfNums (hexL m)) ?_ ?_
      · refine At.str (A := ⟨b, 0, none⟩) (ns := hexL m) ⟨b, 0, _, _, _, rfl, hs.get, fun i hi => by simp⟩ rfl
      · exact wp_lt ⟨rfl, rfl, hs.tail⟩

def keyS (m : Nat) (key : ByteArray) : ByteArray := (ByteArray.mk #[119]) ++ strOfNums (hexL m) ++ (ByteArray.mk #[58]) ++ key

theorem key_c (t : Int) (key : ByteArray) (hs : Sat w l) : Ret P F.window_Key #[.int .i64 t, .string key] w fun vs w' =>
    vs = (if isT t then if key.size > 1011 then [.string (ByteArray.mk #[]), .int .i64 7] else [.string (keyS t.toNat key), .int .i64 0] else [.string (ByteArray.mk #[]), .int .i64 2]) ∧ Sat w' l :=
  window_Key_calls t key <| by
    unfold window_Key
    refine wp_callS (_, ()) (isTime_c t hs) rfl fun w' hs => ⟨trivial, ?_⟩
    refine wp_lt ?_
    refine wp_ite (fun h => ?_) fun h => ?_
    · have h : (!isT t) = true := h
      simp only [Bool.not_eq_true'] at h
      rw [if_neg (by rw [h]; simp)]
      exact ⟨rfl, rfl, hs⟩
    have h : (!isT t) = false := h
    simp only [Bool.not_eq_false'] at h
    rw [if_pos h]
    have ht : 0 ≤ t ∧ t ≤ 1099511627776 := by simpa [isT] using h
    refine wp_lt ?_
    refine wp_ite (fun h2 => ?_) fun h2 => ?_
    · have h2 : ((ByteArray.size key : Nat) : Int) > 1011 := of_decide_eq_true h2
      rw [if_pos (by omega)]
      exact ⟨rfl, rfl, hs⟩
    have h2 : ¬ ((ByteArray.size key : Nat) : Int) > 1011 := of_decide_eq_false h2
    rw [if_neg (by omega)]
    obtain ⟨m, rfl⟩ : ∃ m : Nat, t = m := ⟨t.toNat, by omega⟩
    refine wp_callS (strOfNums (hexL m), ()) (hex_c m (by omega) hs) rfl fun w' hs => ⟨trivial, ?_⟩
    have hl : (strOfNums (hexL m)).size = 11 := by rw [strOfNums_size]; simp [hexL]
    refine wp_must (by dsimp only; rw [hl]; omega) ?_
    refine wp_must (by dsimp only; rw [ByteArray.size_append, hl]; simp [ByteArray.size]) ?_
    refine wp_must (by dsimp only; rw [ByteArray.size_append, ByteArray.size_append, hl]; simp only [ByteArray.size, List.size_toArray, List.length_cons, List.length_nil] at *; omega) ?_
    exact wp_lt ⟨rfl, rfl, hs⟩

end
end Go.Dec
