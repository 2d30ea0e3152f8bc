/- Wire: numbers with a sign. -/
import Derived.Test.YtcpmaccapgpgaaaGreatWr4
namespace Go.Dec
set_option linter.unusedVariables false
set_option linter.unusedSimpArgs false

def zig (n : Int) : Nat := if 0 ≤ n then (2 * n).toNat else (-2 * n - 1).toNat
def zag (m : Nat) : Int := if m % 2 = 1 then -((m / 2 : Nat) : Int) - 1 else ((m / 2 : Nat) : Int)
def sintL (n : Int) : List UInt8 := uintL (zig n)
theorem zag_zig (n : Int) : zag (zig n) = n := by
  unfold zag zig
  split <;> split <;> omega
theorem zig_zag (m : Nat) : zig (zag m) = m := by
  unfold zag zig
  split <;> split <;> omega
theorem zig_lt {n : Int} (h : -9223372036854775808 ≤ n ∧ n < 9223372036854775808) : zig n < 18446744073709551616 := by
  unfold zig
  split <;> omega
theorem sintL_len (n : Int) : 0 < (sintL n).length ∧ (sintL n).length ≤ 10 := uintL_len _
theorem sintL_inj {a b : Int} {x y : List UInt8} (ha : -9223372036854775808 ≤ a ∧ a < 9223372036854775808) (hb : -9223372036854775808 ≤ b ∧ b < 9223372036854775808) (h : sintL a ++ x = sintL b ++ y) : a = b ∧ x = y := by
  obtain ⟨h1, h2⟩ := uintL_inj (zig_lt ha) (zig_lt hb) h
  exact ⟨by rw [← zag_zig a, h1, zag_zig], h2⟩

theorem xor_zero (x : BitVec 64) : x ^^^ BitVec.ofInt 64 0 = x := by
  have : BitVec.ofInt 64 0 = 0#64 := by decide
  rw [this, BitVec.xor_zero]
theorem xor_ones (x : BitVec 64) {n : Int} (hn : BitVec.ofInt 64 n = BitVec.allOnes 64) : (x ^^^ BitVec.ofInt 64 n).toNat = 18446744073709551615 - x.toNat := by
  rw [hn, BitVec.xor_allOnes, BitVec.toNat_not]
theorem toNat_ofInt (n : Int) : (BitVec.ofInt 64 n).toNat = (n % 18446744073709551616).toNat := by rw [BitVec.toNat_ofInt]; rfl
theorem wrap_u64 (n : Int) : IntKind.wrap .u64 n = n % 18446744073709551616 := by simp [IntKind.wrap, IntKind.bits, IntKind.signed]
theorem fdiv63 {n : Int} (h : -9223372036854775808 ≤ n ∧ n < 9223372036854775808) : Int.fdiv n 9223372036854775808 = if 0 ≤ n then 0 else -1 := by
  rw [Int.fdiv_eq_ediv_of_nonneg _ (by omega)]
  split <;> omega
theorem zig_bits {n : Int} (h : -9223372036854775808 ≤ n ∧ n < 9223372036854775808) :
    (BitVec.toNat (BitVec.ofInt 64 (IntKind.wrap .u64 (IntKind.wrap .u64 n * 2)) ^^^ BitVec.ofInt 64 (IntKind.wrap .u64 (Int.fdiv n 9223372036854775808)))) = zig n := by
  rw [fdiv63 h, wrap_u64, wrap_u64]
  unfold zig
  by_cases h0 : 0 ≤ n
  · rw [if_pos h0, if_pos h0, wrap_u64, Int.zero_emod, xor_zero, toNat_ofInt]; omega
  · rw [if_neg h0, if_neg h0, xor_ones _ (by rw [wrap_u64]; decide), toNat_ofInt]; omega
theorem zag_bits {m : Nat} (h : m < 18446744073709551616) :
    IntKind.wrap .i64 (((BitVec.toNat (BitVec.ofInt 64 (IntKind.wrap .i64 (Int.fdiv (m : Int) 2)) ^^^ BitVec.ofInt 64 (IntKind.wrap .i64 (0 - IntKind.wrap .i64 (IntKind.wrap .u64 (((BitVec.toNat (BitVec.ofInt 64 (m : Int) &&& BitVec.ofInt 64 1) : Nat) : Int)))))) : Nat) : Int)) = zag m := by
  have e1 : (BitVec.toNat (BitVec.ofInt 64 (m : Int) &&& BitVec.ofInt 64 1)) = m % 2 := by
    rw [BitVec.toNat_and, toNat_ofInt, toNat_ofInt]
    have h1 : ((m : Int) % 18446744073709551616).toNat = m := by omega
    have h2 : ((1 : Int) % 18446744073709551616).toNat = 1 := by decide
    rw [h1, h2, Nat.and_one_is_mod]
  have e2 : Int.fdiv (m : Int) 2 = ((m / 2 : Nat) : Int) := by rw [Int.fdiv_eq_ediv_of_nonneg _ (by omega)]; omega
  rw [e1, e2, wrap_u64, w64 (x := ((m / 2 : Nat) : Int)) (by omega) (by omega)]
  unfold zag
  by_cases h0 : m % 2 = 1
  · rw [if_pos h0, h0]
    have e3 : IntKind.wrap .i64 (0 - IntKind.wrap .i64 ((((1 : Nat) : Int)) % 18446744073709551616)) = -1 := by decide
    rw [e3, xor_ones _ (by decide), toNat_ofInt]
    have e4 : ((((m / 2 : Nat) : Int)) % 18446744073709551616).toNat = m / 2 := by omega
    rw [e4]
    have e5 : IntKind.wrap .i64 ((18446744073709551615 - m / 2 : Nat) : Int) = -((m / 2 : Nat) : Int) - 1 := by
      rw [wrap_eq]; split <;> omega
    exact e5
  · rw [if_neg h0]
    have h2 : m % 2 = 0 := by omega
    rw [h2]
    have e3 : IntKind.wrap .i64 (0 - IntKind.wrap .i64 ((((0 : Nat) : Int)) % 18446744073709551616)) = 0 := by decide
    rw [e3, xor_zero, toNat_ofInt]
    have e4 : ((((m / 2 : Nat) : Int)) % 18446744073709551616).toNat = m / 2 := by omega
    rw [e4, w64 (by omega) (by omega)]

/-- A number with a sign, between two bounds. -/
def RdM.within (R : RdM) (lo hi : Int) : Int × RdM :=
  if R.uint.2.e ≠ 0 then (0, R.uint.2) else if zag R.uint.1 < lo ∨ zag R.uint.1 > hi then (0, ⟨R.bs, R.at_, 8⟩) else (zag R.uint.1, R.uint.2)
theorem uint_err {R : RdM} (h : R.e ≠ 0) : R.uint = (0, R) := by unfold RdM.uint; rw [if_pos h]

section
variable {w : World} {l r : List HP} {p : Nat} {R : RdM}
theorem wsint_c (n : Int) (hn : -9223372036854775808 ≤ n ∧ n < 9223372036854775808) (hs : Sat w l) : Ret P F.wire_Int #[.int .i64 n] w fun vs w' => ∃ z : Sl, vs = [z.v] ∧ Sat w' (slc T.uint8 1 z ((sintL n).flatMap encU) :: l) :=
  wire_Int_calls n <| by
    unfold wire_Int sintL
    have hz := zig_lt hn
    rw [zig_bits hn]
    generalize zig n = m at hz ⊢
    rw [wu64m, Nat.mod_eq_of_lt hz]
    refine wp_call (wuint_c m hz hs) fun _ _ hs => ?_
    obtain ⟨z, rfl, hs⟩ := hs
    refine ret_of ?_
    exact ⟨rfl, z, rfl, hs⟩
theorem dsint_c (n : Int) (hn : -9223372036854775808 ≤ n ∧ n < 9223372036854775808) (hs : Sat w l) : Ret P F.towpathref01_Int #[.int .i64 n] w fun vs w' => ∃ z : Sl, vs = [z.v] ∧ Sat w' (slc T.uint8 1 z ((sintL n).flatMap encU) :: l) :=
  towpathref01_Int_calls n <| by
    unfold towpathref01_Int
    have hz := zig_lt hn
    refine wp_if (fun h => ?_) fun h => ?_
    · have e : IntKind.wrap .u64 (2 * IntKind.wrap .u64 n) = ((zig n : Nat) : Int) := by
        rw [wrap_u64, wrap_u64]; unfold zig; rw [if_pos (by omega)]; omega
      rw [e]
      refine wp_call (duint_c 9 (zig n) (by omega) hz hs) fun _ _ hs => ?_
      obtain ⟨z, rfl, hs⟩ := hs
      refine ret_of ?_
      exact ⟨rfl, z, rfl, hs⟩
    · have e : IntKind.wrap .u64 (IntKind.wrap .u64 (2 * IntKind.wrap .u64 (IntKind.wrap .i64 (0 - IntKind.wrap .i64 (n + 1)))) + 1) = ((zig n : Nat) : Int) := by
        rw [w64 (x := n + 1) (by omega) (by omega), w64 (by omega) (by omega), wrap_u64, wrap_u64, wrap_u64]; unfold zig; rw [if_neg (by omega)]; omega
      rw [e]
      refine wp_call (duint_c 9 (zig n) (by omega) hz hs) fun _ _ hs => ?_
      obtain ⟨z, rfl, hs⟩ := hs
      refine ret_of ?_
      exact ⟨rfl, z, rfl, hs⟩
theorem rint_c [hf : Fo l (rdP T.wire_Reader) p R r] (hs : Sat w l) : Ret P F.wire_Reader_Int #[.pointer (some ⟨p, 0, none⟩)] w fun vs w' => vs = [.int .i64 (zag R.uint.1)] ∧ Sat w' (rdP T.wire_Reader p R.uint.2 :: r) :=
  wire_Reader_Int_calls _ <| by
    unfold wire_Reader_Int
    have hb := (rd_bound (hs.perm hf.perm)).1
    have hlt : R.uint.1 < 18446744073709551616 := by rcases uint_cases hb with h | h <;> omega
    refine wp_call (ruint_c (p := p) hs) fun _ _ hs => ?_
    obtain ⟨rfl, hs⟩ := hs
    refine ret_of ?_
    refine wp_lt ?_
    rw [zag_bits hlt]
    refine wp_lt ?_
    exact ⟨rfl, rfl, hs⟩
theorem rwithin_c (lo hi : Int) [hf : Fo l (rdP T.wire_Reader) p R r] (hs : Sat w l) : Ret P F.wire_Reader_Within #[.pointer (some ⟨p, 0, none⟩), .int .i64 lo, .int .i64 hi] w fun vs w' => vs = [.int .i64 (R.within lo hi).1] ∧ Sat w' (rdP T.wire_Reader p (R.within lo hi).2 :: r) :=
  wire_Reader_Within_calls _ lo hi <| by
    unfold wire_Reader_Within
    have hb0 := rd_bound (hs.perm hf.perm)
    refine wp_call (good_c (p := p) hs) fun _ _ hs => ?_
    obtain ⟨rfl, hs⟩ := hs
    refine ret_of ?_
    refine wp_if (fun h => ?_) fun h => ?_
    · have h : R.e ≠ 0 := by simpa using h
      unfold RdM.within
      rw [uint_err h, if_pos h]
      exact ⟨rfl, rfl, hs⟩
    have h : R.e = 0 := by simpa using h
    obtain ⟨x, hb, hs⟩ := rd_open hs
    refine wp_nn ?_
    refine wp_ldO hs ?_
    refine wp_lt ?_
    have hs : Sat _ (rdP T.wire_Reader p R :: r) := rd_close R hb hs
    refine wp_call (rint_c (p := p) hs) fun _ _ hs => ?_
    obtain ⟨rfl, hs⟩ := hs
    refine ret_of ?_
    refine wp_lt ?_
    have hbs := uint_bs R
    unfold RdM.within
    have hb2 := rd_bound hs
    generalize R.uint.1 = m at *
    generalize R.uint.2 = R1 at *
    obtain ⟨x, -, hs⟩ := rd_open hs
    refine wp_nn ?_
    refine wp_ldO hs ?_
    refine wp_mid (fun _ w' => Sat w' (rdP T.wire_Reader p (if R1.e ≠ 0 then R1 else if zag m < lo ∨ zag m > hi then ⟨R.bs, R.at_, 8⟩ else R1) :: r)) ?_ ?_
    · refine wp_if (fun h2 => ?_) fun h2 => ?_
      · obtain ⟨h3, h4⟩ := h2
        have e : (if R1.e ≠ 0 then R1 else if zag m < lo ∨ zag m > hi then (⟨R.bs, R.at_, 8⟩ : RdM) else R1) = ⟨R.bs, R.at_, 8⟩ := by rw [if_neg (by rw [h3]; simp), if_pos h4]
        refine wp_nn ?_
        refine wp_stO hs fun w' hs => ?_
        refine wp_nn ?_
        have hs : Sat w' (rdP T.wire_Reader p ⟨R.bs, R.at_, 0⟩ :: r) := rd_close (x := x) ⟨R.bs, R.at_, 0⟩ hb0 (by rw [hbs, h3] at hs; exact hs)
        refine wp_call (pfail_c (p := p) 8 hs) fun _ w' hs => ?_
        obtain ⟨rfl, hs⟩ := hs
        refine ret_of ?_
        refine wp_lv ?_
        rw [e]
        exact hs
      · refine wp_lv ?_
        have e : (if R1.e ≠ 0 then R1 else if zag m < lo ∨ zag m > hi then (⟨R.bs, R.at_, 8⟩ : RdM) else R1) = R1 := by
          by_cases h3 : R1.e = 0
          · rw [if_neg (by rw [h3]; simp), if_neg (fun h4 => h2 ⟨h3, h4⟩)]
          · rw [if_pos h3]
        rw [e]
        exact rd_close R1 hb2 hs
    clear hs
    rintro _ w hs
    refine wp_on ?_
    by_cases h3 : R1.e = 0
    · rw [if_neg (by rw [h3]; simp)] at hs ⊢
      by_cases h4 : zag m < lo ∨ zag m > hi
      · rw [if_pos h4] at hs ⊢
        obtain ⟨x, -, hs⟩ := rd_open hs
        refine wp_nn ?_
        refine wp_ldO hs ?_
        refine wp_ifT ?_ (by simp)
        exact ⟨rfl, rfl, rd_close ⟨R.bs, R.at_, 8⟩ hb0 hs⟩
      · rw [if_neg h4] at hs ⊢
        obtain ⟨x, -, hs⟩ := rd_open hs
        refine wp_nn ?_
        refine wp_ldO hs ?_
        refine wp_ifF ?_ (by rw [h3]; simp)
        refine wp_lt ?_
        exact ⟨rfl, rfl, rd_close R1 hb2 hs⟩
    · rw [if_pos h3] at hs ⊢
      obtain ⟨x, -, hs⟩ := rd_open hs
      refine wp_nn ?_
      refine wp_ldO hs ?_
      refine wp_ifT ?_ h3
      exact ⟨rfl, rfl, rd_close R1 hb2 hs⟩
end
end Go.Dec
