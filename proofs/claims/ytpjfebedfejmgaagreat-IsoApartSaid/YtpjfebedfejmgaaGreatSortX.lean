/- Sorting, part X: the helpers that this seat's sorts call. -/
import Derived.Test.YtpjfebedfejmgaaGreatSortZ
import Derived.Test.YtpjfebedfejmgaaGreatTypes
import Derived.Test.YtpjfebedfejmgaaGreatFns0
namespace Go.Dec
set_option linter.unusedVariables false
set_option linter.unusedSimpArgs false
set_option maxRecDepth 4000

def lenTbl : ByteArray := ByteArray.mk #[0, 1, 2, 2, 3, 3, 3, 3, 4, 4, 4, 4, 4, 4, 4, 4, 5, 5, 5, 5, 5, 5, 5, 5, 5, 5, 5, 5, 5, 5, 5, 5, 6, 6, 6, 6, 6, 6, 6, 6, 6, 6, 6, 6, 6, 6, 6, 6, 6, 6, 6, 6, 6, 6, 6, 6, 6, 6, 6, 6, 6, 6, 6, 6, 7, 7, 7, 7, 7, 7, 7, 7, 7, 7, 7, 7, 7, 7, 7, 7, 7, 7, 7, 7, 7, 7, 7, 7, 7, 7, 7, 7, 7, 7, 7, 7, 7, 7, 7, 7, 7, 7, 7, 7, 7, 7, 7, 7, 7, 7, 7, 7, 7, 7, 7, 7, 7, 7, 7, 7, 7, 7, 7, 7, 7, 7, 7, 7, 8, 8, 8, 8, 8, 8, 8, 8, 8, 8, 8, 8, 8, 8, 8, 8, 8, 8, 8, 8, 8, 8, 8, 8, 8, 8, 8, 8, 8, 8, 8, 8, 8, 8, 8, 8, 8, 8, 8, 8, 8, 8, 8, 8, 8, 8, 8, 8, 8, 8, 8, 8, 8, 8, 8, 8, 8, 8, 8, 8, 8, 8, 8, 8, 8, 8, 8, 8, 8, 8, 8, 8, 8, 8, 8, 8, 8, 8, 8, 8, 8, 8, 8, 8, 8, 8, 8, 8, 8, 8, 8, 8, 8, 8, 8, 8, 8, 8, 8, 8, 8, 8, 8, 8, 8, 8, 8, 8, 8, 8, 8, 8, 8, 8, 8, 8, 8, 8, 8, 8, 8, 8, 8, 8, 8, 8, 8, 8]

theorem lenTbl_get : ∀ i : Fin 256, ∃ k : Nat, bt lenTbl (i.val : Int) = k ∧ k ≤ 8 ∧ (1 ≤ i.val → 2 ^ k ≤ 2 * i.val) := by
  have h : ∀ i : Fin 256, 0 ≤ bt lenTbl (i.val : Int) ∧ (bt lenTbl (i.val : Int)).toNat ≤ 8 ∧ (1 ≤ i.val → 2 ^ (bt lenTbl (i.val : Int)).toNat ≤ 2 * i.val) := by decide
  intro i
  obtain ⟨h1, h2, h3⟩ := h i
  exact ⟨(bt lenTbl (i.val : Int)).toNat, by omega, h2, h3⟩

theorem wrapu (x : Int) : IntKind.wrap .u64 x = x % 18446744073709551616 := by simp [IntKind.wrap, IntKind.bits, IntKind.signed]
theorem wrapu8 (x : Int) : IntKind.wrap .u8 x = x % 256 := by simp [IntKind.wrap, IntKind.bits, IntKind.signed]

section
variable {w : World} {l : List HP}

/-- One step: x is shifted while it is great. -/
structure LenS (n x s B : Nat) : Prop where
  h1 : x * 2 ^ s ≤ n
  h2 : 1 ≤ x
  h3 : x < B
  h4 : s ≤ 64

theorem LenS.shift {n x s : Nat} (a b : Nat) (h : LenS n x s (2 ^ (a + b))) (hx : 2 ^ a ≤ x) (hs : s + a ≤ 64) : LenS n (x / 2 ^ a) (s + a) (2 ^ b) := by
  obtain ⟨h1, h2, h3, h4⟩ := h
  have hp : 0 < 2 ^ a := Nat.two_pow_pos a
  refine ⟨?_, Nat.div_pos hx hp, ?_, hs⟩
  · rw [Nat.pow_add, ← Nat.mul_assoc, Nat.mul_right_comm]
    exact Nat.le_trans (Nat.mul_le_mul_right _ (Nat.div_mul_le_self x (2 ^ a))) h1
  · rw [Nat.div_lt_iff_lt_mul hp, Nat.mul_comm, ← Nat.pow_add]; exact h3

theorem len64_c (n : Nat) (h0 : 1 ≤ n) (h1 : n < 18446744073709551616) (hs : Sat w l) : Ret P F.math_bits_Len64 #[.int .u64 n] w fun vs w' => (∃ k : Nat, vs = [.int .i64 k] ∧ k ≤ 64 ∧ 2 ^ k ≤ 2 * n) ∧ Sat w' l :=
  math_bits_Len64_calls n <| by
    unfold math_bits_Len64
    refine wp_mid (fun v w' => (∃ x s : Nat, v = ((x : Int), (s : Int), ()) ∧ LenS n x s (2 ^ 32) ∧ s ≤ 32) ∧ Sat w' l) ?_ ?_
    · refine wp_ite (fun hc => ?_) fun hc => ?_
      · have hc : (n : Int) ≥ 4294967296 := of_decide_eq_true hc
        refine wp_lw (y := ((n / 2 ^ 32 : Nat) : Int)) (by rw [Int.fdiv_eq_ediv_of_nonneg _ (by omega)]; omega) ?_
        exact wp_leave ⟨(((n / 2 ^ 32 : Nat) : Int), ((32 : Nat) : Int), ()), rfl, ⟨_, 32, rfl, by have := LenS.shift (n := n) (x := n) (s := 0) 32 32 ⟨by omega, h0, by omega, by omega⟩ (by omega) (by omega); simpa using this, by omega⟩, hs⟩
      · have hc : ¬ (n : Int) ≥ 4294967296 := of_decide_eq_false hc
        exact wp_leave ⟨((n : Int), ((0 : Nat) : Int), ()), rfl, ⟨n, 0, rfl, ⟨by omega, h0, by omega, by omega⟩, by omega⟩, hs⟩
    rintro _ w ⟨⟨x, s, rfl, hx, hs1⟩, hs⟩
    refine wp_mid (fun v w' => (∃ x s : Nat, v = ((x : Int), (s : Int), ()) ∧ LenS n x s (2 ^ 16) ∧ s ≤ 48) ∧ Sat w' l) ?_ ?_
    · refine wp_ite (fun hc => ?_) fun hc => ?_
      · have hc : (x : Int) ≥ 65536 := of_decide_eq_true hc
        refine wp_lw (y := ((x / 2 ^ 16 : Nat) : Int)) (by dsimp only; rw [Int.fdiv_eq_ediv_of_nonneg _ (by omega)]; omega) ?_
        refine wp_lw (y := ((s + 16 : Nat) : Int)) (by dsimp only; rw [w64 (by omega) (by omega)]; omega) ?_
        exact wp_leave ⟨(((x / 2 ^ 16 : Nat) : Int), ((s + 16 : Nat) : Int), ()), rfl, ⟨_, _, rfl, LenS.shift 16 16 hx (by omega) (by omega), by omega⟩, hs⟩
      · have hc : ¬ (x : Int) ≥ 65536 := of_decide_eq_false hc
        exact wp_leave ⟨((x : Int), (s : Int), ()), rfl, ⟨x, s, rfl, ⟨hx.h1, hx.h2, by omega, hx.h4⟩, by omega⟩, hs⟩
    clear hs hx hs1
    rintro _ w ⟨⟨x, s, rfl, hx, hs1⟩, hs⟩
    refine wp_mid (fun v w' => (∃ x s : Nat, v = ((x : Int), (s : Int), ()) ∧ LenS n x s (2 ^ 8) ∧ s ≤ 56) ∧ Sat w' l) ?_ ?_
    · refine wp_ite (fun hc => ?_) fun hc => ?_
      · have hc : (x : Int) ≥ 256 := of_decide_eq_true hc
        refine wp_lw (y := ((x / 2 ^ 8 : Nat) : Int)) (by dsimp only; rw [Int.fdiv_eq_ediv_of_nonneg _ (by omega)]; omega) ?_
        refine wp_lw (y := ((s + 8 : Nat) : Int)) (by dsimp only; rw [w64 (by omega) (by omega)]; omega) ?_
        exact wp_leave ⟨(((x / 2 ^ 8 : Nat) : Int), ((s + 8 : Nat) : Int), ()), rfl, ⟨_, _, rfl, LenS.shift 8 8 hx (by omega) (by omega), by omega⟩, hs⟩
      · have hc : ¬ (x : Int) ≥ 256 := of_decide_eq_false hc
        exact wp_leave ⟨((x : Int), (s : Int), ()), rfl, ⟨x, s, rfl, ⟨hx.h1, hx.h2, by omega, hx.h4⟩, by omega⟩, hs⟩
    clear hs hx hs1
    rintro _ w ⟨⟨x, s, rfl, hx, hs1⟩, hs⟩
    have hx3 := hx.h3
    have e : IntKind.wrap .u8 (x : Int) = x := by rw [wrapu8]; omega
    have e' : IntKind.wrap .u8 ((x : Int), (s : Int), ()).1 = x := e
    obtain ⟨k, hk1, hk2, hk3⟩ := lenTbl_get ⟨x, by omega⟩
    refine wp_must (by rw [e']; omega) ?_
    refine wp_lw (y := ((s + k : Nat) : Int)) ?_ ?_
    · show IntKind.wrap .i64 ((s : Int) + IntKind.wrap .i64 (bt lenTbl (IntKind.wrap .u8 (x : Int)))) = _
      rw [e, hk1, w64 (x := (k : Int)) (by omega) (by omega), w64 (by omega) (by omega)]; omega
    · refine ⟨rfl, ⟨s + k, rfl, by omega, ?_⟩, hs⟩
      have h5 := hk3 hx.h2
      have h6 := hx.h1
      rw [Nat.pow_add]
      calc 2 ^ s * 2 ^ k ≤ 2 ^ s * (2 * x) := Nat.mul_le_mul_left _ h5
        _ = 2 * (x * 2 ^ s) := by rw [Nat.mul_comm (2 ^ s), Nat.mul_assoc]
        _ ≤ 2 * n := by omega

theorem len_c (n : Nat) (h0 : 1 ≤ n) (h1 : n < 18446744073709551616) (hs : Sat w l) : Ret P F.math_bits_Len #[.int .u64 n] w fun vs w' => (∃ k : Nat, vs = [.int .i64 k] ∧ k ≤ 64 ∧ 2 ^ k ≤ 2 * n) ∧ Sat w' l :=
  math_bits_Len_calls n <| by
    unfold math_bits_Len
    refine wp_call (len64_c n h0 h1 hs) fun vs w' ⟨⟨k, hv, h2, h3⟩, hs⟩ => ?_
    subst hv
    exact ⟨((k : Int), ()), rfl, trivial, rfl, ⟨k, rfl, h2, h3⟩, hs⟩

theorem len0_c (hs : Sat w l) : Ret P F.math_bits_Len #[.int .u64 0] w fun vs w' => vs = [.int .i64 0] ∧ Sat w' l :=
  math_bits_Len_calls 0 <| by
    unfold math_bits_Len
    refine wp_callS (0, ()) (vs₀ := [.int .i64 0]) (R := fun w' => Sat w' l) ?_ rfl fun w' hs => ⟨trivial, rfl, rfl, hs⟩
    refine math_bits_Len64_calls 0 ?_
    unfold math_bits_Len64
    refine wp_mid (fun v w' => v = (0, 0, ()) ∧ Sat w' l) (wp_ite_f rfl (wp_leave ⟨(0, 0, ()), rfl, rfl, hs⟩)) ?_
    rintro _ w ⟨rfl, hs⟩
    refine wp_mid (fun v w' => v = (0, 0, ()) ∧ Sat w' l) (wp_ite_f rfl (wp_leave ⟨(0, 0, ()), rfl, rfl, hs⟩)) ?_
    clear hs
    rintro _ w ⟨rfl, hs⟩
    refine wp_mid (fun v w' => v = (0, 0, ()) ∧ Sat w' l) (wp_ite_f rfl (wp_leave ⟨(0, 0, ()), rfl, rfl, hs⟩)) ?_
    clear hs
    rintro _ w ⟨rfl, hs⟩
    refine wp_must (by decide) (wp_lw (y := 0) ?_ ⟨rfl, rfl, hs⟩)
    show IntKind.wrap .i64 (0 + IntKind.wrap .i64 (bt lenTbl (IntKind.wrap .u8 0))) = 0
    decide

theorem pow_c (n : Nat) (h0 : 8 ≤ n) (h1 : n < 1152921504606846976) (hs : Sat w l) : Ret P F.slices_nextPowerOfTwo #[.int .i64 n] w fun vs w' => ∃ m : Nat, vs = [.int .u64 m] ∧ 1 ≤ m ∧ m ≤ 2 * n ∧ Sat w' l :=
  slices_nextPowerOfTwo_calls n <| by
    unfold slices_nextPowerOfTwo
    have e : IntKind.wrap .u64 (n : Int) = n := by rw [wrapu]; omega
    rw [e]
    refine wp_call (len_c n (by omega) (by omega) hs) fun vs w' ⟨⟨k, hv, h2, h3⟩, hs⟩ => ?_
    subst hv
    refine ⟨((k : Int), ()), rfl, trivial, wp_must (by dsimp only; omega) ?_⟩
    have hp := Nat.two_pow_pos k
    refine wp_lw (y := ((2 ^ k : Nat) : Int)) ?_ ?_
    · show IntKind.wrap .u64 (1 * 2 ^ min (Int.toNat (k : Int)) 64) = _
      rw [Int.toNat_natCast, Nat.min_eq_left h2, Int.one_mul]
      have : ((2 : Int) ^ k) = ((2 ^ k : Nat) : Int) := by simp
      rw [this]
      generalize 2 ^ k = p at *
      rw [wrapu]; omega
    · exact ⟨rfl, 2 ^ k, rfl, hp, h3, hs⟩

theorem next_c {b : Nat} {u : Int} (hs : Sat w (pt b (.cells #[.int .u64 u] T.slices_xorshift) :: l)) : Ret P F.slices_xorshift_Next #[.pointer (some ⟨b, 0, none⟩)] w fun vs w' => ∃ v u', vs = [.int .u64 v] ∧ Sat w' (pt b (.cells #[.int .u64 u'] T.slices_xorshift) :: l) :=
  slices_xorshift_Next_calls (some ⟨b, 0, none⟩) <| by
    unfold slices_xorshift_Next
    have step : ∀ {w : World} {u : Int} {Q : Post} {k : Prog} {f : Int → Int → Int}, Sat w (pt b (.cells #[.int .u64 u] T.slices_xorshift) :: l) → (∀ w' u', Sat w' (pt b (.cells #[.int .u64 u'] T.slices_xorshift) :: l) → k.wp P tt w' Q) →
        (Prog.tick <| .ex [.adr] (c1 fun a => some (Addr.mk b 0 none) = some a) (u1 fun a1 => .read True (ld T.slices_xorshift a1) (sI .u64) (u1 fun (n2 : Int) => .ex [.adr] (c1 fun a => some (Addr.mk b 0 none) = some a) (u1 fun a4 => .read True (ld T.slices_xorshift a4) (sI .u64) (u1 fun (n5 : Int) =>
          .ex [.adr] (c1 fun a => some (Addr.mk b 0 none) = some a) (u1 fun a7 => .actU (st T.slices_xorshift a7 (.int .u64 (f n2 n5))) <| .untick k)))))).wp P tt w Q := fun hs h => by
      refine wp_tick fun w2 hw => ?_
      have hs := hs.heap hw
      refine wp_ex (⟨b, 0, none⟩, ()) rfl ?_
      refine wp_ld hs rfl ?_
      refine wp_ex (⟨b, 0, none⟩, ()) rfl ?_
      refine wp_ld hs rfl ?_
      refine wp_ex (⟨b, 0, none⟩, ()) rfl ?_
      refine wp_st1 hs rfl rfl rfl fun w' hs => ⟨trivial, ?_⟩
      exact wp_untick (h w' _ hs)
    refine step (f := fun n2 n5 => IntKind.wrap .u64 (((BitVec.toNat (BitVec.ofInt 64 n2 ^^^ BitVec.ofInt 64 (IntKind.wrap .u64 (n5 * 8192))) : Nat) : Int))) hs fun w' u' hs => ?_
    refine step (f := fun n2 n5 => IntKind.wrap .u64 (((BitVec.toNat (BitVec.ofInt 64 n2 ^^^ BitVec.ofInt 64 (Int.fdiv n5 128)) : Nat) : Int))) hs fun w' u' hs => ?_
    refine step (f := fun n2 n5 => IntKind.wrap .u64 (((BitVec.toNat (BitVec.ofInt 64 n2 ^^^ BitVec.ofInt 64 (IntKind.wrap .u64 (n5 * 131072))) : Nat) : Int))) hs fun w' u' hs => ?_
    refine wp_ex (⟨b, 0, none⟩, ()) rfl ?_
    refine wp_ld hs rfl ?_
    exact wp_lt ⟨rfl, _, _, rfl, hs⟩

end
end Go.Dec
