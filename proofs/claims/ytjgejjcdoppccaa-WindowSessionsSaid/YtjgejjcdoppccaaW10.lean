/- Windows: the law of Hop. -/
import Derived.Test.YtjgejjcdoppccaaW9
namespace Go.Dec
set_option linter.unusedVariables false
set_option linter.unusedSimpArgs false

theorem hopL_mem {t size hop : Int} (hF : HopF t size hop) (m : Int) (hm : m ≤ t / hop) : ((hopL t size hop).any fun p => p.1 == m * hop && p.2 == m * hop + size) = decide (hopLo t size hop ≤ m) := by
  obtain ⟨k0, k1, k2, k3, k4, k5, k6⟩ := hF.lo
  have hh := hF.h0
  rw [Bool.eq_iff_iff, List.any_eq_true, decide_eq_true_eq]
  constructor
  · rintro ⟨p, hp, h⟩
    simp only [Bool.and_eq_true, beq_iff_eq] at h
    unfold hopL hopUp at hp
    obtain ⟨i, hi, rfl⟩ := List.mem_map.1 hp
    have h1 : (hopLo t size hop + i) * hop = m * hop := h.1
    have := Int.eq_of_mul_eq_mul_right (by omega) h1
    omega
  · intro h
    refine ⟨hopSp size hop m, ?_, by simp [hopSp]⟩
    unfold hopL hopUp
    refine List.mem_map.2 ⟨(m - hopLo t size hop).toNat, ?_, ?_⟩
    · rw [List.mem_range, hopN]; omega
    · show hopSp size hop (hopLo t size hop + ((m - hopLo t size hop).toNat : Int)) = _
      congr 1; omega

section
variable {w : World} {l r : List HP}

theorem hops_law (t size hop k : Int) (w1 : -9223372036854775808 ≤ size ∧ size < 9223372036854775808) (w2 : -9223372036854775808 ≤ hop ∧ hop < 9223372036854775808) (hs : Sat w l) :
    Ret P F.towpathlaw21_WindowHops #[.int .i64 t, .int .i64 size, .int .i64 hop, .int .i64 k] w fun vs w' => vs = [.bool true] ∧ Sat w' l :=
  towpathlaw21_WindowHops_calls t size hop k <| by
    unfold towpathlaw21_WindowHops
    refine wp_must (fun h => by have h : hop > 0 := of_decide_eq_true h; omega) ?_
    refine wp_ite (fun h => ?_) fun h => ?_
    · have h : (decide (hop > 0) && decide (IntKind.wrap .i64 (Int.tdiv size hop) > 1100)) = true := h
      simp only [Bool.and_eq_true, decide_eq_true_eq] at h
      have hno : hopOk t size hop = false := by
        cases hc : hopOk t size hop with
        | false => rfl
        | true =>
          exfalso
          have hF := hopF_of hc
          obtain ⟨t0, t1, s0, s1, h0, h1, h2⟩ := hF
          have h3 := h.2
          rw [Int.tdiv_eq_ediv_of_nonneg (by omega)] at h3
          have e4 : size / hop ≤ size := Int.ediv_le_self _ (by omega)
          have e5 : 0 ≤ size / hop := Int.ediv_nonneg (by omega) (by omega)
          rw [w64 (by omega) (by omega)] at h3
          have : size / hop < 1025 := Int.ediv_lt_of_lt_mul (by omega) (by omega)
          omega
      refine wp_call (hop_c t size hop hs) fun vs w' h => ?_
      rw [if_neg (by rw [hno]; simp)] at h
      obtain ⟨rfl, hs⟩ := h
      refine ⟨(⟨none, 0, 0⟩, 2, ()), rfl, trivial, wp_lt ?_⟩
      refine wp_mid (fun v w' => v = (true, ()) ∧ Sat w' l) ?_ (by rintro _ w' ⟨rfl, hs⟩; exact ⟨rfl, rfl, hs⟩)
      refine wp_ite_t rfl ?_
      refine wp_callS (true, ()) (awake _ _ hs) rfl fun w' hs => ⟨trivial, wp_lt ?_⟩
      exact wp_leave ⟨(true, ()), rfl, rfl, hs⟩
    · clear h
      refine wp_call (hop_c t size hop hs) fun vs w' h => ?_
      cases hok : hopOk t size hop with
      | false =>
        rw [if_neg (by rw [hok]; simp)] at h
        obtain ⟨rfl, hs⟩ := h
        refine ⟨(⟨none, 0, 0⟩, 2, ()), rfl, trivial, wp_lt ?_⟩
        refine wp_call (rhop_c t size hop w2 hs) fun vs w' h => ?_
        rw [if_neg (by rw [hok]; simp)] at h
        obtain ⟨rfl, hs⟩ := h
        refine ⟨(⟨none, 0, 0⟩, 2, ()), rfl, trivial, wp_lt ?_⟩
        refine wp_mid (fun v w' => v = (false, ()) ∧ Sat w' l) ?_ ?_
        · refine wp_ite_f rfl ?_
          have hs : Sat w' (spans ⟨none, 0, 0⟩ [] :: rspans ⟨none, 0, 0⟩ [] :: l) := hs.slc_nil.slc_nil
          refine wp_callS (true, ()) (spans_c _ _ [] [] (by decide) hs) rfl fun w' hs => ⟨trivial, ?_⟩
          exact wp_leave ⟨(false, ()), rfl, rfl, hs.tail.tail⟩
        · rintro _ w' ⟨rfl, hs⟩
          refine wp_ite_f rfl ?_
          refine wp_ite_t rfl ?_
          refine wp_callS (true, ()) (awake _ _ hs) rfl fun w' hs => ⟨trivial, wp_lt ?_⟩
          exact ⟨rfl, rfl, hs⟩
      | true =>
        rw [if_pos hok] at h
        obtain ⟨x, rfl, hs⟩ := h
        refine ⟨(x, 0, ()), rfl, trivial, wp_lt ?_⟩
        refine wp_call (rhop_c t size hop w2 hs) fun vs w' h => ?_
        rw [if_pos hok] at h
        obtain ⟨y, rfl, hs⟩ := h
        refine ⟨(y, 0, ()), rfl, trivial, wp_lt ?_⟩
        have hF := hopF_of hok
        have hlen : (hopL t size hop).length ≤ 1025 := by
          have := hF.lo
          simp only [hopL, hopUp, List.length_map, List.length_range, hopN]; omega
        refine wp_mid (fun v w' => v = (false, ()) ∧ Sat w' (spans x (hopL t size hop) :: l)) ?_ ?_
        · refine wp_ite_f rfl ?_
          have hs : Sat w' (spans x (hopL t size hop) :: rspans y (hopL t size hop) :: l) := hs.focS x
          refine wp_callS (true, ()) (spans_c x y _ _ (by omega) hs) (by simp; rfl) fun w' hs => ⟨trivial, ?_⟩
          exact wp_leave ⟨(false, ()), rfl, rfl, (hs.focS y).tail⟩
        · clear hs
          rintro _ w ⟨rfl, hs⟩
          refine wp_ite_f rfl ?_
          refine wp_ite_f rfl ?_
          obtain ⟨k0, k1, k2, k3, k4, k5, k6⟩ := hF.lo
          have hmem := hopL_mem hF
          obtain ⟨t0, t1, s0, s1, h0, h1, h2⟩ := hF
          have hm1 : -2000 < Int.tmod k 2000 ∧ Int.tmod k 2000 < 2000 := by
            have a1 := Int.tmod_lt_of_pos k (b := 2000) (by omega)
            have a2 := Int.lt_tmod_of_pos k (b := 2000) (by omega)
            omega
          refine wp_lt ?_
          refine wp_mid (fun v w' => ∃ j : Int, v = (j, ()) ∧ 0 ≤ j ∧ j < 2000 ∧ Sat w' (spans x (hopL t size hop) :: l)) ?_ ?_
          · refine wp_ite (fun hc => ?_) fun hc => ?_
            · have hc : Int.tmod k 2000 < 0 := of_decide_eq_true hc
              refine wp_lw (y := 0 - Int.tmod k 2000) (w64 (by omega) (by omega)) ?_
              exact wp_leave ⟨(0 - Int.tmod k 2000, ()), rfl, _, rfl, by omega, by omega, hs⟩
            · have hc : ¬ Int.tmod k 2000 < 0 := of_decide_eq_false hc
              exact wp_leave ⟨(Int.tmod k 2000, ()), rfl, _, rfl, by omega, by omega, hs⟩
          clear hs
          rintro _ w ⟨j, rfl, hj0, hj1, hs⟩
          have hK0 : 0 ≤ t / hop := by omega
          have hKt : t / hop ≤ t := Int.ediv_le_self _ t0
          have hmul : ((t / hop) - j) * hop = (t / hop) * hop - j * hop := Int.sub_mul _ _ _
          have hjh : j * hop ≤ 2000 * hop := Int.mul_le_mul_of_nonneg_right (by omega) (by omega)
          have hjh0 : 0 * hop ≤ j * hop := Int.mul_le_mul_of_nonneg_right (by omega) (by omega)
          have hKh0 : 0 * hop ≤ (t / hop) * hop := Int.mul_le_mul_of_nonneg_right (by omega) (by omega)
          have e1 : IntKind.wrap .i64 (IntKind.wrap .i64 (IntKind.wrap .i64 (Int.tdiv t hop) - j) * hop) = (t / hop - j) * hop := by
            rw [Int.tdiv_eq_ediv_of_nonneg t0, w64 (x := t / hop) (by omega) (by omega), w64 (x := t / hop - j) (by omega) (by omega), w64 (by omega) (by omega)]
          generalize hM : t / hop - j = m at *
          have e2 : IntKind.wrap .i64 (m * hop + size) = m * hop + size := w64 (by omega) (by omega)
          refine wp_mid (fun v w' => ∃ a : Nat, v = (⟨a, 0, none⟩, ()) ∧ Sat w' (pt a (.cells #[.int .i64 (m * hop), .int .i64 (m * hop + size)] T.window_Span) :: spans x (hopL t size hop) :: l)) ?_ ?_
          · refine wp_tick fun w2 hw => ?_
            have hs := hs.heap hw
            refine wp_must (by omega) (wp_must (by omega) ?_)
            refine wp_newZ hs fun a w' hs => ⟨trivial, ?_⟩
            dsimp only
            rw [e1, e2]
            refine wp_stA hs rfl rfl (by simp [Value.oneCell']) fun w' hs => ⟨trivial, ?_⟩
            exact wp_untick (wp_leave ⟨(⟨a, 0, none⟩, ()), rfl, a, rfl, hs⟩)
          clear hs
          rintro _ w ⟨a, rfl, hs⟩
          have hxl : x.len = (hopL t size hop).length := (hs.focS x).rd.len (enc := encS) encS_len (by decide)
          refine wp_mid (fun v w' => v = (decide (hopLo t size hop ≤ m), ()) ∧ Sat w' (pt a (.cells #[.int .i64 (m * hop), .int .i64 (m * hop + size)] T.window_Span) :: l)) ?_ ?_
          · refine wp_loop (fun n v w => ∃ i : Nat, v = (((hopL t size hop).take i).any (fun p => p.1 == m * hop && p.2 == m * hop + size), (i : Int), ()) ∧ i ≤ (hopL t size hop).length ∧ (hopL t size hop).length - i = n ∧
              Sat w (pt a (.cells #[.int .i64 (m * hop), .int .i64 (m * hop + size)] T.window_Span) :: spans x (hopL t size hop) :: l)) (hopL t size hop).length ⟨0, rfl, by omega, by omega, hs⟩ ?_
            clear hs
            rintro n _ w ⟨i, rfl, hi, hn, hs⟩
            refine wp_ite (fun hc => ?_) fun hc => ?_
            · have hc : (i : Int) < ((x.len : Nat) : Int) := of_decide_eq_true hc
              have hil : i < (hopL t size hop).length := by omega
              obtain ⟨b, hb, hel⟩ := (hs.focS x).rd.el (enc := encS) encS_len (by omega)
              have he := hel i hil
              obtain ⟨⟨p0, p1⟩, hp⟩ : ∃ p, p = (hopL t size hop)[i] := ⟨_, rfl⟩
              rw [← hp] at he
              refine wp_ex (b, ()) ⟨by dsimp only; omega, by dsimp only; omega, hb⟩ ?_
              refine wp_rdA (ps := [.int .i64, .int .i64]) (p0, p1, ()) (At.ldA he rfl) ?_
              refine wp_newZ hs fun c w' hs => ⟨trivial, ?_⟩
              refine wp_stA hs rfl rfl (by simp [Value.oneCell']) fun w' hs => ⟨trivial, ?_⟩
              refine wp_ldA (p0, p1, ()) hs rfl rfl ?_
              refine wp_ldA (m * hop, m * hop + size, ()) hs rfl rfl ?_
              refine wp_lt ?_
              refine wp_dn (us' := [.bool (((hopL t size hop).take (i + 1)).any (fun p => p.1 == m * hop && p.2 == m * hop + size)), .int .i64 ((i + 1 : Nat) : Int)]) ?_ ?_
              · rw [List.take_add_one, List.getElem?_eq_getElem hil, ← hp, List.any_append]
                dsimp only
                rw [w64 (by omega) (by omega)]
                simp
              · exact wp_leave ⟨(_, ((i + 1 : Nat) : Int), ()), (hopL t size hop).length - (i + 1), by omega, rfl, i + 1, rfl, by omega, rfl, hs.tail⟩
            · have hc : ¬ (i : Int) < ((x.len : Nat) : Int) := of_decide_eq_false hc
              refine wp_pass ?_
              refine wp_leave ⟨(_, ()), rfl, ?_, (hs.focS x).tail⟩
              rw [List.take_of_length_le (by omega), hmem m (by omega)]
          clear hs
          rintro _ w ⟨rfl, hs⟩
          refine wp_mid (fun v w' => v = (true, ()) ∧ Sat w' l) ?_ (by rintro _ w' ⟨rfl, hs⟩; exact ⟨rfl, rfl, hs⟩)
          refine wp_ld (x := m * hop) hs rfl ?_
          refine wp_ldA (m * hop, m * hop + size, ()) hs rfl rfl ?_
          refine wp_ite (fun hc => ?_) fun hc => ?_
          · have hc : m * hop ≥ 0 := of_decide_eq_true hc
            have hm0 : 0 ≤ m := by
              rcases Int.lt_or_le m 0 with h | h
              · have : m * hop ≤ -1 * hop := Int.mul_le_mul_of_nonneg_right (by omega) (by omega)
                omega
              · exact h
            refine wp_callS (hasF (m * hop) (m * hop + size) t, ()) (has_c _ _ t hs) rfl fun w' hs => ⟨trivial, ?_⟩
            have hq : decide (hopLo t size hop ≤ m) = hasF (m * hop) (m * hop + size) t := by
              unfold hasF
              have hmK : m * hop ≤ (t / hop) * hop := Int.mul_le_mul_of_nonneg_right (by omega) (by omega)
              rw [decide_eq_true (show t ≥ m * hop by omega), Bool.true_and]
              rcases Int.lt_or_le m (hopLo t size hop) with h | h
              · have h3 : m * hop ≤ (hopLo t size hop - 1) * hop := Int.mul_le_mul_of_nonneg_right (by omega) (by omega)
                have := k6 (by omega)
                rw [decide_eq_false (by omega), decide_eq_false (by omega)]
              · have h3 : hopLo t size hop * hop ≤ m * hop := Int.mul_le_mul_of_nonneg_right (by omega) (by omega)
                rw [decide_eq_true h, decide_eq_true (by omega)]
            refine wp_ite_t ?_ ?_
            · show (decide (hopLo t size hop ≤ m) == hasF (m * hop) (m * hop + size) t) = true
              rw [hq]; simp
            refine wp_callS (true, ()) (awake _ _ hs) rfl fun w' hs => ⟨trivial, wp_lt ?_⟩
            exact wp_leave ⟨(true, ()), rfl, rfl, hs.tail⟩
          · have hc : ¬ m * hop ≥ 0 := of_decide_eq_false hc
            have hm0 : m < 0 := by
              rcases Int.lt_or_le m 0 with h | h
              · exact h
              · have : 0 * hop ≤ m * hop := Int.mul_le_mul_of_nonneg_right (by omega) (by omega)
                omega
            refine wp_ite_t ?_ ?_
            · show (decide (hopLo t size hop ≤ m) == false) = true
              rw [decide_eq_false (by omega)]; rfl
            refine wp_callS (true, ()) (awake _ _ hs) rfl fun w' hs => ⟨trivial, wp_lt ?_⟩
            exact wp_leave ⟨(true, ()), rfl, rfl, hs.tail⟩

end
end Go.Dec
