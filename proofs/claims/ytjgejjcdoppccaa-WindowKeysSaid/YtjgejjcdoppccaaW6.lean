/- Windows: the document's Hop; spans compared. -/
import Derived.Test.YtjgejjcdoppccaaW5
namespace Go.Dec
set_option linter.unusedVariables false
set_option linter.unusedSimpArgs false

abbrev rspans (x : Sl) (xs : List (Int × Int)) : HP := slc T.towpathref21_Span 2 x (xs.flatMap encS)

section
variable {w : World} {l r : List HP}

theorem rhop_c (t size hop : Int) (hf : -9223372036854775808 ≤ hop ∧ hop < 9223372036854775808) (hs : Sat w l) : Ret P F.towpathref21_Hop #[.int .i64 t, .int .i64 size, .int .i64 hop] w fun vs w' =>
    if hopOk t size hop then ∃ x : Sl, vs = [x.v, .int .i64 0] ∧ Sat w' (rspans x (hopL t size hop) :: l) else vs = [.slice none 0 0, .int .i64 2] ∧ Sat w' l :=
  towpathref21_Hop_calls t size hop <| by
    unfold towpathref21_Hop
    refine wp_callS (_, ()) (rtime_c t hs) rfl fun w' hs => ⟨trivial, ?_⟩
    refine wp_must (fun h => ?_) ?_
    · have h : (!isT t || decide (size < 1) || decide (size > 1099511627776) || decide (hop < 1) || decide (hop > size)) = false := h
      simp at h; omega
    have key : (!isT t || decide (size < 1) || decide (size > 1099511627776) || decide (hop < 1) || decide (hop > size) || decide (IntKind.wrap .i64 (Int.tdiv (IntKind.wrap .i64 (IntKind.wrap .i64 (size + hop) - 1)) hop) > 1024)) = !hopOk t size hop := by
      simp only [hopOk, isSz]
      by_cases h0 : isT t = true
      · by_cases h1 : size < 1
        · simp [h0, h1]
        by_cases h2 : size > 1099511627776
        · simp [h0, h1, h2, show ¬ size ≤ 1099511627776 by omega]
        by_cases h3 : hop < 1
        · simp [h0, h1, h2, h3]
        by_cases h4 : hop > size
        · simp [h0, h1, h2, h3, h4]
        have e1 := Int.mul_ediv_add_emod (size + hop - 1) hop
        have e2 := Int.emod_nonneg (size + hop - 1) (b := hop) (by omega)
        have e3 := Int.emod_lt_of_pos (size + hop - 1) (b := hop) (by omega)
        have e4 : (size + hop - 1) / hop ≤ size + hop - 1 := Int.ediv_le_self _ (by omega)
        have e5 : 0 ≤ (size + hop - 1) / hop := Int.ediv_nonneg (by omega) (by omega)
        rw [w64 (x := size + hop) (by omega) (by omega), w64 (x := size + hop - 1) (by omega) (by omega), Int.tdiv_eq_ediv_of_nonneg (by omega)]
        rw [w64 (by omega) (by omega)]
        generalize (size + hop - 1) / hop = q at *
        by_cases h5 : q > 1024
        · have : 1025 * hop ≤ q * hop := Int.mul_le_mul_of_nonneg_right (by omega) (by omega)
          rw [Int.mul_comm] at e1
          simp [h0, h1, h2, h3, h4, h5]
          omega
        · have : q * hop ≤ 1024 * hop := Int.mul_le_mul_of_nonneg_right (by omega) (by omega)
          rw [Int.mul_comm] at e1
          simp [h0, h1, h2, h3, h4, h5]
          omega
      · simp [h0]
    refine wp_ite (fun h => ?_) fun h => ?_
    · have h : (!hopOk t size hop) = true := by rw [← key]; exact h
      simp only [Bool.not_eq_true'] at h
      rw [h]
      exact ⟨rfl, rfl, hs⟩
    · have h : (!hopOk t size hop) = false := by rw [← key]; exact h
      simp only [Bool.not_eq_false'] at h
      simp only [h, if_true]
      have hF := hopF_of h
      obtain ⟨k0, k1, k2, k3, k4, k5, k6⟩ := hF.lo
      obtain ⟨t0, t1, s0, s1, h0, h1, h2⟩ := hF
      refine wp_mid (fun v w' => v = (hopLo t size hop, ()) ∧ Sat w' l) ?_ ?_
      · refine wp_ite (fun hc => ?_) fun hc => ?_
        · have hc : t ≥ size := by simpa using hc
          refine wp_must (by omega) ?_
          have e4 : (t - size) / hop ≤ t - size := Int.ediv_le_self _ (by omega)
          have e5 : 0 ≤ (t - size) / hop := Int.ediv_nonneg (by omega) (by omega)
          refine wp_lw (y := hopLo t size hop) ?_ (wp_leave ⟨(_, ()), rfl, rfl, hs⟩)
          rw [w64 (x := t - size) (by omega) (by omega), Int.tdiv_eq_ediv_of_nonneg (by omega), w64 (x := (t - size) / hop) (by omega) (by omega), w64 (by omega) (by omega), hopLo, if_neg (by omega)]
        · have hc : t < size := by simpa using hc
          refine wp_leave ⟨(0, ()), rfl, ?_, hs⟩
          rw [hopLo, if_pos hc]
      · rintro _ w' ⟨rfl, hs⟩
        refine wp_lt ?_
        have hN : (hopN t size hop : Int) = t / hop + 1 - hopLo t size hop := by rw [hopN]; omega
        have hL : hopL t size hop = hopUp size hop (hopLo t size hop) (hopN t size hop) := rfl
        generalize t / hop = K at *
        generalize hlo : hopLo t size hop = lo at *
        generalize hopN t size hop = N at *
        refine wp_mid (fun v w' => ∃ x, v = (x, ()) ∧ Sat w' (rspans x (hopUp size hop lo N) :: l)) ?_ ?_
        · refine wp_loop (fun n v w => ∃ (x : Sl) (m : Nat), v = (x, lo + m, ()) ∧ m ≤ N ∧ N - m = n ∧ Sat w (rspans x (hopUp size hop lo m) :: l)) N ?_ ?_
          · exact ⟨⟨none, 0, 0⟩, 0, by simp, by omega, rfl, hs.slc_nil⟩
          · rintro n _ w ⟨x, m, rfl, hm, hn, hs⟩
            have hb : (lo + m) * hop ≤ (K + 1) * hop := Int.mul_le_mul_of_nonneg_right (by omega) (by omega)
            have hb' : 0 * hop ≤ (lo + m) * hop := Int.mul_le_mul_of_nonneg_right (by omega) (by omega)
            rw [Int.add_mul K] at hb
            have hw : IntKind.wrap .i64 ((lo + m) * hop) = (lo + m) * hop := w64 (by omega) (by omega)
            have hw' : IntKind.wrap .i64 ((lo + m) * hop + size) = (lo + m) * hop + size := w64 (by omega) (by omega)
            have hK : K ≤ K * hop := by
              have : K * 1 ≤ K * hop := Int.mul_le_mul_of_nonneg_left (by omega) (by omega)
              omega
            refine wp_ite (fun hc => ?_) fun hc => ?_
            · have hc : (decide (IntKind.wrap .i64 ((lo + m) * hop) ≤ t)) = true := hc
              simp only [hw, decide_eq_true_eq] at hc
              have hlt : m < N := by
                rcases Nat.lt_or_ge m N with h' | h'
                · exact h'
                · exfalso
                  have e : lo + (m : Int) = K + 1 := by omega
                  rw [e, Int.add_mul] at hc
                  omega
              refine wp_apE (enc := encS) (y := hopSp size hop (lo + m)) encS_len (by decide) hs (ps := #[(0, .agg #[.int .i64 (IntKind.wrap .i64 ((lo + m) * hop)), .int .i64 (IntKind.wrap .i64 (IntKind.wrap .i64 ((lo + m) * hop) + size))])]) (bs1 rfl (by decide) (by decide)) ?_ (encS_one _) ?_ ?_ ?_ fun _ _ => trivial
              · show [Value.int .i64 (IntKind.wrap .i64 ((lo + m) * hop)), .int .i64 (IntKind.wrap .i64 (IntKind.wrap .i64 ((lo + m) * hop) + size))] = _
                rw [hw, hw']; rfl
              · simp [hopUp]; omega
              · simp [hopUp]; omega
              · intro z w' hs
                refine ⟨trivial, ?_⟩
                refine wp_lw (y := lo + (m + 1 : Nat)) (by rw [w64 (by dsimp only; omega) (by dsimp only; omega)]; dsimp only; omega) ?_
                exact wp_leave ⟨(z, _, ()), N - (m + 1), by omega, rfl, z, m + 1, rfl, hlt, rfl, by rw [hopUp_succ]; exact hs⟩
            · have hc : (decide (IntKind.wrap .i64 ((lo + m) * hop) ≤ t)) = false := hc
              rw [hw] at hc
              have hge : m = N := by
                rcases Nat.lt_or_ge m N with h' | h'
                · exfalso
                  have e1 : (lo + m) * hop ≤ K * hop := Int.mul_le_mul_of_nonneg_right (by omega) (by omega)
                  simp at hc
                  omega
                · omega
              subst hge
              refine wp_pass ?_
              exact wp_leave ⟨(x, ()), rfl, x, rfl, hs⟩
        · rintro _ w' ⟨x, rfl, hs⟩
          exact ⟨rfl, x, rfl, by rw [hL]; exact hs⟩

theorem spans_c (x y : Sl) (xs ys : List (Int × Int)) (hlen : xs.length < 9223372036854775807) (hs : Sat w (spans x xs :: rspans y ys :: l)) : Ret P F.towpathlaw21_spans #[x.v, y.v] w fun vs w' => vs = [.bool (xs == ys)] ∧ Sat w' (spans x xs :: rspans y ys :: l) :=
  towpathlaw21_spans_calls x y <| by
    unfold towpathlaw21_spans
    have hx := slc_len encS_len (by decide) hs
    have hy := slc_len encS_len (by decide) (hs.focS y)
    rw [hx, hy]
    refine wp_ite (fun h => ?_) fun h => ?_
    · have h : ¬ ((xs.length : Int) = ys.length) := by simpa using h
      refine ⟨rfl, ?_, hs⟩
      have : (xs == ys) = false := by rw [beq_eq_false_iff_ne]; rintro rfl; exact h rfl
      rw [this]
    · have h : ((xs.length : Int) = ys.length) := by simpa using h
      have h : xs.length = ys.length := by omega
      refine wp_mid (fun _ w' => xs = ys ∧ Sat w' (spans x xs :: rspans y ys :: l)) ?_ ?_
      · refine wp_loop (fun n v w => ∃ i : Nat, v = (↑i, ()) ∧ i ≤ xs.length ∧ xs.length - i = n ∧ xs.take i = ys.take i ∧ Sat w (spans x xs :: rspans y ys :: l)) xs.length ⟨0, rfl, by omega, by omega, rfl, hs⟩ ?_
        rintro n _ w ⟨i, rfl, hi, hn, htk, hs⟩
        refine wp_ite (fun hc => ?_) fun hc => ?_
        · have hc : i < xs.length := by have : ((i : Int) < (xs.length : Int)) := of_decide_eq_true hc; omega
          refine wp_lt ?_
          refine wp_tick fun w2 hw => ?_
          have hs := hs.heap hw
          obtain ⟨a, ha, ea⟩ := hs.rd.el encS_len (by rw [hx]; omega)
          obtain ⟨b, hb, eb⟩ := (hs.focS y).rd.el encS_len (by rw [hy]; omega)
          have e1 := ea i hc
          have e2 := eb i (by omega)
          obtain ⟨⟨x0, x1⟩, hx0⟩ : ∃ z, z = xs[i] := ⟨_, rfl⟩
          obtain ⟨⟨y0, y1⟩, hy0⟩ : ∃ z, z = ys[i] := ⟨_, rfl⟩
          rw [← hx0] at e1
          rw [← hy0] at e2
          refine wp_ex (a, ()) ⟨by dsimp only; omega, by dsimp only; omega, ha⟩ ?_
          refine wp_rd (p := .int .i64) (x := x0) (At.fld e1 rfl) ?_
          refine wp_ex (b, ()) ⟨by dsimp only; omega, by dsimp only; omega, hb⟩ ?_
          refine wp_rd (p := .int .i64) (x := y0) (At.fld e2 rfl) ?_
          refine wp_ex (a, ()) (fun _ => ⟨by dsimp only; omega, by dsimp only; omega, ha⟩) ?_
          refine wp_rd (p := .int .i64) (x := x1) (At.fld e1 rfl) ?_
          refine wp_ex (b, ()) (fun _ => ⟨by dsimp only; omega, by dsimp only; omega, hb⟩) ?_
          refine wp_rd (p := .int .i64) (x := y1) (At.fld e2 rfl) ?_
          refine wp_untick ?_
          have hget : ∀ zs : List (Int × Int), ∀ hz : i < zs.length, zs.take (i + 1) = zs.take i ++ [zs[i]] := fun zs hz => by rw [List.take_add_one, List.getElem?_eq_getElem hz]; rfl
          refine wp_ite (fun hc2 => ?_) fun hc2 => ?_
          · have hc2 : (x0 != y0 || x1 != y1) = true := hc2
            refine wp_pass (wp_pass (wp_done ⟨rfl, ?_, hs⟩))
            have : (xs == ys) = false := by
              rw [beq_eq_false_iff_ne]
              rintro rfl
              rw [← hx0] at hy0
              obtain ⟨rfl, rfl⟩ := Prod.mk.inj hy0
              simp at hc2
            rw [this]
          · have hc2 : (x0 != y0 || x1 != y1) = false := hc2
            have hc2 : x0 = y0 ∧ x1 = y1 := by simpa using hc2
            have hnx : IntKind.wrap .i64 ((i : Int) + 1) = (i + 1 : Nat) := by rw [w64 (by omega) (by omega)]; rfl
            refine wp_dn (us' := [.int .i64 ((i + 1 : Nat) : Int)]) (by dsimp only; rw [hnx]) ?_
            exact wp_leave ⟨(((i + 1 : Nat) : Int), ()), xs.length - (i + 1), by omega, rfl, i + 1, rfl, by omega, rfl, by rw [hget xs hc, hget ys (by omega), htk, ← hx0, ← hy0, hc2.1, hc2.2], hs⟩
        · have hc : xs.length ≤ i := by have : ¬ ((i : Int) < (xs.length : Int)) := of_decide_eq_false hc; omega
          refine wp_pass ?_
          refine wp_leave ⟨(), rfl, ?_, hs⟩
          rwa [List.take_of_length_le hc, List.take_of_length_le (by omega)] at htk
      · rintro _ w' ⟨rfl, hs⟩
        exact ⟨rfl, by simp, hs⟩

end
end Go.Dec
