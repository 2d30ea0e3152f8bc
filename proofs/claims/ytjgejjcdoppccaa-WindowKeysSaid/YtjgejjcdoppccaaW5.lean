/- Windows: Hop. -/
import Derived.Test.YtjgejjcdoppccaaW4
namespace Go.Dec
set_option linter.unusedVariables false
set_option linter.unusedSimpArgs false

def hopOk (t size hop : Int) : Bool := isT t && isSz size && decide (1 ≤ hop) && decide (hop ≤ size) && decide (size ≤ 1024 * hop)
/-- The first span that a time is in, by its number. -/
def hopLo (t size hop : Int) : Int := if t < size then 0 else (t - size) / hop + 1
def hopSp (size hop k : Int) : Int × Int := (k * hop, k * hop + size)
def hopUp (size hop lo : Int) (n : Nat) : List (Int × Int) := (List.range n).map fun i : Nat => hopSp size hop (lo + i)
def hopDn (size hop hi : Int) (n : Nat) : List (Int × Int) := (List.range n).map fun i : Nat => hopSp size hop (hi - i)
def hopN (t size hop : Int) : Nat := (t / hop + 1 - hopLo t size hop).toNat
def hopL (t size hop : Int) : List (Int × Int) := hopUp size hop (hopLo t size hop) (hopN t size hop)

theorem hopUp_succ (size hop lo : Int) (n : Nat) : hopUp size hop lo (n + 1) = hopUp size hop lo n ++ [hopSp size hop (lo + n)] := by simp [hopUp, List.range_succ]
theorem hopDn_succ (size hop lo : Int) (n : Nat) : hopDn size hop lo (n + 1) = hopDn size hop lo n ++ [hopSp size hop (lo - n)] := by simp [hopDn, List.range_succ]
theorem hopDn_rev (size hop hi : Int) (n : Nat) : (hopDn size hop hi n).reverse = hopUp size hop (hi + 1 - n) n := by
  apply List.ext_getElem?
  intro i
  by_cases h : i < n
  · rw [List.getElem?_reverse (by simp [hopDn]; exact h)]
    simp only [hopDn, hopUp, List.length_map, List.length_range, List.getElem?_map]
    rw [List.getElem?_range (by omega), List.getElem?_range h]
    simp only [Option.map_some, Option.some.injEq]
    congr 1; omega
  · rw [List.getElem?_eq_none (by simp [hopDn]; omega), List.getElem?_eq_none (by simp [hopUp]; omega)]

structure HopF (t size hop : Int) : Prop where
  t0 : 0 ≤ t
  t1 : t ≤ 1099511627776
  s0 : 1 ≤ size
  s1 : size ≤ 1099511627776
  h0 : 1 ≤ hop
  h1 : hop ≤ size
  h2 : size ≤ 1024 * hop

theorem hopF_of {t size hop : Int} (h : hopOk t size hop = true) : HopF t size hop := by
  simp [hopOk, isT, isSz] at h
  constructor <;> omega

/-- What the numbers of the spans are. -/
theorem HopF.lo {t size hop : Int} (h : HopF t size hop) : 0 ≤ hopLo t size hop ∧ hopLo t size hop ≤ t / hop ∧ t / hop - hopLo t size hop < 1025 ∧ t / hop * hop ≤ t ∧ t < t / hop * hop + hop ∧
    (hopLo t size hop * hop + size > t) ∧ (0 < hopLo t size hop → (hopLo t size hop - 1) * hop + size ≤ t) := by
  obtain ⟨t0, t1, s0, s1, h0, h1, h2⟩ := h
  have e1 := Int.mul_ediv_add_emod t hop
  have e2 := Int.emod_nonneg t (b := hop) (by omega)
  have e3 := Int.emod_lt_of_pos t (b := hop) (by omega)
  rw [Int.mul_comm] at e1
  have q0 : 0 ≤ t / hop := Int.ediv_nonneg t0 (by omega)
  unfold hopLo
  split
  · refine ⟨Int.le_refl _, q0, ?_, by omega, by omega, by omega, by omega⟩
    have : t / hop < 1024 := Int.ediv_lt_of_lt_mul (by omega) (by omega)
    omega
  · have f1 := Int.mul_ediv_add_emod (t - size) hop
    have f2 := Int.emod_nonneg (t - size) (b := hop) (by omega)
    have f3 := Int.emod_lt_of_pos (t - size) (b := hop) (by omega)
    rw [Int.mul_comm] at f1
    have q1 : 0 ≤ (t - size) / hop := Int.ediv_nonneg (by omega) (by omega)
    generalize (t - size) / hop = a at *
    generalize t / hop = b at *
    have g1 : a + 1 ≤ b := by
      have : a * hop < b * hop := by omega
      have := Int.lt_of_mul_lt_mul_right this (by omega)
      omega
    have g2 : b - a ≤ 1024 := by
      have : (b - a) * hop < (1024 + 1) * hop := by rw [Int.sub_mul, Int.add_mul]; omega
      have := Int.lt_of_mul_lt_mul_right this (by omega)
      omega
    refine ⟨by omega, g1, by omega, by omega, by omega, ?_, ?_⟩
    · rw [Int.add_mul]; omega
    · intro _; rw [Int.add_sub_cancel]; omega

section
variable {w : World} {l r : List HP}

theorem hop_c (t size hop : Int) (hs : Sat w l) : Ret P F.window_Hop #[.int .i64 t, .int .i64 size, .int .i64 hop] w fun vs w' =>
    if hopOk t size hop then ∃ x : Sl, vs = [x.v, .int .i64 0] ∧ Sat w' (spans x (hopL t size hop) :: l) else vs = [.slice none 0 0, .int .i64 2] ∧ Sat w' l :=
  window_Hop_calls t size hop <| by
    unfold window_Hop
    refine wp_mid (fun v w' => v = (!hopOk t size hop, ()) ∧ Sat w' l) ?_ ?_
    · refine wp_callS (_, ()) (isTime_c t hs) rfl fun w' hs => ⟨trivial, ?_⟩
      refine wp_ite (fun h => wp_leave ⟨(true, ()), rfl, ?_, hs⟩) fun h => ?_
      · have h : (!isT t) = true := h
        simp only [Bool.not_eq_true'] at h
        simp [hopOk, h]
      · have h : (!isT t) = false := h
        simp only [Bool.not_eq_false'] at h
        refine wp_callS (_, ()) (sized_c size hs) rfl fun w' hs => ⟨trivial, ?_⟩
        refine wp_leave ⟨(_, ()), rfl, ?_, hs⟩
        show ((!isSz size || decide (hop < 1) || decide (hop > size) || decide (size > IntKind.wrap .i64 (1024 * hop))), ()) = _
        congr 1
        simp only [hopOk, h, Bool.true_and]
        by_cases h1 : isSz size = true
        · have h1' := h1
          simp only [isSz, Bool.and_eq_true, decide_eq_true_eq] at h1'
          by_cases h2 : hop < 1
          · simp [h1, h2]
          · by_cases h3 : hop > size
            · simp [h1, h3]
            · rw [w64 (by omega) (by omega)]
              by_cases h4 : size > 1024 * hop
              · simp [h1, h2, h3, h4]
              · simp [h1, h2, h3, h4]
                omega
        · simp [h1]
    · rintro _ w' ⟨rfl, hs⟩
      refine wp_ite (fun h => ?_) fun h => ?_
      · have h : (!hopOk t size hop) = true := h
        simp only [Bool.not_eq_true'] at h
        rw [h]
        exact ⟨rfl, rfl, hs⟩
      · have h : (!hopOk t size hop) = false := h
        simp only [Bool.not_eq_false'] at h
        simp only [h, if_true]
        have hF := hopF_of h
        obtain ⟨k0, k1, k2, k3, k4, k5, k6⟩ := hF.lo
        obtain ⟨t0, t1, s0, s1, h0, h1, h2⟩ := hF
        generalize hK : t / hop = K at *
        have hN : hopN t size hop = (K + 1 - hopLo t size hop).toNat := by rw [hopN, hK]
        generalize hlo : hopLo t size hop = lo at *
        have hNK : (hopN t size hop : Int) = K + 1 - lo := by omega
        have hL : hopL t size hop = hopUp size hop lo (hopN t size hop) := by rw [hopL, hlo]
        generalize hopN t size hop = N at *
        refine wp_must (by omega) ?_
        refine wp_lw (y := K * hop) ?_ ?_
        · have : Int.tmod t hop = t - K * hop := by rw [Int.tmod_eq_emod_of_nonneg t0]; have := Int.mul_ediv_add_emod t hop; rw [hK, Int.mul_comm] at this; omega
          rw [this, w64] <;> omega
        refine wp_mid (fun v w' => ∃ x, v = (x, ()) ∧ Sat w' (spans x (hopDn size hop K N) :: l)) ?_ ?_
        · refine wp_loop (fun n v w => ∃ (x : Sl) (m : Nat), v = (x, (K - m) * hop, ()) ∧ m ≤ N ∧ N - m = n ∧ Sat w (spans x (hopDn size hop K m) :: l)) N ?_ ?_
          · exact ⟨⟨none, 0, 0⟩, 0, by simp, by omega, rfl, hs.slc_nil⟩
          · rintro n _ w ⟨x, m, rfl, hm, hn, hs⟩
            have hb : (K - m) * hop ≤ K * hop := Int.mul_le_mul_of_nonneg_right (by omega) (by omega)
            have hb' : -1 * hop ≤ (K - m) * hop := Int.mul_le_mul_of_nonneg_right (by omega) (by omega)
            refine wp_ite (fun hc => ?_) fun hc => ?_
            · have hc : (decide ((K - m) * hop ≥ 0) && decide (IntKind.wrap .i64 ((K - m) * hop + size) > t)) = true := hc
              simp only [Bool.and_eq_true, decide_eq_true_eq] at hc
              rw [w64 (by omega) (by omega)] at hc
              have hlt : m < N := by
                rcases Nat.lt_or_ge m N with h' | h'
                · exact h'
                · exfalso
                  have e : K - (m : Int) = lo - 1 := by omega
                  rw [e] at hc
                  by_cases hl0 : 0 < lo
                  · have := k6 hl0; omega
                  · have : lo - 1 = -1 := by omega
                    rw [this] at hc; omega
              refine wp_apE (enc := encS) (y := hopSp size hop (K - m)) encS_len (by decide) hs (ps := #[(0, .agg #[.int .i64 ((K - m) * hop), .int .i64 (IntKind.wrap .i64 ((K - m) * hop + size))])]) (bs1 rfl (by decide) (by decide)) ?_ (encS_one _) ?_ ?_ ?_ fun _ _ => trivial
              · show [Value.int .i64 ((K - m) * hop), .int .i64 (IntKind.wrap .i64 ((K - m) * hop + size))] = _
                rw [w64 (by omega) (by omega)]; rfl
              · simp [hopDn]; omega
              · simp [hopDn]; omega
              · intro z w' hs
                refine ⟨trivial, ?_⟩
                refine wp_lw (y := (K - (m + 1 : Nat)) * hop) ?_ ?_
                · have e : (K - (m + 1 : Nat)) * hop = (K - m) * hop - hop := by
                    rw [show K - ((m + 1 : Nat) : Int) = K - m - 1 by omega, Int.sub_mul (K - m), Int.one_mul]
                  rw [e]
                  exact w64 (by dsimp only; omega) (by dsimp only; omega)
                · exact wp_leave ⟨(z, _, ()), N - (m + 1), by omega, rfl, z, m + 1, rfl, hlt, rfl, by rw [hopDn_succ]; exact hs⟩
            · have hc : (decide ((K - m) * hop ≥ 0) && decide (IntKind.wrap .i64 ((K - m) * hop + size) > t)) = false := hc
              rw [w64 (by omega) (by omega)] at hc
              have hge : m = N := by
                rcases Nat.lt_or_ge m N with h' | h'
                · exfalso
                  have e1 : 0 * hop ≤ (K - m) * hop := Int.mul_le_mul_of_nonneg_right (by omega) (by omega)
                  have e2 : lo * hop ≤ (K - m) * hop := Int.mul_le_mul_of_nonneg_right (by omega) (by omega)
                  simp at hc
                  omega
                · omega
              subst hge
              refine wp_pass ?_
              exact wp_leave ⟨(x, ()), rfl, x, rfl, hs⟩
        · rintro _ w' ⟨x, rfl, hs⟩
          refine wp_callS () (reverse_c x _ (by simp [hopDn]; omega) hs) rfl fun w' hs => ⟨trivial, ?_⟩
          refine ⟨rfl, x, rfl, ?_⟩
          rw [hL]
          rw [hopDn_rev, show K + 1 - N = lo by omega] at hs
          exact hs

end
end Go.Dec
