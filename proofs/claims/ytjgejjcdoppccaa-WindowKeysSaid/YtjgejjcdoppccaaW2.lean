/- Windows: Tumble, of both; the law of Tumble, but for the examples. -/
import Derived.Test.YtjgejjcdoppccaaW1
import Derived.Test.YtjgejjcdoppccaaOpsD
namespace Go.Dec
set_option linter.unusedVariables false
set_option linter.unusedSimpArgs false

section
variable {w : World} {l : List HP}

theorem isT_iff (t : Int) : isT t = true ↔ 0 ≤ t ∧ t ≤ 1099511627776 := by simp [isT]
theorem isSz_iff (t : Int) : isSz t = true ↔ 1 ≤ t ∧ t ≤ 1099511627776 := by simp [isSz]

theorem tmod_nn {t s : Int} (ht : 0 ≤ t) (hs : 1 ≤ s) : 0 ≤ t % s ∧ t % s < s ∧ t % s ≤ t ∧ Int.tmod t s = t % s := by
  have h1 := Int.emod_nonneg t (show s ≠ 0 by omega)
  have h2 := Int.emod_lt_of_pos t (show 0 < s by omega)
  have h3 : t % s ≤ t := by
    have h4 := Int.emod_add_mul_ediv t s
    have h5 : 0 ≤ s * (t / s) := Int.mul_nonneg (by omega) (Int.ediv_nonneg ht (by omega))
    omega
  exact ⟨h1, h2, h3, Int.tmod_eq_emod_of_nonneg ht⟩

/-- What both tell. -/
def tumF (t size : Int) : Int × Int × Int := if isT t && isSz size then (t - t % size, t - t % size + size, 0) else (0, 0, 2)

theorem tum_c (t size : Int) (hs : Sat w l) : Ret P F.window_Tumble #[.int .i64 t, .int .i64 size] w fun vs w' =>
    vs = [.agg #[.int .i64 (tumF t size).1, .int .i64 (tumF t size).2.1], .int .i64 (tumF t size).2.2] ∧ Sat w' l :=
  window_Tumble_calls t size <| by
    unfold window_Tumble
    refine wp_newZ hs fun b w' hs => ⟨trivial, ?_⟩
    refine wp_mid (fun x w' => x = (!(isT t && isSz size), ()) ∧ Sat w' (pt b (.cells #[.int .i64 0, .int .i64 0] T.window_Span) :: l)) ?_ ?_
    · refine wp_callS (isT t, ()) (isTime_c t hs) rfl fun w' hs => ⟨trivial, ?_⟩
      cases h1 : isT t with
      | false => exact wp_ite_t rfl (wp_leave ⟨_, rfl, rfl, hs⟩)
      | true =>
        refine wp_ite_f rfl ?_
        refine wp_callS (isSz size, ()) (sized_c size hs) rfl fun w' hs => ⟨trivial, ?_⟩
        exact wp_leave ⟨_, rfl, rfl, hs⟩
    · rintro _ w' ⟨rfl, hs⟩
      cases hok : isT t && isSz size with
      | false =>
        refine wp_ite_t rfl ?_
        refine wp_stA hs rfl rfl (by simp [Value.oneCell']) fun w' hs => ⟨trivial, ?_⟩
        refine wp_ldA (0, 0, ()) hs rfl rfl ?_
        exact ⟨rfl, by simp [tumF, hok], hs.tail⟩
      | true =>
        obtain ⟨h1, h2⟩ := Bool.and_eq_true_iff.1 hok
        rw [isT_iff] at h1
        rw [isSz_iff] at h2
        obtain ⟨m1, m2, m3, m4⟩ := tmod_nn h1.1 h2.1
        refine wp_ite_f rfl ?_
        refine wp_must (by omega) ?_
        refine wp_lt ?_
        rw [m4, w64 (by omega) (by omega), w64 (by omega) (by omega)]
        refine wp_stA hs rfl rfl (by simp [Value.oneCell']) fun w' hs => ⟨trivial, ?_⟩
        refine wp_ldA (t - t % size, t - t % size + size, ()) hs rfl rfl ?_
        exact ⟨rfl, by simp [tumF, hok], hs.tail⟩

theorem rtum_c (t size : Int) (hs : Sat w l) : Ret P F.towpathref21_Tumble #[.int .i64 t, .int .i64 size] w fun vs w' =>
    vs = [.agg #[.int .i64 (tumF t size).1, .int .i64 (tumF t size).2.1], .int .i64 (tumF t size).2.2] ∧ Sat w' l :=
  towpathref21_Tumble_calls t size <| by
    unfold towpathref21_Tumble
    refine wp_newZ hs fun b w' hs => ⟨trivial, ?_⟩
    refine wp_callS (isT t, ()) (rtime_c t hs) rfl fun w' hs => ⟨trivial, ?_⟩
    have e : (!isT t || decide (size < 1) || decide (size > 1099511627776)) = !(isT t && isSz size) := by
      cases isT t
      · simp
      · simp only [isSz, Bool.not_true, Bool.false_or, Bool.true_and, Bool.not_and]
        congr 1 <;> (rw [Bool.eq_iff_iff]; simp)
    show (Prog.ite (!isT t || decide (size < 1) || decide (size > 1099511627776)) _ _).wp P tt _ _
    rw [e]
    cases hok : isT t && isSz size with
    | false =>
      refine wp_ite_t rfl ?_
      refine wp_stA hs rfl rfl (by simp [Value.oneCell']) fun w' hs => ⟨trivial, ?_⟩
      refine wp_ldA (0, 0, ()) hs rfl rfl ?_
      exact ⟨rfl, by simp [tumF, hok], hs.tail⟩
    | true =>
      obtain ⟨h1, h2⟩ := Bool.and_eq_true_iff.1 hok
      rw [isT_iff] at h1
      rw [isSz_iff] at h2
      obtain ⟨m1, m2, m3, m4⟩ := tmod_nn h1.1 h2.1
      have hq : Int.tdiv t size * size = t - t % size := by
        rw [Int.tdiv_eq_ediv_of_nonneg h1.1]
        have := Int.emod_add_mul_ediv t size
        rw [Int.mul_comm]; omega
      have hq0 : 0 ≤ Int.tdiv t size ∧ Int.tdiv t size ≤ t := by
        rw [Int.tdiv_eq_ediv_of_nonneg h1.1]
        exact ⟨Int.ediv_nonneg h1.1 (by omega), Int.ediv_le_self _ h1.1⟩
      refine wp_ite_f rfl ?_
      refine wp_tick fun w2 hw => ?_
      have hs := hs.heap hw
      refine wp_must (by omega) (wp_must (by omega) ?_)
      rw [w64 (x := Int.tdiv t size) (by omega) (by omega), hq, w64 (by omega) (by omega), w64 (by omega) (by omega)]
      refine wp_stA hs rfl rfl (by simp [Value.oneCell']) fun w' hs => ⟨trivial, ?_⟩
      refine wp_untick ?_
      refine wp_ldA (t - t % size, t - t % size + size, ()) hs rfl rfl ?_
      exact ⟨rfl, by simp [tumF, hok], hs.tail⟩

end
end Go.Dec
