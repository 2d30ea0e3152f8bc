/- Windows: the law of Tumble, given that the examples hold. -/
import Derived.Test.YtjgejjcdoppccaaW2
namespace Go.Dec
set_option linter.unusedVariables false
set_option linter.unusedSimpArgs false

/-- The examples hold. -/
def Awake : Prop := ∀ (w : World) (l : List HP), Sat w l → Ret P F.towpathlaw21_awake #[] w fun vs w' => vs = [.bool true] ∧ Sat w' l

section
variable {w : World} {l : List HP}

theorem tumF_pure {t size other : Int} (ht : (isT t && isSz size) = true) (ho : (isT other && isSz size) = true) :
    let s := tumF t size
    let o := tumF other size
    hasF s.1 s.2.1 t = true ∧ s.2.1 - s.1 = size ∧ s.1 % size = 0 ∧ 0 ≤ s.1 ∧
      ((s.1 == o.1 && s.2.1 == o.2.1) = hasF s.1 s.2.1 other) ∧ meetsF s.1 s.2.1 o.1 o.2.1 = (s.1 == o.1 && s.2.1 == o.2.1) := by
  have hsz : 1 ≤ size ∧ size ≤ 1099511627776 := (isSz_iff _).1 (Bool.and_eq_true_iff.1 ht).2
  have h1 := (isT_iff _).1 (Bool.and_eq_true_iff.1 ht).1
  have h2 := (isT_iff _).1 (Bool.and_eq_true_iff.1 ho).1
  obtain ⟨a1, a2, a3, -⟩ := tmod_nn h1.1 hsz.1
  obtain ⟨b1, b2, b3, -⟩ := tmod_nn h2.1 hsz.1
  have ha := Int.emod_add_mul_ediv t size
  have hb := Int.emod_add_mul_ediv other size
  generalize hq : t / size = q at ha
  generalize hr : other / size = r at hb
  simp only [tumF, ht, ho, if_true]
  generalize t % size = x at *
  generalize other % size = y at *
  have e1 : t - x = size * q := by omega
  have e2 : other - y = size * r := by omega
  have hcmp : q = r ∨ size * q + size ≤ size * r ∨ size * r + size ≤ size * q := by
    rcases Int.lt_trichotomy q r with h | h | h
    · right; left
      have := Int.mul_le_mul_of_nonneg_left (show q + 1 ≤ r by omega) (show 0 ≤ size by omega)
      rw [Int.mul_add, Int.mul_one] at this; omega
    · exact .inl h
    · right; right
      have := Int.mul_le_mul_of_nonneg_left (show r + 1 ≤ q by omega) (show 0 ≤ size by omega)
      rw [Int.mul_add, Int.mul_one] at this; omega
  refine ⟨?_, by omega, by rw [e1]; exact Int.mul_emod_right _ _, by omega, ?_, ?_⟩
  · simp [hasF]; omega
  · rw [Bool.eq_iff_iff]
    simp only [hasF, Bool.and_eq_true, beq_iff_eq, decide_eq_true_eq]
    rcases hcmp with h | h | h
    · subst h; omega
    · omega
    · omega
  · rw [Bool.eq_iff_iff]
    simp only [meetsF, Bool.and_eq_true, beq_iff_eq, decide_eq_true_eq]
    rcases hcmp with h | h | h
    · subst h; constructor <;> intro <;> (split at * <;> split at * <;> omega)
    · constructor <;> intro <;> (split at * <;> split at * <;> omega)
    · constructor <;> intro <;> (split at * <;> split at * <;> omega)

theorem tumbles_law (hawake : Awake) (t size other : Int) (hs : Sat w l) : Ret P F.towpathlaw21_WindowTumbles #[.int .i64 t, .int .i64 size, .int .i64 other] w fun vs w' => vs = [.bool true] ∧ Sat w' l :=
  towpathlaw21_WindowTumbles_calls t size other <| by
    unfold towpathlaw21_WindowTumbles
    refine wp_callS (_, _, _, ()) (tum_c t size hs) rfl fun w' hs => ⟨trivial, ?_⟩
    refine wp_newZ hs fun a3 w' hs => ⟨trivial, ?_⟩
    refine wp_stA hs rfl rfl (by simp [Value.oneCell']) fun w' hs => ⟨trivial, ?_⟩
    refine wp_lt ?_
    refine wp_callS (_, _, _, ()) (rtum_c t size hs) rfl fun w' hs => ⟨trivial, ?_⟩
    refine wp_newZ hs fun a8 w' hs => ⟨trivial, ?_⟩
    refine wp_stA hs rfl rfl (by simp [Value.oneCell']) fun w' hs => ⟨trivial, ?_⟩
    refine wp_lt ?_
    refine wp_ld hs rfl ?_
    refine wp_ld hs rfl ?_
    refine wp_ld hs rfl ?_
    refine wp_ld hs rfl ?_
    refine wp_ite_f (by simp) ?_
    refine wp_callS (_, _, _, ()) (tum_c other size hs) rfl fun w' hs => ⟨trivial, ?_⟩
    refine wp_newZ hs fun a17 w' hs => ⟨trivial, ?_⟩
    refine wp_stA hs rfl rfl (by simp [Value.oneCell']) fun w' hs => ⟨trivial, ?_⟩
    refine wp_lt ?_
    refine wp_ite (fun h => ?_) fun h => ?_
    · refine wp_callS (true, ()) (hawake _ _ hs) rfl fun w' hs => ⟨trivial, ?_⟩
      exact ⟨rfl, rfl, hs.tail.tail.tail⟩
    · have hok : (isT t && isSz size) = true := by
        cases h1 : isT t && isSz size
        · simp [tumF, h1] at h
        · rfl
      have hoo : (isT other && isSz size) = true := by
        cases h1 : isT other && isSz size
        · simp [tumF, h1] at h
        · rfl
      obtain ⟨p1, p2, p3, p4, p5, p6⟩ := tumF_pure hok hoo
      have hsz : 1 ≤ size ∧ size ≤ 1099511627776 := (isSz_iff _).1 (Bool.and_eq_true_iff.1 hok).2
      generalize (tumF t size).1 = s0 at *
      generalize (tumF t size).2.1 = s1 at *
      generalize (tumF other size).1 = o0 at *
      generalize (tumF other size).2.1 = o1 at *
      refine wp_ldA (s0, s1, ()) hs rfl rfl ?_
      refine wp_callS (_, ()) (has_c s0 s1 t hs) rfl fun w' hs => ⟨trivial, ?_⟩
      refine wp_ld hs rfl ?_
      refine wp_ld hs rfl ?_
      refine wp_ld hs rfl ?_
      refine wp_must (fun _ => by omega) ?_
      refine wp_ite_f ?_ ?_
      · show (!(hasF s0 s1 t) || IntKind.wrap .i64 (s1 - s0) != size || Int.tmod s0 size != 0) = false
        rw [p1, p2, w64 (by omega) (by omega), Int.tmod_eq_emod_of_nonneg p4, p3]
        simp
      · refine wp_mid (fun x w' => x = (true, ()) ∧ Sat w' l) ?_ ?_
        · refine wp_tick fun w2 hw => ?_
          have hs := hs.heap hw
          refine wp_hdA (s0, s1, ()) hs rfl rfl ?_
          refine wp_hdA (o0, o1, ()) hs rfl rfl ?_
          refine wp_ldA (s0, s1, ()) hs rfl rfl ?_
          refine wp_callS (_, ()) (has_c s0 s1 other hs) rfl fun w' hs => ⟨?_, ?_⟩
          · repeat' (first | exact trivial | exact run_ldAF hs rfl rfl | refine ⟨?_, fun _ => ?_⟩)
          refine wp_ldA (s0, s1, ()) hs rfl rfl ?_
          refine wp_ldA (o0, o1, ()) hs rfl rfl ?_
          refine wp_hdA (s0, s1, ()) hs rfl rfl ?_
          refine wp_hdA (o0, o1, ()) hs rfl rfl ?_
          refine wp_ite_t ?_ ?_
          · show ((s0 == o0 && s1 == o1) == hasF s0 s1 other) = true
            rw [p5]; simp
          refine wp_callS (_, ()) (meets_c s0 s1 o0 o1 hs) rfl fun w' hs => ⟨?_, ?_⟩
          · repeat' (first | exact trivial | exact run_ldAF hs rfl rfl | refine ⟨?_, fun _ => ?_⟩)
          refine wp_ite_t ?_ ?_
          · show (meetsF s0 s1 o0 o1 == (s0 == o0 && s1 == o1)) = true
            rw [p6]; simp
          refine wp_callS (true, ()) (hawake _ _ hs) rfl fun w' hs => ⟨trivial, ?_⟩
          refine wp_lt (wp_untick (wp_leave ⟨_, rfl, rfl, hs.tail.tail.tail⟩))
        · rintro _ w' ⟨rfl, hs⟩
          exact ⟨rfl, rfl, hs⟩

end
end Go.Dec
