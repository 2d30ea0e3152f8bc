/- Dedup: DedupNews. -/
import Derived.Test.YtcpmaccapgpgaaaD9
namespace Go.Dec
set_option linter.unusedVariables false
set_option linter.unusedSimpArgs false

theorem ok_nil {most : Int} (h : 1 ≤ most ∧ most ≤ 4096) : okTb ⟨most, 0, []⟩ := ⟨h, by show (0 : Int) ≤ 0 ∧ (0 : Int) ≤ _; omega, by show (0 : Int) ≤ most; omega, by simp, by simp, by simp [openR]⟩
theorem body_nil (most : Int) : bodyT ⟨most, 0, []⟩ = [0, 0] := by kernel_rfl

section
variable {w : World} {l r r2 : List HP} {t q : Nat} {A : TabA}
/-- The document's empty table. -/
theorem dt_nil (most : Int) (hs : Sat w (pt q (.cells #[.int .i64 most, .int .i64 0, .slice none 0 0] T.towpathref07_Table) :: l)) : Sat w (dtP q ⟨most, 0, []⟩ :: l) := by
  have hs : Sat w (slc T.towpathref07_Row 7 ⟨none, 0, 0⟩ (([] : List RowA).flatMap encW) :: pt q (.cells #[.int .i64 most, .int .i64 0, .slice none 0 0] T.towpathref07_Table) :: l) := hs.slc_nil
  exact dt_mk (x := ⟨none, 0, 0⟩) ⟨most, 0, []⟩ (hs.pick [1, 0])

theorem news7_law (most : Int) (hm : -9223372036854775808 ≤ most ∧ most < 9223372036854775808) (hs : Sat w l) : Ret P F.towpathlaw07_DedupNews #[.int .i64 most] w fun vs w' => vs = [.bool true] ∧ Sat w' l :=
  towpathlaw07_DedupNews_calls most <| by
    unfold towpathlaw07_DedupNews
    refine wp_call (tnew_c most hs) fun _ w' h => ?_
    rcases h with ⟨h1, h2, t, rfl, hs⟩ | ⟨h1, rfl, hs⟩
    · refine ret_of ?_
      refine wp_lt ?_
      refine wp_litx hs (enc := encU) [0, 0] fun x w' hs => ?_
      refine wp_call (dseal_c x [0, 0] (by decide) hs) fun _ _ hs => ?_
      obtain ⟨z, rfl, hs⟩ := hs
      refine ret_of ?_
      have hok := ok_nil ⟨h1, h2⟩
      have e : sealL [0, 0] = bytesT ⟨most, 0, []⟩ := by unfold bytesT; rw [body_nil]
      rw [e] at hs
      have hcap := hs.slc_cap
      refine wp_call (tload_c (A := ⟨most, 0, []⟩) z hok (by simp) hcap hs) fun _ w' h => ?_
      obtain ⟨u, rfl, hs⟩ := h
      refine ret_of ?_
      refine wp_lt ?_
      refine wp_ifF ?_ (by omega)
      refine wp_boxO hs fun q w' hs => ?_
      have hs := dt_nil most hs
      refine wp_mid (fun v w' => v = (true, ()) ∧ Sat w' l) ?_ (by rintro _ w' ⟨rfl, hs⟩; refine wp_on ?_; exact ⟨rfl, rfl, hs⟩)
      refine wp_ifT ?_ (by simp)
      have hs : Sat w' (tb t ⟨most, 0, []⟩ :: dtP q ⟨most, 0, []⟩ :: tb u ⟨most, 0, []⟩ :: l) := hs.sub
      refine wp_call (same_c hok (by simp) hs) fun _ _ hs => ?_
      obtain ⟨rfl, hs⟩ := hs
      refine ret_of ?_
      refine wp_ifT ?_ trivial
      have hs : Sat _ (tb u ⟨most, 0, []⟩ :: dtP q ⟨most, 0, []⟩ :: tb t ⟨most, 0, []⟩ :: l) := hs.sub
      refine wp_call (same_c hok (by simp) hs) fun _ _ hs => ?_
      obtain ⟨rfl, hs⟩ := hs
      refine ret_of ?_
      refine wp_ifT ?_ trivial
      refine wp_call (awake7 hs) fun _ _ hs => ?_
      obtain ⟨rfl, hs⟩ := hs
      refine ret_of ?_
      refine wp_lt ?_
      exact wp_lv ⟨rfl, hs.sub⟩
    · refine ret_of ?_
      refine wp_lt ?_
      refine wp_litx hs (enc := encU) [0, 0] fun x w' hs => ?_
      refine wp_call (dseal_c x [0, 0] (by decide) hs) fun _ _ hs => ?_
      obtain ⟨z, rfl, hs⟩ := hs
      refine ret_of ?_
      refine wp_call (tload_bad z most h1 hs) fun _ _ hs => ?_
      obtain ⟨rfl, hs⟩ := hs
      refine ret_of ?_
      refine wp_lt ?_
      refine wp_ifT ?_ (by omega)
      refine wp_mid (fun v w' => v = (true, ()) ∧ Sat w' l) ?_ (by rintro _ w' ⟨rfl, hs⟩; refine wp_on ?_; exact ⟨rfl, rfl, hs⟩)
      refine wp_ifT ?_ (by simp)
      refine wp_call (awake7 hs) fun _ _ hs => ?_
      obtain ⟨rfl, hs⟩ := hs
      refine ret_of ?_
      refine wp_lt ?_
      exact wp_lv ⟨rfl, hs.sub⟩
end
end Go.Dec
