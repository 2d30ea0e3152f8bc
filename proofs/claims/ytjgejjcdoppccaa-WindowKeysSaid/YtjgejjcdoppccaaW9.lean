/- Windows: Due at the law's example; the examples of 'awake'. -/
import Derived.Test.YtjgejjcdoppccaaW8
import Derived.Test.YtjgejjcdoppccaaW3
namespace Go.Dec
set_option linter.unusedVariables false
set_option linter.unusedSimpArgs false

section
variable {w : World} {l r : List HP}

def dueN (n : Nat) : List Int := (List.range n).map fun i : Nat => 5 + 5 * (i : Int)

theorem due_c (hs : Sat w l) : Ret P F.window_Due #[.int .i64 5, .int .i64 4, .int .i64 17, .int .i64 9] w fun vs w' => ∃ x : Sl, vs = [x.v, .bool false] ∧ Sat w' (ints x [5, 10, 15] :: l) :=
  window_Due_calls 5 4 17 9 <| by
    unfold window_Due
    refine wp_ite_f rfl ?_
    refine wp_lw (y := 4) rfl ?_
    refine wp_lw (y := 17) rfl ?_
    refine wp_lw (y := 9) rfl ?_
    refine wp_ite_f rfl ?_
    refine wp_mid (fun v w' => v = (5, ()) ∧ Sat w' l) ?_ ?_
    · refine wp_ite_t rfl ?_
      refine wp_tick fun w2 hw => ?_
      have hs := hs.heap hw
      refine wp_must (by decide) (wp_must (by decide) (wp_untick ?_))
      refine wp_ite_f (by decide) ?_
      refine wp_must (by decide) ?_
      exact wp_lw (y := 5) (by decide) (wp_leave ⟨(5, ()), rfl, rfl, hs⟩)
    clear hs
    rintro _ w ⟨rfl, hs⟩
    refine wp_loop (fun n v w => ∃ (x : Sl) (i : Nat), v = (5 + 5 * (i : Int), x, ()) ∧ i < 3 ∧ 3 - i = n ∧ Sat w (ints x (dueN i) :: l)) 3 ⟨⟨none, 0, 0⟩, 0, rfl, by omega, rfl, hs.slc_nil⟩ ?_
    clear hs
    rintro n _ w ⟨x, i, rfl, hi, hn, hs⟩
    have hl : x.len = i := by
      have := hs.rd.len (enc := fun n : Int => [Value.int .i64 n]) int_len (by decide)
      rw [this]; simp [dueN]
    refine wp_ite_f ?_ ?_
    · dsimp only; rw [hl]; exact decide_eq_false (by omega)
    have hlen : (dueN i).length = i := by simp [dueN]
    refine wp_apE (enc := fun n : Int => [Value.int .i64 n]) (y := 5 + 5 * (i : Int)) int_len (by decide) hs (ps := #[(0, .int .i64 (5 + 5 * (i : Int)))]) (bs1 rfl (by decide) (by decide)) rfl (int_one _) (by omega) (by omega) (fun z w' hs => ⟨trivial, ?_⟩) fun _ _ => trivial
    have hd : dueN i ++ [5 + 5 * (i : Int)] = dueN (i + 1) := by simp [dueN, List.range_succ]
    rw [hd] at hs
    have e : IntKind.wrap .i64 (17 - (5 + 5 * (i : Int))) = 12 - 5 * (i : Int) := by rw [w64 (by omega) (by omega)]; omega
    refine wp_ite (fun hc => ?_) fun hc => ?_
    · have hc : (5 : Int) > IntKind.wrap .i64 (17 - (5 + 5 * (i : Int))) := of_decide_eq_true hc
      rw [e] at hc
      refine wp_pass ?_
      refine ⟨rfl, z, rfl, ?_⟩
      have : i = 2 := by omega
      subst this
      exact hs
    · have hc : ¬ (5 : Int) > IntKind.wrap .i64 (17 - (5 + 5 * (i : Int))) := of_decide_eq_false hc
      rw [e] at hc
      refine wp_lw (y := 5 + 5 * ((i + 1 : Nat) : Int)) (by dsimp only; rw [w64 (by omega) (by omega)]; omega) ?_
      exact wp_leave ⟨(5 + 5 * ((i + 1 : Nat) : Int), z, ()), 3 - (i + 1), by omega, rfl, z, i + 1, rfl, by omega, rfl, hs⟩

theorem sess_ex : sessF 5 [1, 20, 4, 9] = [(1, 9), (9, 14), (20, 25)] := by
  have h : [1, 4, 9, 20] = sortT [1, 20, 4, 9] := sortT_eq (by decide) (by decide)
  rw [sessF, ← h]; rfl
theorem hop_ex : hopL 17 10 5 = [(10, 20), (15, 25)] := rfl

theorem awake_c (hs : Sat w l) : Ret P F.towpathlaw21_awake #[] w fun vs w' => vs = [.bool true] ∧ Sat w' l :=
  towpathlaw21_awake_calls <| by
    unfold towpathlaw21_awake
    refine wp_callS (15, 20, 0, ()) (tum_c 17 5 hs) rfl fun w' hs => ⟨trivial, ?_⟩
    refine wp_newZ hs fun b w' hs => ⟨trivial, ?_⟩
    refine wp_stA hs rfl rfl (by simp [Value.oneCell']) fun w' hs => ⟨trivial, ?_⟩
    refine wp_lt ?_
    refine wp_call (hop_c 17 10 5 hs) fun vs w' h => ?_
    rw [if_pos (by decide), hop_ex] at h
    obtain ⟨l5, rfl, hs⟩ := h
    refine ⟨(l5, 0, ()), rfl, trivial, wp_lt ?_⟩
    refine wp_bs (el := T.int64) (cells := #[.int .i64 1, .int .i64 20, .int .i64 4, .int .i64 9]) (by kernel_rfl) hs fun c w' hs => ?_
    have hs : Sat w' (ints ⟨some ⟨c, 0, none⟩, 4, 4⟩ [1, 20, 4, 9] :: _) := hs.slc_of rfl
    refine wp_call (session_c 5 _ [1, 20, 4, 9] (by decide) (fun w h => h.rd) hs) fun vs w' h => ?_
    rw [sess_ex] at h
    obtain ⟨l9, rfl, hs⟩ := h
    refine ⟨(l9, ()), rfl, trivial, ?_⟩
    refine wp_callS (keyS 18 (ByteArray.mk #[97, 98]), 0, ()) (key_c 18 (ByteArray.mk #[97, 98]) hs) rfl fun w' hs => ⟨trivial, ?_⟩
    refine wp_lt (wp_lt ?_)
    refine wp_call (due_c hs) fun vs w' h => ?_
    obtain ⟨l14, rfl, hs⟩ := h
    refine ⟨(l14, false, ()), rfl, trivial, wp_lt ?_⟩
    have n5 : l5.len = 2 := (hs.focS l5).rd.len (enc := encS) encS_len (by decide)
    have n9 : l9.len = 3 := (hs.focS l9).rd.len (enc := encS) encS_len (by decide)
    have n14 : l14.len = 3 := hs.rd.len (enc := fun n : Int => [Value.int .i64 n]) int_len (by decide)
    obtain ⟨a5, h5, e5⟩ := (hs.focS l5).rd.el (enc := encS) encS_len (by omega)
    obtain ⟨a9, h9, e9⟩ := (hs.focS l9).rd.el (enc := encS) encS_len (by omega)
    obtain ⟨a14, h14, e14⟩ := hs.rd.el (enc := fun n : Int => [Value.int .i64 n]) int_len (by omega)
    refine wp_ldA (15, 20, ()) hs rfl rfl ?_
    refine wp_ex (a5, ()) (fun _ => ⟨by decide, by dsimp only; rw [n5]; decide, h5⟩) ?_
    refine wp_rd (p := .int .i64) (x := 10) (At.fld (e5 0 (by decide)) rfl) ?_
    refine wp_ex (a9, ()) (fun _ => ⟨by decide, by dsimp only; rw [n9]; decide, h9⟩) ?_
    refine wp_rd (p := .int .i64) (x := 9) (At.fld (e9 0 (by decide)) rfl) ?_
    refine wp_ex (a9, ()) (fun _ => ⟨by decide, by dsimp only; rw [n9]; decide, h9⟩) ?_
    refine wp_rd (p := .int .i64) (x := 20) (At.fld (e9 2 (by decide)) rfl) ?_
    refine wp_ex (a14, ()) (fun _ => ⟨by decide, by dsimp only; rw [n14]; decide, h14⟩) ?_
    refine wp_rd (p := .int .i64) (x := 15) (At.ld1 (e14 2 (by decide)) rfl) ?_
    refine wp_lt ?_
    refine ⟨rfl, ?_, ?_⟩
    · dsimp only; rw [n5, n9, n14]; kernel_rfl
    · exact (((((hs.tail).focS l9).tail).tail).focB b).perm (List.Perm.swap _ _ _) |>.tail.tail

theorem awake : Awake := fun _ _ hs => awake_c hs

end
end Go.Dec
