/- Dedup: DedupPlays. -/
import Derived.Test.YtcpmaccapgpgaaaGreatE4
import Derived.Test.YtcpmaccapgpgaaaGreatL5n
namespace Go.Dec
set_option linter.unusedVariables false
set_option linter.unusedSimpArgs false

section
variable {w : World} {l r : List HP} {t q : Nat} {A : TabA}
theorem some_c (most : Int) (hm : -9223372036854775808 ≤ most ∧ most < 9223372036854775808) (hs : Sat w l) : Ret P F.towpathlaw07_some #[.int .i64 most] w fun vs w' => ∃ k : Int, vs = [.int .i64 k] ∧ (1 ≤ k ∧ k ≤ 6) ∧ Sat w' l :=
  towpathlaw07_some_calls most <| by
    unfold towpathlaw07_some
    have h1 := Int.tmod_lt_of_pos most (show (0 : Int) < 6 by omega)
    have h2 : -6 < Int.tmod most 6 := by
      have h1 := Int.tmod_lt_of_pos (-most) (show (0 : Int) < 6 by omega)
      rw [Int.neg_tmod] at h1; omega
    generalize Int.tmod most 6 = m at *
    refine wp_lt ?_
    refine wp_mid (fun u w' => ∃ k : Int, u = (k, ()) ∧ (0 ≤ k ∧ k < 6) ∧ Sat w' l) ?_ ?_
    · refine wp_if (fun h => ?_) fun h => ?_
      · refine wp_ltw ?_
        exact wp_lv ⟨0 - m, rfl, by omega, hs⟩
      · exact wp_lv ⟨m, rfl, by omega, hs⟩
    clear hs
    rintro _ w ⟨k, rfl, hk, hs⟩
    refine wp_on ?_
    refine wp_ltw ?_
    exact ⟨rfl, k + 1, rfl, by omega, hs⟩

theorem plays7_law (most : Int) (hm : -9223372036854775808 ≤ most ∧ most < 9223372036854775808) (x : Sl) (ops : List OpI) [hx : FocR l x 10 (ops.flatMap encO)] (hlen : ops.length ≤ 9223372036854775807) (hops : ∀ o ∈ ops, OpJ l o) (hs : Sat w l) :
    Ret P F.towpathlaw07_DedupPlays #[.int .i64 most, x.v] w fun vs w' => vs = [.bool true] ∧ Sat w' l :=
  towpathlaw07_DedupPlays_calls most x <| by
    unfold towpathlaw07_DedupPlays
    have hl := hs.slen x (xs := ops) (enc := encO)
    refine wp_call (some_c most hm hs) fun _ w' h => ?_
    obtain ⟨m, rfl, hm1, hs⟩ := h
    refine ret_of ?_
    refine wp_lt ?_
    refine wp_call (tnew_c m hs) fun _ w' h => ?_
    obtain ⟨-, -, t, rfl, hs⟩ := h.resolve_right (fun h => by have := h.1; omega)
    refine ret_of ?_
    refine wp_lt ?_
    refine wp_boxO hs fun q w' hs => ?_
    have hs := dt_nil m hs
    have hs : Sat w' (tb t ⟨m, 0, []⟩ :: dtP q ⟨m, 0, []⟩ :: l) := hs.pick [1]
    refine wp_mid (fun u w' => u = (true, ()) ∧ Sat w' (tb t ⟨m, 0, []⟩ :: dtP q ⟨m, 0, []⟩ :: l)) ?_ ?_
    · refine wp_ifT ?_ (by simp)
      refine wp_call (same_c (ok_nil ⟨by omega, by omega⟩) (by simp) hs) fun _ _ hs => ?_
      obtain ⟨rfl, hs⟩ := hs
      refine ret_of ?_
      refine wp_lt ?_
      exact wp_lv ⟨rfl, hs⟩
    clear hs
    rintro _ w ⟨rfl, hs⟩
    refine wp_on ?_
    refine wp_mid (fun u w' => u = (true, ()) ∧ Sat w' l) ?_ ?_
    rotate_left
    · rintro _ w' ⟨rfl, hs⟩
      refine wp_on ?_
      refine wp_mid (fun u w' => u = (true, ()) ∧ Sat w' l) ?_ (by rintro _ w' ⟨rfl, hs⟩; refine wp_on ?_; exact ⟨rfl, rfl, hs⟩)
      refine wp_ifT ?_ trivial
      refine wp_call (awake7 hs) fun _ _ hs => ?_
      obtain ⟨rfl, hs⟩ := hs
      refine ret_of ?_
      refine wp_lt ?_
      exact wp_lv ⟨rfl, hs⟩
    refine wp_loop (fun k u w => ∃ (i t : Nat) (A : TabA), u = (some ⟨t, 0, none⟩, true, (i : Int), ()) ∧ i ≤ ops.length ∧ ops.length - i = k ∧ A.most = m ∧ Sat w (tb t A :: dtP q A :: l)) ops.length
      ⟨0, t, _, rfl, by omega, rfl, rfl, hs⟩ ?_
    clear hs
    rintro k _ w ⟨i, t, A, rfl, hi, hk, hA, hs⟩
    refine wp_on ?_
    refine wp_if (fun hc => ?_) fun hc => ?_
    rotate_left
    · exact wp_pass (wp_lv ⟨rfl, hs.tail.tail⟩)
    have hil : i < ops.length := by omega
    have hin := hops _ (List.getElem_mem hil)
    have hR : FocR l ops[i].b.x 4 (ops[i].b.rs.flatMap encR) := ⟨hin.rd⟩
    refine wp_ixA hs (xs := ops) (enc := encO) i hil ?_
    refine wp_newO hs fun a24 w' hs => ?_
    refine wp_lt ?_
    refine wp_stG hs fun w' hs => ?_
    refine wp_if (fun h => ?_) fun h => ?_
    · exact wp_pass (wp_lv ⟨rfl, hs.tail.tail.tail⟩)
    refine wp_ldG hs ?_
    have hs : Sat w' (tb t A :: dtP q A :: l) := hs.tail
    refine wp_call (step_c ops[i] (by omega) hs) fun _ w' h => ?_
    obtain ⟨t', A', rfl, hA', hs⟩ := h
    refine ret_of ?_
    refine wp_lt ?_
    have hok' := tb_ok hs
    have hmany' := hok'.many
    refine wp_mid (fun u w' => u = (true, ()) ∧ Sat w' (tb t' A' :: dtP q A' :: l)) ?_ ?_
    · refine wp_ifT ?_ trivial
      refine wp_call (same_c hok' (by omega) hs) fun _ _ hs => ?_
      obtain ⟨rfl, hs⟩ := hs
      refine ret_of ?_
      refine wp_lt ?_
      exact wp_lv ⟨rfl, hs⟩
    clear hs
    rintro _ w ⟨rfl, hs⟩
    refine wp_on ?_
    refine wp_dn (us' := [.pointer (some ⟨t', 0, none⟩), .bool true, .int .i64 ((i + 1 : Nat) : Int)]) (by (try simp (disch := omega) only [w64]); first | rfl | (congr; omega)) ?_
    refine wp_lp (ops.length - (i + 1)) ?_
    exact ⟨i + 1, t', A', rfl, by omega, rfl, by rw [hA', hA], hs⟩
end
end Go.Dec
