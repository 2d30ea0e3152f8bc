/- Dedup: Rows, Open, Stable, Expire. -/
import Derived.Test.YtcpmaccapgpgaaaGreatD4
import Derived.Test.YtcpmaccapgpgaaaGreatSortInt
import Derived.Test.YtcpmaccapgpgaaaGreatOpsW
namespace Go.Dec
set_option linter.unusedVariables false
set_option linter.unusedSimpArgs false

def openS (rs : List RowA) : List RowA := (openR rs).mergeSort fun a b => decide (a.frm ≤ b.frm)
def stableT (A : TabA) : Int := match openS A.rows with
  | [] => A.next
  | x :: _ => x.frm
theorem openS_perm (rs : List RowA) : (openS rs).Perm (openR rs) := List.mergeSort_perm _ _
theorem openS_sorted {A : TabA} (hok : okTb A) : (openS A.rows).Pairwise fun a b => a.frm < b.frm := by
  have h1 : (openS A.rows).Pairwise fun a b => decide (a.frm ≤ b.frm) = true := List.pairwise_mergeSort (fun a b c h1 h2 => by simp only [decide_eq_true_eq] at *; omega) (fun a b => by simp only [Bool.or_eq_true, decide_eq_true_eq]; omega) _
  have h2 : (openS A.rows).Pairwise fun a b => a.frm ≠ b.frm := (List.Perm.pairwise_iff (fun {x y} h => Ne.symm h) (openS_perm _)).2 hok.apart
  exact (h1.and h2).imp fun {a b} h => by have := of_decide_eq_true h.1; have := h.2; omega
def goneL (time : Int) (rs : List RowA) : List Int := (rs.filter fun r => decide (r.frm < 0 ∧ r.time < time)).map (·.pid)
def leftL (time : Int) (rs : List RowA) : List RowA := rs.filter fun r => !decide (r.frm < 0 ∧ r.time < time)

section
variable {w : World} {l r r1 r2 l' : List HP} {t : Nat} {A : TabA}

theorem values_c (m : Nat) (hs : Sat w l) : Ret P F.maps_Values_map_int64_dedup_Row_int64_dedup_Row #[.map (some m)] w fun vs w' => ∃ B, vs = [.func (.func F.maps_Values_map_int64_dedup_Row_int64_dedup_Row_1) #[] #[.pointer (some ⟨B, 0, none⟩)]] ∧ Sat w' (pt B (.cells #[.map (some m)] T.m_int64_dedup_Row) :: l) :=
  maps_Values_map_int64_dedup_Row_int64_dedup_Row_calls (some m) <| by
    unfold maps_Values_map_int64_dedup_Row_int64_dedup_Row
    refine wp_boxO hs fun a0 w' hs => ?_
    exact ⟨rfl, a0, rfl, hs⟩

theorem trows_c [hf : Fo l tb t A r] (hs : Sat w l) : Ret P F.dedup_Table_Rows #[.pointer (some ⟨t, 0, none⟩)] w fun vs w' => ∃ z : Sl, vs = [z.v] ∧ Sat w' (slc T.dedup_Row 7 z (A.rows.flatMap encW) :: tb t A :: r) :=
  dedup_Table_Rows_calls _ <| by
    unfold dedup_Table_Rows
    obtain ⟨m, hok, hs⟩ := tb_open (hs.perm hf.perm)
    have hmany := hok.many'
    refine wp_ifF ?_ (by simp)
    refine wp_nn ?_
    refine wp_ldO hs ?_
    refine wp_call (values_c m hs) fun _ w' h => ?_
    obtain ⟨B, rfl, hs⟩ := h
    refine ret_of ?_
    refine wp_call (collect_c B m (keyed A.rows) T.m_int64_dedup_Row (by unfold keyed; rw [List.length_map]; omega) (hs.pick [0, 1])) fun _ w' h => ?_
    obtain ⟨x, xs, rfl, hp, hs⟩ := h
    rw [keyed_snd] at hp
    refine ret_of ?_
    have hlen := hp.length_eq
    refine wp_call (sortFW_c cmp_dedup_Table_Rows_1 x xs (by omega) hs) fun _ w' h => ?_
    obtain ⟨rfl, ys, hp', hso, hs⟩ := h
    refine ret_of ?_
    rw [sorted_eqW (f := RowA.pid) (hp'.trans hp) hso hok.byPid] at hs
    have hs : Sat _ (tb t A :: slc T.dedup_Row 7 x (A.rows.flatMap encW) :: r) := tb_close m hok hs
    exact ⟨rfl, x, rfl, hs.pick [1]⟩

theorem topen_c [hf : Fo l tb t A r] (hs : Sat w l) : Ret P F.dedup_Table_Open #[.pointer (some ⟨t, 0, none⟩)] w fun vs w' => ∃ z : Sl, vs = [z.v] ∧ Sat w' (slc T.dedup_Row 7 z ((openS A.rows).flatMap encW) :: tb t A :: r) :=
  dedup_Table_Open_calls _ <| by
    unfold dedup_Table_Open
    have hok := tb_ok (hs.perm hf.perm)
    have hmany := hok.many'
    refine wp_call (trows_c hs) fun _ w' h => ?_
    obtain ⟨x, rfl, hs⟩ := h
    refine ret_of ?_
    have hl := hs.slen x (xs := A.rows) (enc := encW)
    refine wp_mid (fun v w' => ∃ z : Sl, v = (z, ()) ∧ Sat w' (slc T.dedup_Row 7 z ((openR A.rows).flatMap encW) :: tb t A :: r)) ?_ ?_
    · refine wp_loop (fun k v w => ∃ (z : Sl) (i : Nat), v = (z, (i : Int), ()) ∧ i ≤ A.rows.length ∧ A.rows.length - i = k ∧ Sat w (slc T.dedup_Row 7 z ((openR (A.rows.take i)).flatMap encW) :: slc T.dedup_Row 7 x (A.rows.flatMap encW) :: tb t A :: r)) A.rows.length
        ⟨⟨none, 0, 0⟩, 0, rfl, by omega, rfl, hs.slc_nil⟩ ?_
      clear hs
      rintro k _ w ⟨z, i, rfl, hi, hk, hs⟩
      refine wp_on ?_
      refine wp_if (fun hc => ?_) fun hc => ?_
      rotate_left
      · refine wp_pass (wp_lv ⟨z, rfl, ?_⟩)
        rw [List.take_of_length_le (by omega)] at hs
        exact hs.sub
      have hil : i < A.rows.length := by omega
      refine wp_ixA hs i hil ?_
      refine wp_newO hs fun c w' hs => ?_
      refine wp_stG hs fun w' hs => ?_
      refine wp_ldG hs ?_
      refine wp_call (ropen_c A.rows[i] hs) fun _ _ hs => ?_
      obtain ⟨rfl, hs⟩ := hs
      refine ret_of ?_
      have htk : (openR (A.rows.take i)).length ≤ i := Nat.le_trans (List.length_filter_le _ _) (by rw [List.length_take]; omega)
      have hstep : openR (A.rows.take (i + 1)) = if 0 ≤ A.rows[i].frm then openR (A.rows.take i) ++ [A.rows[i]] else openR (A.rows.take i) := by
        rw [List.take_succ_eq_append_getElem hil]
        unfold openR
        rw [List.filter_append]
        split <;> simp [*]
      refine wp_mid (fun v w' => ∃ z : Sl, v = (z, ()) ∧ Sat w' (slc T.dedup_Row 7 z ((openR (A.rows.take (i + 1))).flatMap encW) :: slc T.dedup_Row 7 x (A.rows.flatMap encW) :: tb t A :: r)) ?_ ?_
      · refine wp_if (fun h => ?_) fun h => ?_
        · refine wp_ldG hs ?_
          refine wp_ap0 hs (xs := openR (A.rows.take i)) (enc := encW) A.rows[i] (fun z w' hs => ?_)
          rw [hstep, if_pos h]
          exact wp_lv ⟨z, rfl, hs.sub⟩
        · rw [hstep, if_neg h]
          exact wp_lv ⟨z, rfl, hs.sub⟩
      clear hs
      rintro _ w ⟨z, rfl, hs⟩
      refine wp_on ?_
      refine wp_dn (us' := [z.v, .int .i64 ((i + 1 : Nat) : Int)]) (by (try simp (disch := omega) only [w64]); first | rfl | (congr; omega)) ?_
      refine wp_lp (A.rows.length - (i + 1)) ?_
      exact ⟨z, i + 1, rfl, by omega, rfl, hs⟩
    clear hs
    rintro _ w ⟨z, rfl, hs⟩
    refine wp_on ?_
    have hlen : (openR A.rows).length ≤ A.rows.length := List.length_filter_le _ _
    refine wp_call (sortFW_c cmp_dedup_Table_Open_1 z (openR A.rows) (by omega) hs) fun _ w' h => ?_
    obtain ⟨rfl, ys, hp', hso, hs⟩ := h
    refine ret_of ?_
    rw [sorted_eqW (f := RowA.frm) (hp'.trans (openS_perm _).symm) hso (openS_sorted hok)] at hs
    exact ⟨rfl, z, rfl, hs⟩

theorem tstable_c [hf : Fo l tb t A r] (hs : Sat w l) : Ret P F.dedup_Table_Stable #[.pointer (some ⟨t, 0, none⟩)] w fun vs w' => vs = [.int .i64 (stableT A)] ∧ Sat w' (tb t A :: r) :=
  dedup_Table_Stable_calls _ <| by
    unfold dedup_Table_Stable stableT
    refine wp_call (topen_c hs) fun _ w' h => ?_
    obtain ⟨x, rfl, hs⟩ := h
    refine ret_of ?_
    have hl := hs.slen x (xs := openS A.rows) (enc := encW)
    generalize openS A.rows = os at *
    cases os with
    | nil =>
      refine wp_ifF ?_ (by simp only [List.length_nil] at hl; omega)
      refine wp_call (tnext_c hs) fun _ _ hs => ?_
      obtain ⟨rfl, hs⟩ := hs
      refine ret_of ?_
      refine wp_lt ?_
      exact ⟨rfl, rfl, hs.sub⟩
    | cons y os =>
      refine wp_ifT ?_ (by simp only [List.length_cons] at hl; omega)
      refine wp_ixF0 hs (xs := y :: os) (enc := encW) 0 (by simp) ?_
      refine wp_lt ?_
      exact ⟨rfl, rfl, hs.sub⟩
end
end Go.Dec
