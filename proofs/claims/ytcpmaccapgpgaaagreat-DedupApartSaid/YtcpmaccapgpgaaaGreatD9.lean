/- Dedup: the law's same. -/
import Derived.Test.YtcpmaccapgpgaaaGreatD8
namespace Go.Dec
set_option linter.unusedVariables false
set_option linter.unusedSimpArgs false

section
variable {w : World} {l r r2 : List HP} {t q : Nat} {A : TabA}

theorem alike_c (y : RowA) (hs : Sat w l) : Ret P F.towpathlaw07_alike #[.agg (encW y).toArray, .agg (encW y).toArray] w fun vs w' => vs = [.bool true] ∧ Sat w' l :=
  towpathlaw07_alike_calls y.pid y.epoch y.seq y.count y.base y.frm y.time y.pid y.epoch y.seq y.count y.base y.frm y.time <| by
    unfold towpathlaw07_alike
    refine wp_boxO hs fun a0 w' hs => ?_
    refine wp_boxO hs fun a1 w' hs => ?_
    refine wp_ldO hs ?_
    refine wp_ldO hs ?_
    refine wp_ldO hs ?_
    refine wp_ldO hs ?_
    refine wp_ldO hs ?_
    refine wp_ldO hs ?_
    refine wp_ldO hs ?_
    refine wp_ldO hs ?_
    refine wp_ldO hs ?_
    refine wp_ldO hs ?_
    refine wp_ldO hs ?_
    refine wp_ldO hs ?_
    refine wp_ldO hs ?_
    refine wp_ldO hs ?_
    refine wp_lt ?_
    exact ⟨rfl, by simp, hs.tail.tail⟩

/-- A store of a whole element, told by its cells. -/
theorem rowsl_c (x y : Sl) (rs : List RowA) (hn : rs.length ≤ 1000000) [hf : FocS l x T.dedup_Row 7 (rs.flatMap encW) r] [hy : FocR r y 7 (rs.flatMap encW)] (hs : Sat w l) : Ret P F.towpathlaw07_rows #[x.v, y.v] w fun vs w' => vs = [.bool true] ∧ Sat w' r :=
  towpathlaw07_rows_calls x y <| by
    unfold towpathlaw07_rows
    have hs : Sat w (slc T.dedup_Row 7 x (rs.flatMap encW) :: r) := hs.focS x
    have hxl := hs.slen x (xs := rs) (enc := encW)
    have hyl := hs.slen y (xs := rs) (enc := encW)
    refine wp_ifF ?_ (by omega)
    refine wp_mid (fun _ w' => Sat w' r) ?_ (by rintro _ w' hs; refine wp_on ?_; exact ⟨rfl, rfl, hs⟩)
    refine wp_loop (fun k p w => ∃ (i : Nat) (us : List RowA), p = ((i : Int), ()) ∧ i ≤ rs.length ∧ rs.length - i = k ∧ us.length = rs.length ∧ us.drop i = rs.drop i ∧ Sat w (slc T.dedup_Row 7 x (us.flatMap encW) :: r)) rs.length ⟨0, rs, rfl, by omega, rfl, rfl, rfl, hs⟩ ?_
    clear hs
    rintro k _ w ⟨i, us, rfl, hi, hk, hul, hdr, hs⟩
    refine wp_on ?_
    refine wp_if (fun hc => ?_) fun hc => ?_
    rotate_left
    · exact wp_pass (wp_lv hs.tail)
    have hil : i < rs.length := by omega
    have hiu : i < us.length := by omega
    have hget : us[i] = rs[i] ∧ us.drop (i + 1) = rs.drop (i + 1) := by
      rw [List.drop_eq_getElem_cons hil, List.drop_eq_getElem_cons hiu, List.cons.injEq] at hdr
      exact hdr
    refine wp_lt ?_
    refine wp_tk hs fun w' hs => ?_
    refine wp_ixA hs (xs := us) (enc := encW) i hiu ?_
    refine wp_ixA hs (xs := rs) (enc := encW) i hil ?_
    rw [hget.1]
    refine wp_call (alike_c rs[i] hs) fun _ _ hs => ?_
    obtain ⟨rfl, hs⟩ := hs
    refine ret_of ?_
    refine wp_untick ?_
    refine wp_ifF ?_ (by simp)
    refine wp_ixSG (us := encW ⟨-1, 0, 0, 0, 0, 0, 0⟩) hs (xs := us) (enc := encW) i hiu (⟨-1, 0, 0, 0, 0, 0, 0⟩ : RowA) fun w' hs => ?_
    refine wp_dn (us' := [.int .i64 ((i + 1 : Nat) : Int)]) (by (try simp (disch := omega) only [w64]); first | rfl | (congr; omega)) ?_
    refine wp_lp (rs.length - (i + 1)) ?_
    refine ⟨i + 1, us.set i ⟨-1, 0, 0, 0, 0, 0, 0⟩, rfl, by omega, rfl, by rw [List.length_set, hul], ?_, hs⟩
    rw [List.drop_set_of_lt (by omega), hget.2]

theorem same_c (hok : okTb A) (h100 : A.rows.length ≤ 100) (hs : Sat w (tb t A :: dtP q A :: l)) : Ret P F.towpathlaw07_same #[.pointer (some ⟨t, 0, none⟩), .pointer (some ⟨q, 0, none⟩)] w fun vs w' => vs = [.bool true] ∧ Sat w' (tb t A :: dtP q A :: l) :=
  towpathlaw07_same_calls _ _ <| by
    unfold towpathlaw07_same
    have hol : (openS A.rows).length ≤ A.rows.length := by rw [(openS_perm _).length_eq]; exact List.length_filter_le _ _
    refine wp_mid (fun u w' => u = (false, ()) ∧ Sat w' (tb t A :: dtP q A :: l)) ?_ ?_
    · obtain ⟨x, hs⟩ := dt_open (hs.pick [1])
      refine wp_tk hs fun w' hs => ?_
      refine wp_nng ?_
      refine wp_hdO hs ?_
      refine wp_ifF ?_ (by simp)
      refine wp_call (trows_c (t := t) hs) fun _ w' h => ?_
      obtain ⟨y, rfl, hs⟩ := h
      refine ret_of ?_ ⟨trivial, fun _ => run_ldO hs⟩
      refine wp_untick ?_
      refine wp_call (rowsl_c y x A.rows (by omega) hs) fun _ w' hs => ?_
      obtain ⟨rfl, hs⟩ := hs
      refine ret_of ?_
      refine wp_ifF ?_ (by simp)
      have hs : Sat w' (tb t A :: dtP q A :: l) := (dt_mk A (hs.pick [1, 1])).pick [1]
      refine wp_call (topen_c (t := t) hs) fun _ w' h => ?_
      obtain ⟨y1, rfl, hs⟩ := h
      refine ret_of ?_
      refine wp_call (dopen_c (q := q) hok hs) fun _ w' h => ?_
      obtain ⟨y2, rfl, hs⟩ := h
      refine ret_of ?_
      have hs : Sat w' (slc T.dedup_Row 7 y1 ((openS A.rows).flatMap encW) :: slc T.towpathref07_Row 7 y2 ((openS A.rows).flatMap encW) :: tb t A :: dtP q A :: l) := hs.sub
      refine wp_call (rowsl_c y1 y2 (openS A.rows) (by omega) hs) fun _ w' hs => ?_
      obtain ⟨rfl, hs⟩ := hs
      refine ret_of ?_
      refine wp_ifF ?_ (by simp)
      refine wp_call (tstable_c (t := t) hs) fun _ w' hs => ?_
      obtain ⟨rfl, hs⟩ := hs
      refine ret_of ?_
      refine wp_call (dstable_c (q := q) hok hs) fun _ w' hs => ?_
      obtain ⟨rfl, hs⟩ := hs
      refine ret_of ?_
      obtain ⟨x, hs⟩ := dt_open hs
      refine wp_nng ?_
      refine wp_hdO hs ?_
      refine wp_ifF ?_ (by simp)
      refine wp_call (tnext_c (t := t) hs) fun _ w' hs => ?_
      obtain ⟨rfl, hs⟩ := hs
      refine ret_of ?_ ⟨trivial, fun _ => run_ldO hs⟩
      refine wp_untick ?_
      have hs : Sat w' (dtP q A :: _) := dt_mk A (hs.pick [1, 1])
      exact wp_lv ⟨by simp, hs.sub⟩
    clear hs
    rintro _ w ⟨rfl, hs⟩
    refine wp_on ?_
    refine wp_ifF ?_ (by simp)
    obtain ⟨x, hs⟩ := dt_open (hs.pick [1])
    have hxl := hs.slen x (xs := A.rows) (enc := encW)
    refine wp_nn ?_
    refine wp_ldO hs ?_
    have hs : Sat w (tb t A :: pt q (.cells #[.int .i64 A.most, .int .i64 A.next, .slice x.a x.len x.cap] T.towpathref07_Table) :: slc T.towpathref07_Row 7 x (A.rows.flatMap encW) :: l) := hs.sub
    refine wp_mid (fun _ w' => Sat w' (tb t A :: pt q (.cells #[.int .i64 A.most, .int .i64 A.next, .slice x.a x.len x.cap] T.towpathref07_Table) :: slc T.towpathref07_Row 7 x (A.rows.flatMap encW) :: l)) ?_ ?_
    · refine wp_loop (fun k p w => ∃ i : Nat, p = ((i : Int), ()) ∧ i ≤ A.rows.length ∧ A.rows.length - i = k ∧ Sat w (tb t A :: pt q (.cells #[.int .i64 A.most, .int .i64 A.next, .slice x.a x.len x.cap] T.towpathref07_Table) :: slc T.towpathref07_Row 7 x (A.rows.flatMap encW) :: l)) A.rows.length ⟨0, rfl, by omega, rfl, hs⟩ ?_
      clear hs
      rintro k _ w ⟨i, rfl, hi, hk, hs⟩
      refine wp_on ?_
      refine wp_if (fun hc => ?_) fun hc => ?_
      rotate_left
      · exact wp_pass (wp_lv hs)
      have hil : i < A.rows.length := by omega
      have hro : rowO A A.rows[i].pid = some A.rows[i] := by
        cases ho : rowO A A.rows[i].pid with
        | none => exact absurd rfl (rowO_none ho _ (List.getElem_mem hil))
        | some y =>
          obtain ⟨h1, h2⟩ := rowO_some ho
          rcases List.mem_cons.1 ((rest_perm h1 hok.byPid).mem_iff.1 (List.getElem_mem hil)) with h | h
          · rw [h]
          · have := (List.mem_filter.1 h).2
            simp [h2] at this
      refine wp_ixA hs (xs := A.rows) (enc := encW) i hil ?_
      generalize A.rows[i] = y at *
      refine wp_newO hs fun a28 w' hs => ?_
      refine wp_stG hs fun w' hs => ?_
      refine wp_ldO hs ?_
      have hz : rowZ A y.pid = y := by unfold rowZ; rw [hro]; rfl
      refine wp_call (tRow_c (t := t) y.pid hs) fun _ w' hs => ?_
      rw [hz, hro] at hs
      obtain ⟨rfl, hs⟩ := hs
      refine ret_of (x := (y.pid, y.epoch, y.seq, y.count, y.base, y.frm, y.time, true, ())) ?_
      refine wp_newO hs fun a38 w' hs => ?_
      refine wp_stG hs fun w' hs => ?_
      refine wp_lt ?_
      refine wp_mid (fun u w' => u = (false, ()) ∧ Sat w' (tb t A :: pt q (.cells #[.int .i64 A.most, .int .i64 A.next, .slice x.a x.len x.cap] T.towpathref07_Table) :: slc T.towpathref07_Row 7 x (A.rows.flatMap encW) :: l)) ?_ ?_
      · refine wp_ldG hs ?_
        refine wp_ldG hs ?_
        refine wp_ifF ?_ (by simp)
        refine wp_call (alike_c y hs) fun _ _ hs => ?_
        obtain ⟨rfl, hs⟩ := hs
        refine ret_of ?_
        exact wp_lv ⟨rfl, hs.sub⟩
      clear hs
      rintro _ w ⟨rfl, hs⟩
      refine wp_on ?_
      refine wp_ifF ?_ (by simp)
      refine wp_dn (us' := [.int .i64 ((i + 1 : Nat) : Int)]) (by (try simp (disch := omega) only [w64]); first | rfl | (congr; omega)) ?_
      refine wp_lp (A.rows.length - (i + 1)) ?_
      exact ⟨i + 1, rfl, by omega, rfl, hs⟩
    clear hs
    rintro _ w hs
    refine wp_on ?_
    have hno : rowO A (-3) = none := by
      cases ho : rowO A (-3) with
      | none => rfl
      | some y =>
        obtain ⟨h1, h2⟩ := rowO_some ho
        have := (hok.row y h1).pid; omega
    have hz : rowZ A (-3) = ⟨0, 0, 0, 0, 0, 0, 0⟩ := by unfold rowZ; rw [hno]; rfl
    refine wp_call (tRow_c (t := t) (-3) hs) fun _ w' hs => ?_
    rw [hz, hno] at hs
    obtain ⟨rfl, hs⟩ := hs
    refine ret_of (x := ((0 : Int), (0 : Int), (0 : Int), (0 : Int), (0 : Int), (0 : Int), (0 : Int), false, ())) ?_
    refine wp_newO hs fun a64 w' hs => ?_
    refine wp_stG hs fun w' hs => ?_
    refine wp_lt ?_
    have hs : Sat w' (pt q (.cells #[.int .i64 A.most, .int .i64 A.next, .slice x.a x.len x.cap] T.towpathref07_Table) :: slc T.towpathref07_Row 7 x (A.rows.flatMap encW) :: tb t A :: l) := hs.sub
    have hs := dt_mk A hs
    refine wp_mid (fun u w' => u = (true, ()) ∧ Sat w' (tb t A :: dtP q A :: l)) ?_ (by rintro _ w' ⟨rfl, hs⟩; refine wp_on ?_; exact ⟨rfl, rfl, hs⟩)
    refine wp_tk hs fun w' hs => ?_
    refine wp_ifT ?_ (by simp)
    refine wp_call (tbytes_c (t := t) h100 hs) fun _ w' h => ?_
    obtain ⟨z1, rfl, hs⟩ := h
    refine ret_of ?_
    refine wp_hold (p := .str) (x := (⟨(bytesT A).toArray⟩ : ByteArray)) (run_ofB hs) ?_
    refine wp_call (dbytes_c (q := q) hok h100 hs) fun _ w' h => ?_
    obtain ⟨z2, rfl, hs⟩ := h
    refine ret_of ?_ ⟨trivial, fun _ => run_ofB hs⟩
    refine wp_ofB hs (bs := bytesT A) ?_
    refine wp_lt ?_
    refine wp_untick ?_
    exact wp_lv ⟨by simp, hs.sub⟩
end
end Go.Dec
