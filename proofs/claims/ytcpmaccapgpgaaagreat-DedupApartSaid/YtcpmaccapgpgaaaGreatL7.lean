/- Dedup: DedupApart. -/
import Derived.Test.YtcpmaccapgpgaaaGreatL6
import Derived.Test.YtcpmaccapgpgaaaGreatM3
namespace Go.Dec
set_option linter.unusedVariables false
set_option linter.unusedSimpArgs false

section
variable {w : World} {l r : List HP} {t q : Nat} {A : TabA}
theorem tcopy_c [hf : Fo l tb t A r] (hs : Sat w l) : Ret P F.dedup_Table_Copy #[.pointer (some ⟨t, 0, none⟩)] w fun vs w' => ∃ u : Nat, vs = [.pointer (some ⟨u, 0, none⟩)] ∧ Sat w' (tb u A :: tb t A :: r) :=
  dedup_Table_Copy_calls _ <| by
    unfold dedup_Table_Copy
    obtain ⟨m, hok, hs⟩ := tb_open (hs.perm hf.perm)
    refine wp_ifF ?_ (by simp)
    refine wp_mid (fun v w' => ∃ u : Nat, v = (some ⟨u, 0, none⟩, ()) ∧ Sat w' (tb u A :: tb t A :: r)) ?_ (by rintro _ w' ⟨u, rfl, hs⟩; refine wp_on ?_; exact ⟨rfl, u, rfl, hs⟩)
    refine wp_tk hs fun w' hs => ?_
    refine wp_nn ?_
    refine wp_hdO hs ?_
    refine wp_nn ?_
    refine wp_hdO hs ?_
    refine wp_nn ?_
    refine wp_ldO hs ?_
    refine wp_call (mclone_c m (keyed A.rows) (hs.pick [1])) fun _ w' h => ?_
    obtain ⟨m', rfl, hs⟩ := h
    refine ret_of ?_ ⟨⟨trivial, fun _ => run_ldO hs⟩, fun _ => run_ldO hs⟩
    refine wp_untick ?_
    refine wp_boxO hs fun u w' hs => ?_
    refine wp_untick ?_
    refine wp_lv ⟨u, rfl, ?_⟩
    have hs : Sat w' (pt u (.cells #[.int .i64 A.most, .int .i64 A.next, .map (some m')] T.dedup_Table) :: mapP ekI evW m' (keyed A.rows) :: mapP ekI evW m (keyed A.rows) :: pt t (.cells #[.int .i64 A.most, .int .i64 A.next, .map (some m)] T.dedup_Table) :: r) := hs
    have hs := tb_mk m' hok hs
    have hs := tb_mk m hok (hs.pick [2, 1])
    exact hs.pick [1]

theorem dcopy_c (hmany : A.rows.length ≤ 4096) [hf : Fo l dtP q A r] (hs : Sat w l) : Ret P F.towpathref07_Table_Copy #[.pointer (some ⟨q, 0, none⟩)] w fun vs w' => ∃ u : Nat, vs = [.pointer (some ⟨u, 0, none⟩)] ∧ Sat w' (dtP u A :: dtP q A :: r) :=
  towpathref07_Table_Copy_calls _ <| by
    unfold towpathref07_Table_Copy
    obtain ⟨x, hs⟩ := dt_open (hs.perm hf.perm)
    refine wp_tk hs fun w' hs => ?_
    refine wp_nn ?_
    refine wp_ldO hs ?_
    refine wp_nn ?_
    refine wp_ldO hs ?_
    refine wp_boxO hs fun u w' hs => ?_
    refine wp_untick ?_
    have hs : Sat w' (slc T.towpathref07_Row 7 ⟨none, 0, 0⟩ (([] : List RowA).flatMap encW) :: pt u (.cells #[.int .i64 A.most, .int .i64 A.next, .slice none 0 0] T.towpathref07_Table) :: pt q (.cells #[.int .i64 A.most, .int .i64 A.next, .slice x.a x.len x.cap] T.towpathref07_Table) :: slc T.towpathref07_Row 7 x (A.rows.flatMap encW) :: r) := hs.slc_nil
    refine wp_mid (fun _ w' => Sat w' (dtP u A :: dtP q A :: r)) ?_ (by rintro _ w' hs; refine wp_on ?_; exact ⟨rfl, u, rfl, hs⟩)
    refine wp_tk hs fun w' hs => ?_
    refine wp_ldO (x := (⟨none, 0, 0⟩ : Sl)) hs ?_
    refine wp_nn ?_
    refine wp_ldO hs ?_
    refine wp_app' (x := ⟨none, 0, 0⟩) (xs := []) (ys := A.rows) (enc := encW) (y := x) hs (fun z w' hs => ?_) (by simp; omega)
    rw [List.nil_append] at hs
    refine wp_stO hs fun w' hs => ?_
    refine wp_untick ?_
    refine wp_lv ?_
    have hs : Sat w' (pt u (.cells #[.int .i64 A.most, .int .i64 A.next, .slice z.a z.len z.cap] T.towpathref07_Table) :: slc T.towpathref07_Row 7 z (A.rows.flatMap encW) :: pt q (.cells #[.int .i64 A.most, .int .i64 A.next, .slice x.a x.len x.cap] T.towpathref07_Table) :: slc T.towpathref07_Row 7 x (A.rows.flatMap encW) :: r) := hs
    have hs := dt_mk A hs
    exact (dt_mk A (hs.pick [1, 1])).pick [1]

theorem apart7_law (x y z : Sl) (ops on off : List OpI) [hx : FocR l x 10 (ops.flatMap encO)] [hy : FocR l y 10 (on.flatMap encO)] [hz : FocR l z 10 (off.flatMap encO)]
    (hlen : ops.length ≤ 9223372036854775807) (hlen2 : on.length ≤ 9223372036854775807) (hlen3 : off.length ≤ 9223372036854775807) (hops : ∀ o ∈ ops, OpJ l o) (hon : ∀ o ∈ on, OpJ l o) (hoff : ∀ o ∈ off, OpJ l o) (hs : Sat w l) :
    Ret P F.towpathlaw07_DedupApart #[x.v, y.v, z.v] w fun vs w' => vs = [.bool true] ∧ Sat w' l :=
  towpathlaw07_DedupApart_calls x y z <| by
    unfold towpathlaw07_DedupApart
    have hl := hs.slen x (xs := ops) (enc := encO)
    have hl2 := hs.slen y (xs := on) (enc := encO)
    have hl3 := hs.slen z (xs := off) (enc := encO)
    refine wp_call (tnew_c 6 hs) fun _ w' h => ?_
    obtain ⟨-, -, t, rfl, hs⟩ := h.resolve_right (fun h => by have := h.1; omega)
    refine ret_of ?_
    refine wp_lt ?_
    refine wp_boxO hs fun q w' hs => ?_
    have hs := dt_nil 6 hs
    have hs : Sat w' (tb t ⟨6, 0, []⟩ :: dtP q ⟨6, 0, []⟩ :: l) := hs.pick [1]
    refine wp_lt ?_
    refine wp_mid (fun u w' => ∃ (t : Nat) (A : TabA), u = (some ⟨t, 0, none⟩, true, ()) ∧ A.most = 6 ∧ Sat w' (tb t A :: dtP q A :: l)) ?_ ?_
    · refine wp_loop (fun k u w => ∃ (i t : Nat) (A : TabA), u = (some ⟨t, 0, none⟩, true, (i : Int), ()) ∧ i ≤ ops.length ∧ ops.length - i = k ∧ A.most = 6 ∧ Sat w (tb t A :: dtP q A :: l)) ops.length
        ⟨0, t, _, rfl, by omega, rfl, rfl, hs⟩ ?_
      clear hs
      rintro k _ w ⟨i, t, A, rfl, hi, hk, hA, hs⟩
      refine wp_on ?_
      refine wp_if (fun hc => ?_) fun hc => ?_
      rotate_left
      · exact wp_pass (wp_lv ⟨t, A, rfl, hA, hs⟩)
      have hil : i < ops.length := by omega
      have hin := hops _ (List.getElem_mem hil)
      have hR : FocR l ops[i].b.x 4 (ops[i].b.rs.flatMap encR) := ⟨hin.rd⟩
      refine wp_ixA hs (xs := ops) (enc := encO) i hil ?_
      refine wp_call (step_c ops[i] (by omega) hs) fun _ w' h => ?_
      obtain ⟨t', A', rfl, hA', hs⟩ := h
      refine ret_of ?_
      refine wp_lt ?_
      refine wp_ltx (y := ((i + 1 : Nat) : Int)) ?_ (by rw [w64 (by omega) (by omega)]; omega)
      refine wp_lp (ops.length - (i + 1)) ?_
      exact ⟨i + 1, t', A', rfl, by omega, rfl, by rw [hA', hA], hs⟩
    clear hs
    rintro _ w ⟨t, A, rfl, hA, hs⟩
    refine wp_on ?_
    have hok := tb_ok hs
    have hmany := hok.many
    refine wp_ifF ?_ (by simp)
    refine wp_call (tcopy_c (t := t) hs) fun _ w' h => ?_
    obtain ⟨t2, rfl, hs⟩ := h
    refine ret_of ?_
    refine wp_call (dcopy_c (q := q) (by omega) hs) fun _ w' h => ?_
    obtain ⟨q2, rfl, hs⟩ := h
    refine ret_of ?_
    have hs : Sat w' (tb t A :: dtP q A :: tb t2 A :: dtP q2 A :: l) := hs.sub
    refine wp_mid (fun u w' => u = (true, ()) ∧ Sat w' l) ?_ ?_
    rotate_left
    · rintro _ w' ⟨rfl, hs⟩
      refine wp_on ?_
      refine wp_mid (fun u w' => u = (true, ()) ∧ Sat w' l) ?_ (by rintro _ w' ⟨rfl, hs⟩; refine wp_on ?_; exact ⟨rfl, rfl, hs⟩)
      refine wp_ifT ?_ trivial
      refine wp_call (awake7 hs) fun _ _ hs => ?_
      obtain ⟨rfl, hs⟩ := hs
      refine ret_of ?_
      refine wp_lt ?_
      exact wp_lv ⟨rfl, hs⟩
    refine wp_loop (fun k u w => ∃ (i t t2 : Nat) (A B : TabA), u = (some ⟨t, 0, none⟩, true, some ⟨t2, 0, none⟩, (i : Int), ()) ∧ i ≤ 20 ∧ 20 - i = k ∧ A.most = 6 ∧ B.most = 6 ∧ Sat w (tb t A :: dtP q A :: tb t2 B :: dtP q2 B :: l)) 20
      ⟨0, t, t2, A, A, rfl, by omega, rfl, hA, hA, hs⟩ ?_
    clear hs hok hmany hA
    rintro k _ w ⟨i, t, t2, A, B, rfl, hi, hk, hA, hB, hs⟩
    refine wp_on ?_
    refine wp_if (fun hc => ?_) fun hc => ?_
    rotate_left
    · exact wp_pass (wp_lv ⟨rfl, hs.tail.tail.tail.tail⟩)
    refine wp_mid (fun u w' => ∃ (t : Nat) (A : TabA), u = (some ⟨t, 0, none⟩, true, ()) ∧ A.most = 6 ∧ Sat w' (tb t A :: dtP q A :: tb t2 B :: dtP q2 B :: l)) ?_ ?_
    · refine wp_if (fun h => ?_) fun h => ?_
      · have hil : i < on.length := by omega
        have hin := hon _ (List.getElem_mem hil)
        have hR : FocR l on[i].b.x 4 (on[i].b.rs.flatMap encR) := ⟨hin.rd⟩
        refine wp_ixA hs (xs := on) (enc := encO) i hil ?_
        refine wp_call (step_c on[i] (by omega) hs) fun _ w' h => ?_
        obtain ⟨t', A', rfl, hA', hs⟩ := h
        refine ret_of ?_
        refine wp_lt ?_
        exact wp_lv ⟨t', A', rfl, by rw [hA', hA], hs⟩
      · exact wp_lv ⟨t, A, rfl, hA, hs⟩
    clear hs hA
    rintro _ w ⟨t, A, rfl, hA, hs⟩
    refine wp_on ?_
    refine wp_mid (fun u w' => ∃ (t2 : Nat) (B : TabA), u = (true, some ⟨t2, 0, none⟩, ()) ∧ B.most = 6 ∧ Sat w' (tb t A :: dtP q A :: tb t2 B :: dtP q2 B :: l)) ?_ ?_
    · refine wp_if (fun h => ?_) fun h => ?_
      · have hil : i < off.length := by omega
        have hin := hoff _ (List.getElem_mem hil)
        have hR : FocR l off[i].b.x 4 (off[i].b.rs.flatMap encR) := ⟨hin.rd⟩
        refine wp_ixA hs (xs := off) (enc := encO) i hil ?_
        have hs : Sat w (tb t2 B :: dtP q2 B :: tb t A :: dtP q A :: l) := hs.pick [2, 2]
        refine wp_call (step_c off[i] (by omega) hs) fun _ w' h => ?_
        obtain ⟨t', B', rfl, hB', hs⟩ := h
        refine ret_of ?_
        refine wp_lt ?_
        exact wp_lv ⟨t', B', rfl, by rw [hB', hB], hs.pick [2, 2]⟩
      · exact wp_lv ⟨t2, B, rfl, hB, hs⟩
    clear hs hB
    rintro _ w ⟨t2, B, rfl, hB, hs⟩
    refine wp_on ?_
    have hokA := tb_ok hs
    have hokB := tb_ok (hs.pick [2])
    have hmA := hokA.many
    have hmB := hokB.many
    refine wp_mid (fun u w' => u = (true, ()) ∧ Sat w' (tb t A :: dtP q A :: tb t2 B :: dtP q2 B :: l)) ?_ ?_
    · refine wp_ifT ?_ trivial
      refine wp_call (same_c hokA (by omega) hs) fun _ _ hs => ?_
      obtain ⟨rfl, hs⟩ := hs
      refine ret_of ?_
      refine wp_ifT ?_ trivial
      have hs : Sat _ (tb t2 B :: dtP q2 B :: tb t A :: dtP q A :: l) := hs.pick [2, 2]
      refine wp_call (same_c hokB (by omega) hs) fun _ _ hs => ?_
      obtain ⟨rfl, hs⟩ := hs
      refine ret_of ?_
      refine wp_lt ?_
      exact wp_lv ⟨rfl, hs.pick [2, 2]⟩
    clear hs
    rintro _ w ⟨rfl, hs⟩
    refine wp_on ?_
    refine wp_ltx (y := ((i + 1 : Nat) : Int)) ?_ (by rw [w64 (by omega) (by omega)]; omega)
    refine wp_lp (20 - (i + 1)) ?_
    exact ⟨i + 1, t, t2, A, B, rfl, by omega, rfl, hA, hB, hs⟩
end
end Go.Dec
