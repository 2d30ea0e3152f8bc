/- Dedup: the document's table; Open, Stable. -/
import Derived.Test.YtcpmaccapgpgaaaGreatL2
import Derived.Test.YtcpmaccapgpgaaaGreatWr5
import Derived.Test.YtcpmaccapgpgaaaGreatFr3
namespace Go.Dec
set_option linter.unusedVariables false
set_option linter.unusedSimpArgs false

def dtP (q : Nat) (A : TabA) : HP := HP.ex fun x : Sl => HP.star (pt q (.cells #[.int .i64 A.most, .int .i64 A.next, .slice x.a x.len x.cap] T.towpathref07_Table)) (slc T.towpathref07_Row 7 x (A.rows.flatMap encW))

section
variable {w : World} {l r : List HP} {q : Nat} {A : TabA}
theorem dt_open (hs : Sat w (dtP q A :: l)) : ∃ x : Sl, Sat w (pt q (.cells #[.int .i64 A.most, .int .i64 A.next, .slice x.a x.len x.cap] T.towpathref07_Table) :: slc T.towpathref07_Row 7 x (A.rows.flatMap encW) :: l) := by
  obtain ⟨x, hs⟩ := hs.ex
  exact ⟨x, hs.star⟩
theorem dt_mk {x : Sl} (A : TabA) (hs : Sat w (pt q (.cells #[.int .i64 A.most, .int .i64 A.next, .slice x.a x.len x.cap] T.towpathref07_Table) :: slc T.towpathref07_Row 7 x (A.rows.flatMap encW) :: l)) : Sat w (dtP q A :: l) := .ex_mk x (.star_mk hs)

/-- The eldest that is younger than a number. -/
def bestI (rs : List RowA) (at_ : Int) (i : Nat) (n : Int) : Prop :=
  (n = -1 ∧ ∀ j (h : j < rs.length), j < i → rs[j].frm ≤ at_) ∨ (∃ (k : Nat) (hk : k < rs.length), n = (k : Int) ∧ k < i ∧ at_ < rs[k].frm ∧ ∀ j (h : j < rs.length), j < i → at_ < rs[j].frm → rs[k].frm ≤ rs[j].frm)
theorem best_end {A : TabA} (hok : okTb A) {o rest : List RowA} {at_ n : Int} (he : openS A.rows = o ++ rest) (h1 : -1 ≤ at_) (h2 : ∀ r ∈ o, r.frm ≤ at_) (h3 : ∀ r ∈ rest, at_ < r.frm) (hb : bestI A.rows at_ A.rows.length n) :
    (n = -1 ∧ rest = []) ∨ (∃ (k : Nat) (hk : k < A.rows.length), n = (k : Int) ∧ ∃ rest', rest = A.rows[k] :: rest') := by
  have hso := openS_sorted hok
  have hmem : ∀ r, r ∈ openS A.rows ↔ r ∈ A.rows ∧ 0 ≤ r.frm := fun r => by
    rw [(openS_perm A.rows).mem_iff]; unfold openR; rw [List.mem_filter]; simp
  rcases hb with ⟨rfl, hb⟩ | ⟨k, hk, rfl, -, hb1, hb2⟩
  · left
    refine ⟨rfl, ?_⟩
    cases rest with
    | nil => rfl
    | cons y ys =>
      exfalso
      have hy := h3 y (List.mem_cons_self ..)
      have hym := ((hmem y).1 (by rw [he]; simp)).1
      obtain ⟨j, hj, e⟩ := List.getElem_of_mem hym
      have := hb j hj hj
      rw [e] at this; omega
  · right
    refine ⟨k, hk, rfl, ?_⟩
    have hkm : A.rows[k] ∈ openS A.rows := (hmem _).2 ⟨List.getElem_mem hk, by omega⟩
    rw [he] at hkm hso
    rcases List.mem_append.1 hkm with h | h
    · have := h2 _ h; omega
    · cases rest with
      | nil => cases h
      | cons y ys =>
        rcases List.mem_cons.1 h with e | h
        · exact ⟨ys, by rw [e]⟩
        · exfalso
          have hy := h3 y (List.mem_cons_self ..)
          have hym := ((hmem y).1 (by rw [he]; simp)).1
          obtain ⟨j, hj, e⟩ := List.getElem_of_mem hym
          have h5 := hb2 j hj hj (by rw [e]; exact hy)
          rw [e] at h5
          rw [List.pairwise_append, List.pairwise_cons] at hso
          have := hso.2.1.1 _ h
          omega

theorem dopen_c (hok : okTb A) [hf : Fo l dtP q A r] (hs : Sat w l) : Ret P F.towpathref07_Table_Open #[.pointer (some ⟨q, 0, none⟩)] w fun vs w' => ∃ z : Sl, vs = [z.v] ∧ Sat w' (slc T.towpathref07_Row 7 z ((openS A.rows).flatMap encW) :: dtP q A :: r) :=
  towpathref07_Table_Open_calls _ <| by
    unfold towpathref07_Table_Open
    obtain ⟨x, hs⟩ := dt_open (hs.perm hf.perm)
    have hxl := hs.slen x (xs := A.rows) (enc := encW)
    have hmany := hok.many'
    have hol : (openS A.rows).length ≤ A.rows.length := by rw [(openS_perm _).length_eq]; exact List.length_filter_le _ _
    refine wp_loop (fun k u w => ∃ (z : Sl) (at_ : Int) (o rest : List RowA), u = (z, at_, ()) ∧ openS A.rows = o ++ rest ∧ -1 ≤ at_ ∧ (∀ r ∈ o, r.frm ≤ at_) ∧ (∀ r ∈ rest, at_ < r.frm) ∧ rest.length = k ∧
      Sat w (slc T.towpathref07_Row 7 z (o.flatMap encW) :: pt q (.cells #[.int .i64 A.most, .int .i64 A.next, .slice x.a x.len x.cap] T.towpathref07_Table) :: slc T.towpathref07_Row 7 x (A.rows.flatMap encW) :: r)) (openS A.rows).length
      ⟨⟨none, 0, 0⟩, -1, [], openS A.rows, rfl, rfl, by omega, by simp, fun y hy => by
        have h := (openS_perm A.rows).mem_iff.1 hy
        have : 0 ≤ y.frm := by simpa using (List.mem_filter.1 h).2
        omega, rfl, hs.slc_nil⟩ ?_
    clear hs
    rintro k _ w ⟨z, at_, o, rest, rfl, he, h1, h2, h3, hk, hs⟩
    refine wp_on ?_
    have hlen : o.length + rest.length = (openS A.rows).length := by rw [he, List.length_append]
    refine wp_mid (fun u w' => ∃ (z : Sl) (at_ : Int) (o' rest' : List RowA), u = (z, at_, ()) ∧ openS A.rows = o' ++ rest' ∧ -1 ≤ at_ ∧ (∀ r ∈ o', r.frm ≤ at_) ∧ (∀ r ∈ rest', at_ < r.frm) ∧ rest'.length < k ∧
      Sat w' (slc T.towpathref07_Row 7 z (o'.flatMap encW) :: pt q (.cells #[.int .i64 A.most, .int .i64 A.next, .slice x.a x.len x.cap] T.towpathref07_Table) :: slc T.towpathref07_Row 7 x (A.rows.flatMap encW) :: r)) ?_ ?_
    rotate_left
    · rintro _ w' ⟨z, at_, o', rest', rfl, g1, g2, g3, g4, g5, hs⟩
      refine wp_on ?_
      refine wp_lp rest'.length ?_
      exact ⟨z, at_, o', rest', rfl, g1, g2, g3, g4, rfl, hs⟩
    refine wp_nn ?_
    refine wp_ldO hs ?_
    refine wp_mid (fun u w' => ∃ n : Int, u = (n, ()) ∧ bestI A.rows at_ A.rows.length n ∧ Sat w' (slc T.towpathref07_Row 7 z (o.flatMap encW) :: pt q (.cells #[.int .i64 A.most, .int .i64 A.next, .slice x.a x.len x.cap] T.towpathref07_Table) :: slc T.towpathref07_Row 7 x (A.rows.flatMap encW) :: r)) ?_ ?_
    · refine wp_loop (fun k u w' => ∃ (i : Nat) (n : Int), u = (n, (i : Int), ()) ∧ i ≤ A.rows.length ∧ A.rows.length - i = k ∧ bestI A.rows at_ i n ∧ Sat w' (slc T.towpathref07_Row 7 z (o.flatMap encW) :: pt q (.cells #[.int .i64 A.most, .int .i64 A.next, .slice x.a x.len x.cap] T.towpathref07_Table) :: slc T.towpathref07_Row 7 x (A.rows.flatMap encW) :: r)) A.rows.length
        ⟨0, -1, rfl, by omega, rfl, .inl ⟨rfl, fun j _ h => absurd h (by omega)⟩, hs⟩ ?_
      clear hs hk
      rintro k _ w ⟨i, n, rfl, hi, hk, hbi, hs⟩
      refine wp_on ?_
      refine wp_if (fun hc => ?_) fun hc => ?_
      rotate_left
      · obtain rfl : i = A.rows.length := by omega
        exact wp_pass (wp_lv ⟨n, rfl, hbi, hs⟩)
      have hil : i < A.rows.length := by omega
      refine wp_ixA hs (xs := A.rows) (enc := encW) i hil ?_
      refine wp_newO hs fun c w' hs => ?_
      refine wp_lt ?_
      refine wp_stG hs fun w' hs => ?_
      refine wp_tk hs fun w' hs => ?_
      refine wp_ldO hs ?_
      refine wp_ldO hs ?_
      refine wp_nng ?_
      refine wp_ldO hs ?_
      have hs : Sat _ (pt c (.cells #[.int .i64 A.rows[i].pid, .int .i64 A.rows[i].epoch, .int .i64 A.rows[i].seq, .int .i64 A.rows[i].count, .int .i64 A.rows[i].base, .int .i64 A.rows[i].frm, .int .i64 A.rows[i].time] T.towpathref07_Row) :: slc T.towpathref07_Row 7 z (o.flatMap encW) :: pt q (.cells #[.int .i64 A.most, .int .i64 A.next, .slice x.a x.len x.cap] T.towpathref07_Table) :: slc T.towpathref07_Row 7 x (A.rows.flatMap encW) :: r) := hs
      obtain ⟨y, hy, hstep⟩ : ∃ y : Int, (¬ n < 0 → ∃ k, ∃ hk : k < A.rows.length, n = (k : Int) ∧ A.rows[k].frm = y) ∧
          bestI A.rows at_ (i + 1) (if A.rows[i].frm > at_ ∧ (n < 0 ∨ A.rows[i].frm < y) then (i : Int) else n) := by
        rcases hbi with ⟨rfl, hb⟩ | ⟨k, hk, rfl, hki, hb1, hb2⟩
        · refine ⟨0, fun h => absurd (by omega) h, ?_⟩
          by_cases h : A.rows[i].frm > at_
          · rw [if_pos ⟨h, .inl (by omega)⟩]
            refine .inr ⟨i, hil, rfl, by omega, h, fun j hj hji hja => ?_⟩
            rcases Nat.lt_or_ge j i with h4 | h4
            · have := hb j hj h4; omega
            · obtain rfl : j = i := by omega
              exact Int.le_refl _
          · rw [if_neg (fun h2 => h h2.1)]
            refine .inl ⟨rfl, fun j hj hji => ?_⟩
            rcases Nat.lt_or_ge j i with h4 | h4
            · exact hb j hj h4
            · obtain rfl : j = i := by omega
              omega
        · refine ⟨A.rows[k].frm, fun _ => ⟨k, hk, rfl, rfl⟩, ?_⟩
          by_cases h : A.rows[i].frm > at_ ∧ A.rows[i].frm < A.rows[k].frm
          · rw [if_pos ⟨h.1, .inr h.2⟩]
            refine .inr ⟨i, hil, rfl, by omega, h.1, fun j hj hji hja => ?_⟩
            rcases Nat.lt_or_ge j i with h4 | h4
            · have := hb2 j hj h4 hja; omega
            · obtain rfl : j = i := by omega
              exact Int.le_refl _
          · rw [if_neg (fun h2 => h ⟨h2.1, h2.2.resolve_left (by omega)⟩)]
            refine .inr ⟨k, hk, rfl, by omega, hb1, fun j hj hji hja => ?_⟩
            rcases Nat.lt_or_ge j i with h4 | h4
            · exact hb2 j hj h4 hja
            · obtain rfl : j = i := by omega
              omega
      refine wp_ixFgg hs (xs := A.rows) (enc := encW) y (fun h => hy (by simpa using h.2)) ?_
      refine wp_untick ?_
      refine wp_mid (fun u w' => u = ((if A.rows[i].frm > at_ ∧ (n < 0 ∨ A.rows[i].frm < y) then (i : Int) else n), ()) ∧ Sat w' (slc T.towpathref07_Row 7 z (o.flatMap encW) :: pt q (.cells #[.int .i64 A.most, .int .i64 A.next, .slice x.a x.len x.cap] T.towpathref07_Table) :: slc T.towpathref07_Row 7 x (A.rows.flatMap encW) :: r)) ?_ ?_
      · refine wp_if (fun h => ?_) fun h => ?_
        · rw [if_pos h]
          refine wp_lt ?_
          exact wp_lv ⟨rfl, hs.sub⟩
        · rw [if_neg h]
          exact wp_lv ⟨rfl, hs.sub⟩
      clear hs
      rintro _ w ⟨rfl, hs⟩
      refine wp_on ?_
      refine wp_dn (us' := [.int .i64 (if A.rows[i].frm > at_ ∧ (n < 0 ∨ A.rows[i].frm < y) then (i : Int) else n), .int .i64 ((i + 1 : Nat) : Int)]) (by (try simp (disch := omega) only [w64]); first | rfl | (congr; omega)) ?_
      refine wp_lp (A.rows.length - (i + 1)) ?_
      exact ⟨i + 1, _, rfl, by omega, rfl, hstep, hs⟩
    clear hs
    rintro _ w ⟨n, rfl, hbn, hs⟩
    refine wp_on ?_
    rcases best_end hok he h1 h2 h3 hbn with ⟨rfl, rfl⟩ | ⟨j, hj, rfl, rest', rfl⟩
    · refine wp_ifT ?_ (by simp)
      rw [List.append_nil] at he
      refine wp_pass ?_
      refine ⟨fun h => absurd h (by decide), fun _ => ⟨rfl, z, rfl, ?_⟩⟩
      have hs : Sat w (pt q (.cells #[.int .i64 A.most, .int .i64 A.next, .slice x.a x.len x.cap] T.towpathref07_Table) :: slc T.towpathref07_Row 7 x (A.rows.flatMap encW) :: slc T.towpathref07_Row 7 z (o.flatMap encW) :: r) := hs.pick [1, 1]
      rw [he]
      exact (dt_mk A hs).pick [1]
    · refine wp_ifF ?_ (by omega)
      refine wp_nn ?_
      refine wp_ldO hs ?_
      refine wp_ixA hs (xs := A.rows) (enc := encW) j hj ?_
      have hol2 : o.length + 1 ≤ 4096 := by simp at hlen; omega
      refine wp_ap0 hs (xs := o) (enc := encW) A.rows[j] (fun z w' hs => ?_)
      refine wp_nn ?_
      refine wp_ldO hs ?_
      refine wp_ixF hs (xs := A.rows) (enc := encW) j hj ?_
      refine wp_lt ?_
      have hso := openS_sorted hok
      rw [he, List.pairwise_append, List.pairwise_cons] at hso
      refine wp_lv ⟨z, A.rows[j].frm, o ++ [A.rows[j]], rest', rfl, by rw [he, List.append_assoc]; rfl, ?_, ?_, fun y hy => hso.2.1.1 y hy, by simp at hk; omega, hs.sub⟩
      · have := h3 _ (List.mem_cons_self ..); omega
      · intro y hy
        rcases List.mem_append.1 hy with hy | hy
        · have := hso.2.2 y hy _ (List.mem_cons_self ..); omega
        · rw [List.mem_singleton.1 hy]; exact Int.le_refl _

theorem dstable_c (hok : okTb A) [hf : Fo l dtP q A r] (hs : Sat w l) : Ret P F.towpathref07_Table_Stable #[.pointer (some ⟨q, 0, none⟩)] w fun vs w' => vs = [.int .i64 (stableT A)] ∧ Sat w' (dtP q A :: r) :=
  towpathref07_Table_Stable_calls _ <| by
    unfold towpathref07_Table_Stable
    obtain ⟨x, hs⟩ := dt_open (hs.perm hf.perm)
    have hxl := hs.slen x (xs := A.rows) (enc := encW)
    have hmany := hok.many'
    refine wp_nn ?_
    refine wp_ldO hs ?_
    refine wp_lt ?_
    refine wp_nn ?_
    refine wp_ldO hs ?_
    refine wp_mid (fun u w' => u = (stableT A, ()) ∧ Sat w' (dtP q A :: r)) ?_ (by rintro _ w' ⟨rfl, hs⟩; refine wp_on ?_; refine wp_lt ?_; exact ⟨rfl, rfl, hs⟩)
    refine wp_loop (fun k u w' => ∃ (i : Nat) (n : Int), u = (n, (i : Int), ()) ∧ i ≤ A.rows.length ∧ A.rows.length - i = k ∧ n ≤ A.next ∧ (∀ r ∈ openR (A.rows.take i), n ≤ r.frm) ∧ (n = A.next ∨ ∃ r ∈ openR (A.rows.take i), n = r.frm) ∧
      Sat w' (pt q (.cells #[.int .i64 A.most, .int .i64 A.next, .slice x.a x.len x.cap] T.towpathref07_Table) :: slc T.towpathref07_Row 7 x (A.rows.flatMap encW) :: r)) A.rows.length
      ⟨0, A.next, rfl, by omega, rfl, Int.le_refl _, by simp [openR], .inl rfl, hs⟩ ?_
    clear hs
    rintro k _ w ⟨i, n, rfl, hi, hk, h1, h2, h3, hs⟩
    refine wp_on ?_
    refine wp_if (fun hc => ?_) fun hc => ?_
    rotate_left
    · rw [List.take_of_length_le (by omega)] at h2 h3
      refine wp_pass (wp_lv ⟨?_, dt_mk A hs⟩)
      rw [stab_is hok h2 h1 h3]
    have hil : i < A.rows.length := by omega
    have hstep : openR (A.rows.take (i + 1)) = if 0 ≤ A.rows[i].frm then openR (A.rows.take i) ++ [A.rows[i]] else openR (A.rows.take i) := by
      rw [List.take_succ_eq_append_getElem hil]
      unfold openR
      rw [List.filter_append]
      split <;> simp [*]
    refine wp_ixA hs (xs := A.rows) (enc := encW) i hil ?_
    generalize A.rows[i] = y at *
    refine wp_newO hs fun c w' hs => ?_
    refine wp_stG hs fun w' hs => ?_
    refine wp_ldO hs ?_
    refine wp_ldO hs ?_
    refine wp_mid (fun u w' => u = ((if 0 ≤ y.frm ∧ y.frm < n then y.frm else n), ()) ∧ Sat w' (pt q (.cells #[.int .i64 A.most, .int .i64 A.next, .slice x.a x.len x.cap] T.towpathref07_Table) :: slc T.towpathref07_Row 7 x (A.rows.flatMap encW) :: r)) ?_ ?_
    · refine wp_if (fun h => ?_) fun h => ?_
      · rw [if_pos h]
        refine wp_ldO hs ?_
        refine wp_lt ?_
        exact wp_lv ⟨rfl, hs.sub⟩
      · rw [if_neg h]
        exact wp_lv ⟨rfl, hs.sub⟩
    clear hs
    rintro _ w ⟨rfl, hs⟩
    refine wp_on ?_
    refine wp_dn (us' := [.int .i64 (if 0 ≤ y.frm ∧ y.frm < n then y.frm else n), .int .i64 ((i + 1 : Nat) : Int)]) (by (try simp (disch := omega) only [w64]); first | rfl | (congr; omega)) ?_
    refine wp_lp (A.rows.length - (i + 1)) ?_
    refine ⟨i + 1, _, rfl, by omega, rfl, by split <;> omega, ?_, ?_, hs⟩
    · intro u hu
      rw [hstep] at hu
      split at hu
      · rcases List.mem_append.1 hu with hu | hu
        · have := h2 u hu; split <;> omega
        · rw [List.mem_singleton.1 hu]; split <;> omega
      · have := h2 u hu; split <;> omega
    · rw [hstep]
      by_cases h : 0 ≤ y.frm ∧ y.frm < n
      · rw [if_pos h, if_pos h.1]
        exact .inr ⟨y, by simp, rfl⟩
      · rw [if_neg h]
        rcases h3 with h3 | ⟨u, hu, h3⟩
        · exact .inl h3
        · refine .inr ⟨u, ?_, h3⟩
          split
          · exact List.mem_append_left _ hu
          · exact hu
end
end Go.Dec
