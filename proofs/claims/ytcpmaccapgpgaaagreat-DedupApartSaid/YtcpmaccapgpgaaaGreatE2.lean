/- Dedup: the document's table: find, Row, Judge, put, Take, Expire. -/
import Derived.Test.YtcpmaccapgpgaaaGreatD6
import Derived.Test.YtcpmaccapgpgaaaGreatE1
import Derived.Test.YtcpmaccapgpgaaaGreatB2
namespace Go.Dec
set_option linter.unusedVariables false
set_option linter.unusedSimpArgs false

/-- A place in the list, as it goes from the front. -/
def putI (x : RowA) (rs : List RowA) : List RowA := rs.filter (fun r => decide (r.pid < x.pid)) ++ ((if rs.any (fun r => decide (x.pid ≤ r.pid)) then [x] else []) ++ rs.filter (fun r => decide (x.pid < r.pid)))
theorem putI_end (x : RowA) {rs : List RowA} : (if rs.any (fun r => decide (x.pid ≤ r.pid)) = true then putI x rs else putI x rs ++ [x]) = putL x rs := by
  unfold putI putL
  split
  · rfl
  · rename_i h
    have e : rs.filter (fun r => decide (x.pid < r.pid)) = [] := List.filter_eq_nil_iff.2 fun r hr hd => h (List.any_eq_true.2 ⟨r, hr, by simp at hd ⊢; omega⟩)
    rw [e]; simp
theorem putI_step {x : RowA} {rs : List RowA} (hs : rs.Pairwise fun a b => a.pid < b.pid) {i : Nat} (hi : i < rs.length) :
    putI x (rs.take (i + 1)) = (putI x (rs.take i) ++ if (rs.take i).any (fun r => decide (x.pid ≤ r.pid)) = false ∧ x.pid ≤ rs[i].pid then [x] else []) ++ (if rs[i].pid ≠ x.pid then [rs[i]] else []) := by
  have htk : rs.take (i + 1) = rs.take i ++ [rs[i]] := List.take_succ_eq_append_getElem hi
  have hpre : ∀ y ∈ rs.take i, y.pid < rs[i].pid := fun y hy => by
    have h := hs
    rw [← List.take_append_drop i rs, List.drop_eq_getElem_cons hi, List.pairwise_append] at h
    exact h.2.2 y hy _ (List.mem_cons_self ..)
  unfold putI
  rw [htk]
  generalize rs[i] = y at *
  generalize rs.take i = ts at *
  rw [List.filter_append, List.filter_append, List.any_append]
  by_cases h1 : y.pid < x.pid
  · have ha : ts.any (fun r => decide (x.pid ≤ r.pid)) = false := by
      rw [Bool.eq_false_iff]
      intro h
      obtain ⟨r, hr, hd⟩ := List.any_eq_true.1 h
      have := hpre r hr
      simp at hd; omega
    have hg : ts.filter (fun r => decide (x.pid < r.pid)) = [] := List.filter_eq_nil_iff.2 fun r hr hd => by
      have := hpre r hr
      simp at hd; omega
    have hy1 : ¬ x.pid ≤ y.pid := by omega
    have hy2 : ¬ x.pid < y.pid := by omega
    have hy3 : y.pid ≠ x.pid := by omega
    rw [ha, hg]
    simp [h1, hy1, hy2, hy3]
  · have hy1 : x.pid ≤ y.pid := by omega
    cases ha : ts.any (fun r => decide (x.pid ≤ r.pid)) with
    | true =>
      have hy2 : x.pid < y.pid := by
        obtain ⟨r, hr, hd⟩ := List.any_eq_true.1 ha
        have := hpre r hr
        simp at hd; omega
      have hy3 : y.pid ≠ x.pid := by omega
      simp [h1, hy1, hy2, hy3]
    | false =>
      have hg : ts.filter (fun r => decide (x.pid < r.pid)) = [] := List.filter_eq_nil_iff.2 fun r hr hd => by
        have : ts.any (fun r => decide (x.pid ≤ r.pid)) = true := List.any_eq_true.2 ⟨r, hr, by simp at hd ⊢; omega⟩
        rw [ha] at this; cases this
      rw [hg]
      by_cases hy3 : y.pid = x.pid
      · simp [h1, hy1, hy3]
      · have hy2 : x.pid < y.pid := by omega
        simp [h1, hy1, hy2, hy3]

section
variable {w : World} {l r : List HP} {q : Nat} {A : TabA}

theorem dfind_c (pid : Int) (hmany : A.rows.length ≤ 4096) [hf : Fo l dtP q A r] (hs : Sat w l) : Ret P F.towpathref07_Table_find #[.pointer (some ⟨q, 0, none⟩), .int .i64 pid] w fun vs w' =>
    (∃ k : Int, vs = [.int .i64 k] ∧ ((k = -1 ∧ rowO A pid = none) ∨ ∃ (j : Nat) (hj : j < A.rows.length), k = j ∧ rowO A pid = some A.rows[j])) ∧ Sat w' (dtP q A :: r) :=
  towpathref07_Table_find_calls _ _ <| by
    unfold towpathref07_Table_find
    obtain ⟨x, hs⟩ := dt_open (hs.perm hf.perm)
    have hxl := hs.slen x (xs := A.rows) (enc := encW)
    refine wp_nn ?_
    refine wp_ldO hs ?_
    refine wp_mid (fun _ w' => rowO A pid = none ∧ Sat w' (dtP q A :: r)) ?_ (by rintro _ w' ⟨h, hs⟩; refine wp_on ?_; exact ⟨rfl, ⟨-1, rfl, .inl ⟨rfl, h⟩⟩, hs⟩)
    refine wp_loop (fun k u w => ∃ i : Nat, u = ((i : Int), ()) ∧ i ≤ A.rows.length ∧ A.rows.length - i = k ∧ (∀ y ∈ A.rows.take i, y.pid ≠ pid) ∧ Sat w (pt q (.cells #[.int .i64 A.most, .int .i64 A.next, .slice x.a x.len x.cap] T.towpathref07_Table) :: slc T.towpathref07_Row 7 x (A.rows.flatMap encW) :: r)) A.rows.length ⟨0, rfl, by omega, rfl, by simp, hs⟩ ?_
    clear hs
    rintro k _ w ⟨i, rfl, hi, hk, hno, hs⟩
    refine wp_on ?_
    refine wp_if (fun hc => ?_) fun hc => ?_
    rotate_left
    · rw [List.take_of_length_le (by omega)] at hno
      exact wp_pass (wp_lv ⟨List.find?_eq_none.2 fun y hy => by simpa using hno y hy, dt_mk A hs⟩)
    have hil : i < A.rows.length := by omega
    have htk : A.rows.take (i + 1) = A.rows.take i ++ [A.rows[i]] := List.take_succ_eq_append_getElem hil
    refine wp_ixA hs (xs := A.rows) (enc := encW) i hil ?_
    refine wp_newO hs fun c w' hs => ?_
    refine wp_lt ?_
    refine wp_stG hs fun w' hs => ?_
    refine wp_ldO hs ?_
    refine wp_if (fun h => ?_) fun h => ?_
    · refine wp_lt ?_
      refine wp_pass (wp_pass ?_)
      refine ⟨rfl, ⟨(i : Int), rfl, .inr ⟨i, hil, rfl, ?_⟩⟩, ?_⟩
      · unfold rowO
        have e : A.rows = A.rows.take i ++ A.rows[i] :: A.rows.drop (i + 1) := by
          conv => lhs; rw [← List.take_append_drop i A.rows, List.drop_eq_getElem_cons hil]
        have e2 : (A.rows.find? fun r => decide (r.pid = pid)) = ((A.rows.take i ++ A.rows[i] :: A.rows.drop (i + 1)).find? fun r => decide (r.pid = pid)) := by rw [← e]
        rw [e2, List.find?_append, List.find?_eq_none.2 fun y hy => by simpa using hno y hy, Option.none_or, List.find?_cons_of_pos (by simpa using h)]
      · have hs := hs.tail
        exact dt_mk A hs
    · refine wp_dn (us' := [.int .i64 ((i + 1 : Nat) : Int)]) (by (try simp (disch := omega) only [w64]); first | rfl | (congr; omega)) ?_
      refine wp_lp (A.rows.length - (i + 1)) ?_
      refine ⟨i + 1, rfl, by omega, rfl, fun y hy => ?_, hs.sub⟩
      rw [htk] at hy
      rcases List.mem_append.1 hy with hy | hy
      · exact hno y hy
      · rw [List.mem_singleton.1 hy]; exact h

theorem dRow_c (pid : Int) (hmany : A.rows.length ≤ 4096) [hf : Fo l dtP q A r] (hs : Sat w l) : Ret P F.towpathref07_Table_Row #[.pointer (some ⟨q, 0, none⟩), .int .i64 pid] w fun vs w' => vs = [.agg (encW (rowF A pid)).toArray, .bool (rowO A pid).isSome] ∧ Sat w' (dtP q A :: r) :=
  towpathref07_Table_Row_calls _ _ <| by
    unfold towpathref07_Table_Row rowF
    have hs : Sat w (dtP q A :: r) := hs.perm hf.perm
    refine wp_newO hs fun a0 w' hs => ?_
    refine wp_call (dfind_c (q := q) pid hmany hs) fun _ w' h => ?_
    obtain ⟨⟨k, rfl, hk⟩, hs⟩ := h
    refine ret_of ?_
    refine wp_lt ?_
    rcases hk with ⟨rfl, ho⟩ | ⟨j, hj, rfl, ho⟩
    · rw [ho]
      refine wp_ifT ?_ (by simp)
      refine wp_stG hs fun w' hs => ?_
      refine wp_ldG hs ?_
      exact ⟨rfl, rfl, hs.sub⟩
    · rw [ho]
      refine wp_ifF ?_ (by omega)
      obtain ⟨x, hs⟩ := dt_open hs
      have hxl := hs.slen x (xs := A.rows) (enc := encW)
      refine wp_nn ?_
      refine wp_ldO hs ?_
      refine wp_ixA hs (xs := A.rows) (enc := encW) j hj ?_
      refine wp_stG hs fun w' hs => ?_
      refine wp_ldG hs ?_
      have hs : Sat w' (pt q (.cells #[.int .i64 A.most, .int .i64 A.next, .slice x.a x.len x.cap] T.towpathref07_Table) :: slc T.towpathref07_Row 7 x (A.rows.flatMap encW) :: r) := hs.sub
      exact ⟨rfl, rfl, dt_mk A hs⟩

theorem djudge_c (b : BatM) (hok : okTb A) [hf : Fo l dtP q A r] [hb : FocR r b.x 4 (b.rs.flatMap encR)] (hs : Sat w l) :
    Ret P F.towpathref07_Table_Judge #[.pointer (some ⟨q, 0, none⟩), .agg (encB7 b).toArray] w fun vs w' => vs = [.bool (judgeA A b).1.again, .int .i64 (judgeA A b).1.base, .int .i64 (judgeA A b).2] ∧ Sat w' (dtP q A :: r) :=
  towpathref07_Table_Judge_calls _ b.base b.pid b.epoch b.seq b.kind b.time b.x <| by
    unfold towpathref07_Table_Judge judgeA
    have hs : Sat w (dtP q A :: r) := hs.perm hf.perm
    have hmany := hok.many'
    refine wp_boxO hs fun a0 w' hs => ?_
    refine wp_ldG hs ?_
    refine wp_call (dvalid_c b hs) fun _ _ hs => ?_
    obtain ⟨rfl, hs⟩ := hs
    refine ret_of ?_
    refine wp_lt ?_
    refine wp_ldO hs ?_
    refine wp_if (fun h => ?_) fun h => ?_
    · rw [if_pos h]
      refine wp_lt ?_
      exact ⟨rfl, rfl, hs.sub⟩
    rw [if_neg h]
    have hv : validB b = 0 := Decidable.not_not.1 fun e => h (.inl e)
    obtain ⟨hs1, hs2, hnum, hfit, hnx⟩ := span_le b hv
    have hl64 : b.rs.length ≤ 64 := by
      unfold spanB at hs2
      split at hs2
      · have := hfit.2
        rename_i hm
        rw [if_pos hm] at this; omega
      · omega
    refine wp_ldO hs ?_
    refine wp_call (dRow_c (q := q) b.pid hmany hs) fun _ w' hs => ?_
    obtain ⟨rfl, hs⟩ := hs
    refine ret_of ?_
    obtain ⟨hr1, hr2, hr3, hr4, hr5, hr6, hr7⟩ := rowF_ok hok b.pid
    generalize rowF A b.pid = x at *
    have hseq := hnum.2.2.2.2.1
    refine wp_newO hs fun a21 w' hs => ?_
    refine wp_stG hs fun w' hs => ?_
    refine wp_lt ?_
    refine wp_ldG hs ?_
    refine wp_call (dmark_c b hs) fun _ _ hs => ?_
    obtain ⟨rfl, hs⟩ := hs
    refine ret_of ?_
    refine wp_lt ?_
    refine wp_ldO hs ?_
    refine wp_ldO hs ?_
    have hbl := hs.slen b.x (xs := b.rs) (enc := encR)
    refine wp_if (fun h => ?_) fun h => ?_
    · rw [if_pos h.1, if_pos h.2]
      exact ⟨rfl, rfl, hs.sub⟩
    refine wp_ldO hs ?_
    refine wp_ldO hs ?_
    refine wp_if (fun h2 => ?_) fun h2 => ?_
    · rw [if_pos h2, if_neg (fun hm => h ⟨h2, hm⟩)]
      exact ⟨rfl, rfl, hs.sub⟩
    rw [if_neg h2]
    have h2' : x.epoch ≤ b.epoch := Int.not_lt.1 h2
    refine wp_ldO hs ?_
    refine wp_ldO hs ?_
    refine wp_ldO hs ?_
    refine wp_ldO hs ?_
    refine wp_ldO hs ?_
    refine wp_ldO hs ?_
    rw [w64 (x := b.seq + ((b.x.len : Nat) : Int)) (by omega) (by omega), w64 (x := x.seq + x.count) (by omega) (by omega)]
    refine wp_if (fun h3 => ?_) fun h3 => ?_
    · obtain ⟨⟨h3, h4⟩, h5⟩ := h3
      have h3 : markB b = false := by simpa using h3
      have e : againV x b = if b.seq = x.seq ∧ (b.rs.length : Int) = x.count then (⟨true, x.base⟩, true) else (⟨true, -1⟩, true) := by
        unfold againV
        rw [if_neg (fun h => h.elim (fun h => h h4) (fun h => by omega))]
      refine wp_ldO hs ?_
      refine wp_ldO hs ?_
      refine wp_ldO hs ?_
      refine wp_ldO hs ?_
      refine wp_if (fun h6 => ?_) fun h6 => ?_
      · have e' : againV x b = (⟨true, x.base⟩, true) := by rw [e, if_pos (by rw [hbl] at h6; exact h6)]
        rw [e', if_pos ⟨h3, rfl⟩]
        refine wp_tk hs fun w' hs => ?_
        refine wp_ldO hs ?_
        refine wp_lt ?_
        refine wp_untick ?_
        exact ⟨rfl, rfl, hs.sub⟩
      · have e' : againV x b = (⟨true, -1⟩, true) := by rw [e, if_neg (by rw [hbl] at h6; exact h6)]
        rw [e', if_pos ⟨h3, rfl⟩]
        exact ⟨rfl, rfl, hs.sub⟩
    have e : ¬ (markB b = false ∧ (againV x b).2 = true) := fun ⟨g1, g2⟩ => by
      unfold againV at g2
      split at g2
      · cases g2
      · rename_i g3
        refine h3 ⟨⟨by rw [g1]; simp, Decidable.not_not.1 fun g => g3 (.inl g)⟩, ?_⟩
        rcases Int.lt_or_le (x.seq + x.count) (b.seq + b.rs.length) with g | g
        · exact absurd (.inr g) g3
        · omega
    rw [if_neg e]
    unfold freshA
    refine wp_ldO hs ?_
    refine wp_ldO hs ?_
    refine wp_ldO hs ?_
    refine wp_ldO hs ?_
    refine wp_if (fun h4 => ?_) fun h4 => ?_
    · rw [if_pos h4]
      exact ⟨rfl, rfl, hs.sub⟩
    rw [if_neg h4]
    refine wp_ldO hs ?_
    refine wp_ldO hs ?_
    refine wp_ldO hs ?_
    refine wp_ldO hs ?_
    refine wp_ldO hs ?_
    refine wp_ldO hs ?_
    refine wp_ldO hs ?_
    refine wp_ldO hs ?_
    rw [w64 (x := x.seq + x.count) (by omega) (by omega)]
    have he : (markB b = false ∧ b.seq ≠ (if b.epoch > x.epoch then 0 else x.seq + x.count)) ↔ (¬ markB b = true ∧ ((b.epoch = x.epoch ∧ b.seq ≠ x.seq + x.count) ∨ (b.epoch > x.epoch ∧ b.seq ≠ 0))) := by
      rw [Bool.not_eq_true]
      refine and_congr_right fun _ => ?_
      split <;> omega
    refine wp_if (fun h5 => ?_) fun h5 => ?_
    · rw [if_pos (he.2 (by simpa using h5))]
      exact ⟨rfl, rfl, hs.sub⟩
    rw [if_neg (fun g => h5 (by simpa using he.1 g))]
    have hs : Sat _ (dtP q A :: r) := hs.sub
    obtain ⟨y, hs⟩ := dt_open hs
    have hyl := hs.slen y (xs := A.rows) (enc := encW)
    refine wp_tk hs fun w' hs => ?_
    refine wp_nng ?_
    refine wp_ldO hs ?_
    refine wp_nng ?_
    refine wp_ldO hs ?_
    refine wp_untick ?_
    rw [hyl]
    refine wp_if (fun h6 => ?_) fun h6 => ?_
    · rw [if_pos (by simpa using h6)]
      exact ⟨rfl, rfl, dt_mk A hs⟩
    · rw [if_neg (by simpa using h6)]
      exact ⟨rfl, rfl, dt_mk A hs⟩

theorem dput_c (x : RowA) (hso : A.rows.Pairwise fun a b => a.pid < b.pid) (hmany : A.rows.length ≤ 4096) [hf : Fo l dtP q A r] (hs : Sat w l) :
    Ret P F.towpathref07_Table_put #[.pointer (some ⟨q, 0, none⟩), .agg (encW x).toArray] w fun vs w' => vs = [] ∧ Sat w' (dtP q ⟨A.most, A.next, putL x A.rows⟩ :: r) :=
  towpathref07_Table_put_calls _ x.pid x.epoch x.seq x.count x.base x.frm x.time <| by
    unfold towpathref07_Table_put
    obtain ⟨y, hs⟩ := dt_open (hs.perm hf.perm)
    have hyl := hs.slen y (xs := A.rows) (enc := encW)
    refine wp_boxO hs fun a0 w' hs => ?_
    refine wp_nn ?_
    refine wp_ldO hs ?_
    have hs : Sat w' (pt a0 (.cells #[.int .i64 x.pid, .int .i64 x.epoch, .int .i64 x.seq, .int .i64 x.count, .int .i64 x.base, .int .i64 x.frm, .int .i64 x.time] T.towpathref07_Row) :: pt q (.cells #[.int .i64 A.most, .int .i64 A.next, .slice y.a y.len y.cap] T.towpathref07_Table) :: slc T.towpathref07_Row 7 y (A.rows.flatMap encW) :: r) := hs
    have hlenI : ∀ i, (putI x (A.rows.take i)).length ≤ 3 * 4096 := fun i => by
      unfold putI
      simp only [List.length_append]
      have h1 := List.length_filter_le (fun r : RowA => decide (r.pid < x.pid)) (A.rows.take i)
      have h2 := List.length_filter_le (fun r : RowA => decide (x.pid < r.pid)) (A.rows.take i)
      rw [List.length_take] at h1 h2
      split <;> simp <;> omega
    refine wp_mid (fun u w' => ∃ z : Sl, u = (z, A.rows.any (fun r => decide (x.pid ≤ r.pid)), ()) ∧ Sat w' (slc T.towpathref07_Row 7 z ((putI x A.rows).flatMap encW) :: pt a0 (.cells #[.int .i64 x.pid, .int .i64 x.epoch, .int .i64 x.seq, .int .i64 x.count, .int .i64 x.base, .int .i64 x.frm, .int .i64 x.time] T.towpathref07_Row) :: pt q (.cells #[.int .i64 A.most, .int .i64 A.next, .slice y.a y.len y.cap] T.towpathref07_Table) :: r)) ?_ ?_
    · refine wp_loop (fun k u w => ∃ (i : Nat) (z : Sl), u = (z, (A.rows.take i).any (fun r => decide (x.pid ≤ r.pid)), (i : Int), ()) ∧ i ≤ A.rows.length ∧ A.rows.length - i = k ∧ Sat w (slc T.towpathref07_Row 7 z ((putI x (A.rows.take i)).flatMap encW) :: pt a0 (.cells #[.int .i64 x.pid, .int .i64 x.epoch, .int .i64 x.seq, .int .i64 x.count, .int .i64 x.base, .int .i64 x.frm, .int .i64 x.time] T.towpathref07_Row) :: pt q (.cells #[.int .i64 A.most, .int .i64 A.next, .slice y.a y.len y.cap] T.towpathref07_Table) :: slc T.towpathref07_Row 7 y (A.rows.flatMap encW) :: r)) A.rows.length
        ⟨0, ⟨none, 0, 0⟩, rfl, by omega, rfl, hs.slc_nil⟩ ?_
      clear hs
      rintro k _ w ⟨i, z, rfl, hi, hk, hs⟩
      refine wp_on ?_
      refine wp_if (fun hc => ?_) fun hc => ?_
      rotate_left
      · rw [List.take_of_length_le (by omega)] at hs ⊢
        exact wp_pass (wp_lv ⟨z, rfl, hs.sub⟩)
      have hil : i < A.rows.length := by omega
      have hstep := putI_step (x := x) hso hil
      have hany : (A.rows.take (i + 1)).any (fun r => decide (x.pid ≤ r.pid)) = ((A.rows.take i).any (fun r => decide (x.pid ≤ r.pid)) || decide (x.pid ≤ A.rows[i].pid)) := by
        rw [List.take_succ_eq_append_getElem hil, List.any_append]; simp
      have hl := hlenI i
      refine wp_ixA hs (xs := A.rows) (enc := encW) i hil ?_
      generalize A.rows[i] = v at *
      generalize (A.rows.take i).any (fun r => decide (x.pid ≤ r.pid)) = inn at *
      refine wp_newO hs fun c w' hs => ?_
      refine wp_stG hs fun w' hs => ?_
      refine wp_ldO hs ?_
      refine wp_ldO hs ?_
      have hs : Sat w' (pt c (.cells #[.int .i64 v.pid, .int .i64 v.epoch, .int .i64 v.seq, .int .i64 v.count, .int .i64 v.base, .int .i64 v.frm, .int .i64 v.time] T.towpathref07_Row) :: slc T.towpathref07_Row 7 z ((putI x (A.rows.take i)).flatMap encW) :: pt a0 (.cells #[.int .i64 x.pid, .int .i64 x.epoch, .int .i64 x.seq, .int .i64 x.count, .int .i64 x.base, .int .i64 x.frm, .int .i64 x.time] T.towpathref07_Row) :: pt q (.cells #[.int .i64 A.most, .int .i64 A.next, .slice y.a y.len y.cap] T.towpathref07_Table) :: slc T.towpathref07_Row 7 y (A.rows.flatMap encW) :: r) := hs
      refine wp_mid (fun u w' => ∃ z : Sl, u = (z, (inn || decide (x.pid ≤ v.pid)), ()) ∧ Sat w' (slc T.towpathref07_Row 7 z ((putI x (A.rows.take i) ++ if inn = false ∧ x.pid ≤ v.pid then [x] else []).flatMap encW) :: pt c (.cells #[.int .i64 v.pid, .int .i64 v.epoch, .int .i64 v.seq, .int .i64 v.count, .int .i64 v.base, .int .i64 v.frm, .int .i64 v.time] T.towpathref07_Row) :: pt a0 (.cells #[.int .i64 x.pid, .int .i64 x.epoch, .int .i64 x.seq, .int .i64 x.count, .int .i64 x.base, .int .i64 x.frm, .int .i64 x.time] T.towpathref07_Row) :: pt q (.cells #[.int .i64 A.most, .int .i64 A.next, .slice y.a y.len y.cap] T.towpathref07_Table) :: slc T.towpathref07_Row 7 y (A.rows.flatMap encW) :: r)) ?_ ?_
      · refine wp_if (fun h => ?_) fun h => ?_
        · have h : inn = false ∧ x.pid ≤ v.pid := by simpa using h
          rw [if_pos h]
          refine wp_ldG hs ?_
          refine wp_ap0 hs (xs := putI x (A.rows.take i)) (enc := encW) x (fun z w' hs => ?_)
          refine wp_lv ⟨z, ?_, hs.sub⟩
          rw [decide_eq_true h.2, Bool.or_true]
        · have h : ¬ (inn = false ∧ x.pid ≤ v.pid) := by simpa using h
          rw [if_neg h, List.append_nil]
          refine wp_lv ⟨z, ?_, hs.sub⟩
          cases inn with
          | true => rfl
          | false => rw [decide_eq_false (fun g => h ⟨rfl, g⟩)]; rfl
      clear hs
      rintro _ w ⟨z, rfl, hs⟩
      refine wp_on ?_
      have hl2 : (putI x (A.rows.take i) ++ if inn = false ∧ x.pid ≤ v.pid then [x] else []).length ≤ 3 * 4096 + 1 := by
        rw [List.length_append]; split <;> simp <;> omega
      generalize putI x (A.rows.take i) ++ (if inn = false ∧ x.pid ≤ v.pid then [x] else []) = pre at *
      refine wp_ldO hs ?_
      refine wp_ldO hs ?_
      refine wp_mid (fun u w' => ∃ z : Sl, u = (z, ()) ∧ Sat w' (slc T.towpathref07_Row 7 z ((putI x (A.rows.take (i + 1))).flatMap encW) :: pt a0 (.cells #[.int .i64 x.pid, .int .i64 x.epoch, .int .i64 x.seq, .int .i64 x.count, .int .i64 x.base, .int .i64 x.frm, .int .i64 x.time] T.towpathref07_Row) :: pt q (.cells #[.int .i64 A.most, .int .i64 A.next, .slice y.a y.len y.cap] T.towpathref07_Table) :: slc T.towpathref07_Row 7 y (A.rows.flatMap encW) :: r)) ?_ ?_
      · rw [hstep]
        refine wp_if (fun h => ?_) fun h => ?_
        · rw [if_pos h]
          refine wp_ldG hs ?_
          refine wp_ap0 hs (xs := pre) (enc := encW) v (fun z w' hs => ?_)
          exact wp_lv ⟨z, rfl, hs.sub⟩
        · rw [if_neg h, List.append_nil]
          exact wp_lv ⟨z, rfl, hs.sub⟩
      clear hs
      rintro _ w ⟨z, rfl, hs⟩
      refine wp_on ?_
      rw [← hany]
      refine wp_dn (us' := [z.v, .bool ((A.rows.take (i + 1)).any fun r => decide (x.pid ≤ r.pid)), .int .i64 ((i + 1 : Nat) : Int)]) (by (try simp (disch := omega) only [w64]); first | rfl | (congr; omega)) ?_
      refine wp_lp (A.rows.length - (i + 1)) ?_
      exact ⟨i + 1, z, rfl, by omega, rfl, hs⟩
    clear hs
    rintro _ w ⟨z, rfl, hs⟩
    refine wp_on ?_
    have hend := putI_end x (rs := A.rows)
    have hl := hlenI A.rows.length
    rw [List.take_length] at hl
    refine wp_mid (fun u w' => ∃ z : Sl, u = (z, ()) ∧ Sat w' (slc T.towpathref07_Row 7 z ((putL x A.rows).flatMap encW) :: pt q (.cells #[.int .i64 A.most, .int .i64 A.next, .slice y.a y.len y.cap] T.towpathref07_Table) :: r)) ?_ ?_
    · refine wp_if (fun h => ?_) fun h => ?_
      · rw [if_neg (by simpa using h)] at hend
        refine wp_ldG hs ?_
        refine wp_ap0 hs (xs := putI x A.rows) (enc := encW) x (fun z w' hs => ?_)
        rw [hend] at hs
        exact wp_lv ⟨z, rfl, hs.sub⟩
      · rw [if_pos (by simpa using h)] at hend
        rw [hend] at hs
        exact wp_lv ⟨z, rfl, hs.sub⟩
    clear hs
    rintro _ w ⟨z, rfl, hs⟩
    refine wp_on ?_
    refine wp_nn ?_
    refine wp_stO hs fun w' hs => ?_
    refine ⟨rfl, rfl, ?_⟩
    have hs : Sat w' (pt q (.cells #[.int .i64 A.most, .int .i64 A.next, .slice z.a z.len z.cap] T.towpathref07_Table) :: slc T.towpathref07_Row 7 z ((putL x A.rows).flatMap encW) :: r) := hs.sub
    exact dt_mk ⟨A.most, A.next, putL x A.rows⟩ hs
end
end Go.Dec
