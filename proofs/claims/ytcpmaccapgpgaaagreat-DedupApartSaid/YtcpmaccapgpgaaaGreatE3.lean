/- Dedup: the document's table: Take, Expire. -/
import Derived.Test.YtcpmaccapgpgaaaGreatE2
namespace Go.Dec
set_option linter.unusedVariables false
set_option linter.unusedSimpArgs false

section
variable {w : World} {l r : List HP} {q : Nat} {A : TabA}

theorem dtake_c (b : BatM) (hok : okTb A) [hf : Fo l dtP q A r] [hb : FocR r b.x 4 (b.rs.flatMap encR)] (hs : Sat w l) :
    Ret P F.towpathref07_Table_Take #[.pointer (some ⟨q, 0, none⟩), .agg (encB7 b).toArray] w fun vs w' => vs = [.int .i64 (takeT A b).1] ∧ Sat w' (dtP q (takeT A b).2 :: r) :=
  towpathref07_Table_Take_calls _ b.base b.pid b.epoch b.seq b.kind b.time b.x <| by
    unfold towpathref07_Table_Take takeT
    have hs : Sat w (dtP q A :: r) := hs.perm hf.perm
    have hmany := hok.many'
    refine wp_boxO hs fun a0 w' hs => ?_
    refine wp_ldG hs ?_
    refine wp_call (djudge_c (q := q) b hok hs) fun _ w' hs => ?_
    obtain ⟨rfl, hs⟩ := hs
    refine ret_of ?_
    have hjf := judge_fresh (A := A) (b := b)
    generalize judgeA A b = j at *
    obtain ⟨v, e⟩ := j
    refine wp_lt ?_
    refine wp_lt ?_
    refine wp_lt ?_
    refine wp_if (fun h => ?_) fun h => ?_
    · rw [if_pos h]
      refine wp_lt ?_
      exact ⟨rfl, rfl, hs.sub⟩
    have he : e = 0 := Decidable.not_not.1 h
    subst he
    rw [if_neg (by simp)]
    refine wp_if (fun h => ?_) fun h => ?_
    · rw [if_pos h]
      exact ⟨rfl, rfl, hs.sub⟩
    rw [if_neg h]
    have hag : v.again = false := by simpa using h
    obtain ⟨hv, hj⟩ := hjf rfl hag
    obtain ⟨hs1, hs2, hnum, hfit, hn2⟩ := span_le b hv
    have hnb := hnum.2.1
    have hne := hnum.2.2.2.1
    have hs : Sat _ (dtP q A :: pt a0 (.cells #[.int .i64 b.base, .int .i64 b.pid, .int .i64 b.epoch, .int .i64 b.seq, .int .i64 b.kind, .int .i64 b.time, .slice b.x.a b.x.len b.x.cap] T.api_Batch) :: r) := hs.sub
    obtain ⟨y, hs⟩ := dt_open hs
    refine wp_tk hs fun w' hs => ?_
    refine wp_ldO hs ?_
    refine wp_nn ?_
    refine wp_ldO hs ?_
    refine wp_untick ?_
    refine wp_if (fun h => ?_) fun h => ?_
    · rw [if_pos h]
      have hs : Sat w' (pt q (.cells #[.int .i64 A.most, .int .i64 A.next, .slice y.a y.len y.cap] T.towpathref07_Table) :: slc T.towpathref07_Row 7 y (A.rows.flatMap encW) :: r) := hs.sub
      exact ⟨rfl, rfl, dt_mk A hs⟩
    rw [if_neg h]
    refine wp_mid (fun _ w' => Sat w' (dtP q ⟨A.most, b.base + spanB b, A.rows⟩ :: pt a0 (.cells #[.int .i64 b.base, .int .i64 b.pid, .int .i64 b.epoch, .int .i64 b.seq, .int .i64 b.kind, .int .i64 b.time, .slice b.x.a b.x.len b.x.cap] T.api_Batch) :: r)) ?_ ?_
    · refine wp_tk hs fun w' hs => ?_
      refine wp_hdO hs ?_
      refine wp_ldG hs ?_
      refine wp_call (dspan_c b hs) fun _ w' hs => ?_
      obtain ⟨rfl, hs⟩ := hs
      refine ret_of ?_ ⟨trivial, fun _ => run_ldO hs⟩
      refine wp_nn ?_
      refine wp_untick ?_
      rw [w64 (x := b.base + spanB b) (by omega) (by omega)]
      refine wp_stO hs fun w' hs => ?_
      refine wp_untick ?_
      have hs : Sat w' (pt q (.cells #[.int .i64 A.most, .int .i64 (b.base + spanB b), .slice y.a y.len y.cap] T.towpathref07_Table) :: slc T.towpathref07_Row 7 y (A.rows.flatMap encW) :: pt a0 (.cells #[.int .i64 b.base, .int .i64 b.pid, .int .i64 b.epoch, .int .i64 b.seq, .int .i64 b.kind, .int .i64 b.time, .slice b.x.a b.x.len b.x.cap] T.api_Batch) :: r) := hs.sub
      exact wp_lv (dt_mk ⟨A.most, b.base + spanB b, A.rows⟩ hs)
    clear hs
    rintro _ w hs
    refine wp_on ?_
    refine wp_ldO hs ?_
    refine wp_if (fun h0 => ?_) fun h0 => ?_
    · have e : nextT A b = ⟨A.most, b.base + spanB b, A.rows⟩ := by unfold nextT; rw [if_pos h0]
      refine ⟨rfl, rfl, ?_⟩
      show Sat _ (dtP q (nextT A b) :: r)
      rw [e]; exact hs.sub
    have e : nextT A b = ⟨A.most, b.base + spanB b, putL (rowN A b) A.rows⟩ := by unfold nextT; rw [if_neg h0]
    show _
    refine wp_ldO hs ?_
    refine wp_call (dRow_c (q := q) b.pid (A := ⟨A.most, b.base + spanB b, A.rows⟩) hmany hs) fun _ w' hs => ?_
    have eF : rowF ⟨A.most, b.base + spanB b, A.rows⟩ b.pid = rowF A b.pid := rfl
    have eO : rowO ⟨A.most, b.base + spanB b, A.rows⟩ b.pid = rowO A b.pid := rfl
    rw [eF, eO] at hs
    obtain ⟨rfl, hs⟩ := hs
    refine ret_of (x := ((rowF A b.pid).pid, (rowF A b.pid).epoch, (rowF A b.pid).seq, (rowF A b.pid).count, (rowF A b.pid).base, (rowF A b.pid).frm, (rowF A b.pid).time, (rowO A b.pid).isSome, ())) ?_
    have hbl := hs.slen b.x (xs := b.rs) (enc := encR)
    have hlate : lateF A b = if (rowO A b.pid).isSome = true ∧ (rowF A b.pid).time > b.time then (rowF A b.pid).time else b.time := by
      unfold lateF rowF
      cases rowO A b.pid with
      | none => simp
      | some u => simp
    have hFr : (rowF A b.pid).pid = b.pid := (rowF_ok hok b.pid).2.2.2.2.2.2
    refine wp_newO hs fun a40 w' hs => ?_
    refine wp_stG hs fun w' hs => ?_
    refine wp_lt ?_
    refine wp_ldO hs ?_
    refine wp_ldO hs ?_
    refine wp_ldO hs ?_
    refine wp_ldO hs ?_
    refine wp_ldO hs ?_
    refine wp_ldO hs ?_
    refine wp_ldO hs ?_
    refine wp_newO hs fun a49 w' hs => ?_
    refine wp_stG hs fun w' hs => ?_
    refine wp_ldO hs ?_
    refine wp_ldO hs ?_
    have hs : Sat w' (pt a49 (.cells #[.int .i64 b.pid, .int .i64 b.epoch, .int .i64 b.seq, .int .i64 ((b.x.len : Nat) : Int), .int .i64 b.base, .int .i64 (rowF A b.pid).frm, .int .i64 b.time] T.towpathref07_Row) :: pt a40 (.cells #[.int .i64 (rowF A b.pid).pid, .int .i64 (rowF A b.pid).epoch, .int .i64 (rowF A b.pid).seq, .int .i64 (rowF A b.pid).count, .int .i64 (rowF A b.pid).base, .int .i64 (rowF A b.pid).frm, .int .i64 (rowF A b.pid).time] T.towpathref07_Row) ::
      dtP q ⟨A.most, b.base + spanB b, A.rows⟩ :: pt a0 (.cells #[.int .i64 b.base, .int .i64 b.pid, .int .i64 b.epoch, .int .i64 b.seq, .int .i64 b.kind, .int .i64 b.time, .slice b.x.a b.x.len b.x.cap] T.api_Batch) :: r) := hs
    refine wp_mid (fun _ w' => Sat w' (pt a49 (.cells #[.int .i64 b.pid, .int .i64 b.epoch, .int .i64 b.seq, .int .i64 ((b.x.len : Nat) : Int), .int .i64 b.base, .int .i64 (frmF A b), .int .i64 b.time] T.towpathref07_Row) :: pt a40 (.cells #[.int .i64 (rowF A b.pid).pid, .int .i64 (rowF A b.pid).epoch, .int .i64 (rowF A b.pid).seq, .int .i64 (rowF A b.pid).count, .int .i64 (rowF A b.pid).base, .int .i64 (rowF A b.pid).frm, .int .i64 (rowF A b.pid).time] T.towpathref07_Row) ::
      dtP q ⟨A.most, b.base + spanB b, A.rows⟩ :: pt a0 (.cells #[.int .i64 b.base, .int .i64 b.pid, .int .i64 b.epoch, .int .i64 b.seq, .int .i64 b.kind, .int .i64 b.time, .slice b.x.a b.x.len b.x.cap] T.api_Batch) :: r)) ?_ ?_
    · refine wp_if (fun h => ?_) fun h => ?_
      · have hfr : frmF A b = b.base := by unfold frmF; rw [if_pos h]
        refine wp_ldO hs ?_
        refine wp_stO hs fun w' hs => ?_
        refine wp_lv ?_
        rw [hfr]; exact hs
      · have hfr : frmF A b = (rowF A b.pid).frm := by unfold frmF; rw [if_neg h]
        refine wp_lv ?_
        rw [hfr]; exact hs
    clear hs
    rintro _ w hs
    refine wp_on ?_
    refine wp_ldG hs ?_
    refine wp_call (dmark_c b hs) fun _ _ hs => ?_
    obtain ⟨rfl, hs⟩ := hs
    refine ret_of ?_
    obtain ⟨N0, hN0, hN⟩ : ∃ N0 : RowA, N0 = (if markB b = true then (⟨b.pid, b.epoch + 1, 0, 0, 0, -1, b.time⟩ : RowA) else ⟨b.pid, b.epoch, b.seq, (b.x.len : Nat), b.base, frmF A b, b.time⟩) ∧ rowN A b = ⟨N0.pid, N0.epoch, N0.seq, N0.count, N0.base, N0.frm, lateF A b⟩ := ⟨_, rfl, by unfold rowN; rw [hbl]; split <;> rfl⟩
    have hN0t : N0.time = b.time := by rw [hN0]; split <;> rfl
    refine wp_mid (fun _ w' => Sat w' (pt a49 (.cells #[.int .i64 N0.pid, .int .i64 N0.epoch, .int .i64 N0.seq, .int .i64 N0.count, .int .i64 N0.base, .int .i64 N0.frm, .int .i64 b.time] T.towpathref07_Row) :: pt a40 (.cells #[.int .i64 (rowF A b.pid).pid, .int .i64 (rowF A b.pid).epoch, .int .i64 (rowF A b.pid).seq, .int .i64 (rowF A b.pid).count, .int .i64 (rowF A b.pid).base, .int .i64 (rowF A b.pid).frm, .int .i64 (rowF A b.pid).time] T.towpathref07_Row) ::
      dtP q ⟨A.most, b.base + spanB b, A.rows⟩ :: r)) ?_ ?_
    · rw [hN0]
      refine wp_if (fun h => ?_) fun h => ?_
      · rw [if_pos h]
        refine wp_ldO hs ?_
        refine wp_ldO hs ?_
        refine wp_ldO hs ?_
        rw [w64 (x := b.epoch + 1) (by omega) (by omega)]
        refine wp_stG hs fun w' hs => ?_
        exact wp_lv hs.sub
      · rw [if_neg h]
        exact wp_lv hs.sub
    clear hs
    rintro _ w hs
    refine wp_on ?_
    refine wp_ldO hs ?_
    refine wp_ldO hs ?_
    refine wp_mid (fun _ w' => Sat w' (pt a49 (.cells #[.int .i64 N0.pid, .int .i64 N0.epoch, .int .i64 N0.seq, .int .i64 N0.count, .int .i64 N0.base, .int .i64 N0.frm, .int .i64 (lateF A b)] T.towpathref07_Row) :: dtP q ⟨A.most, b.base + spanB b, A.rows⟩ :: r)) ?_ ?_
    · rw [hlate]
      refine wp_if (fun h => ?_) fun h => ?_
      · rw [if_pos h]
        refine wp_ldO hs ?_
        refine wp_stO hs fun w' hs => ?_
        exact wp_lv hs.sub
      · rw [if_neg h]
        exact wp_lv hs.sub
    clear hs
    rintro _ w hs
    refine wp_on ?_
    refine wp_ldG hs ?_
    have hs : Sat w (dtP q ⟨A.most, b.base + spanB b, A.rows⟩ :: r) := hs.sub
    refine wp_call (dput_c (q := q) (A := ⟨A.most, b.base + spanB b, A.rows⟩) ⟨N0.pid, N0.epoch, N0.seq, N0.count, N0.base, N0.frm, lateF A b⟩ hok.byPid hmany hs) fun _ w' hs => ?_
    obtain ⟨rfl, hs⟩ := hs
    refine ret_of ?_
    rw [← hN] at hs
    refine ⟨rfl, rfl, ?_⟩
    show Sat _ (dtP q (nextT A b) :: r)
    rw [e]; exact hs

theorem dexpire_c (time : Int) (hmany : A.rows.length ≤ 4096) [hf : Fo l dtP q A r] (hs : Sat w l) : Ret P F.towpathref07_Table_Expire #[.pointer (some ⟨q, 0, none⟩), .int .i64 time] w fun vs w' => ∃ z : Sl, vs = [z.v] ∧ Sat w' (slc T.int64 1 z ((goneL time A.rows).flatMap encI) :: dtP q (expireT A time) :: r) :=
  towpathref07_Table_Expire_calls _ _ <| by
    unfold towpathref07_Table_Expire
    obtain ⟨x, hs⟩ := dt_open (hs.perm hf.perm)
    have hxl := hs.slen x (xs := A.rows) (enc := encW)
    refine wp_nn ?_
    refine wp_ldO hs ?_
    refine wp_mid (fun u w' => ∃ z y : Sl, u = (z, y, ()) ∧ Sat w' (slc T.int64 1 z ((goneL time A.rows).flatMap encI) :: slc T.towpathref07_Row 7 y ((leftL time A.rows).flatMap encW) :: pt q (.cells #[.int .i64 A.most, .int .i64 A.next, .slice x.a x.len x.cap] T.towpathref07_Table) :: r)) ?_ ?_
    · refine wp_loop (fun k u w => ∃ (i : Nat) (z y : Sl), u = (z, y, (i : Int), ()) ∧ i ≤ A.rows.length ∧ A.rows.length - i = k ∧ Sat w (slc T.int64 1 z ((goneL time (A.rows.take i)).flatMap encI) :: slc T.towpathref07_Row 7 y ((leftL time (A.rows.take i)).flatMap encW) :: pt q (.cells #[.int .i64 A.most, .int .i64 A.next, .slice x.a x.len x.cap] T.towpathref07_Table) :: slc T.towpathref07_Row 7 x (A.rows.flatMap encW) :: r)) A.rows.length
        ⟨0, ⟨none, 0, 0⟩, ⟨none, 0, 0⟩, rfl, by omega, rfl, (hs.slc_nil (T := T.towpathref07_Row) (sz := 7)).slc_nil⟩ ?_
      clear hs
      rintro k _ w ⟨i, z, y, rfl, hi, hk, hs⟩
      refine wp_on ?_
      refine wp_if (fun hc => ?_) fun hc => ?_
      rotate_left
      · rw [List.take_of_length_le (by omega)] at hs
        exact wp_pass (wp_lv ⟨z, y, rfl, hs.sub⟩)
      have hil : i < A.rows.length := by omega
      have hg : goneL time (A.rows.take (i + 1)) = goneL time (A.rows.take i) ++ if A.rows[i].frm < 0 ∧ A.rows[i].time < time then [A.rows[i].pid] else [] := by
        unfold goneL
        rw [List.take_succ_eq_append_getElem hil, List.filter_append, List.map_append]
        congr 1
        split <;> simp [*]
      have hl : leftL time (A.rows.take (i + 1)) = leftL time (A.rows.take i) ++ if A.rows[i].frm < 0 ∧ A.rows[i].time < time then [] else [A.rows[i]] := by
        unfold leftL
        rw [List.take_succ_eq_append_getElem hil, List.filter_append]
        congr 1
        by_cases h : A.rows[i].frm < 0 ∧ A.rows[i].time < time
        · rw [if_pos h]; simp [h]
        · rw [if_neg h, List.filter_cons, if_pos (by rw [decide_eq_false h]; rfl), List.filter_nil]
      have hgl : (goneL time (A.rows.take i)).length ≤ 4096 := by
        rw [gone_eq, List.length_map]
        exact Nat.le_trans (List.length_filter_le _ _) (by rw [List.length_take]; omega)
      have hll : (leftL time (A.rows.take i)).length ≤ 4096 := Nat.le_trans (List.length_filter_le _ _) (by rw [List.length_take]; omega)
      refine wp_ixA hs (xs := A.rows) (enc := encW) i hil ?_
      generalize A.rows[i] = v at *
      refine wp_newO hs fun c w' hs => ?_
      refine wp_stG hs fun w' hs => ?_
      refine wp_ldO hs ?_
      refine wp_ldO hs ?_
      refine wp_mid (fun u w' => ∃ z y : Sl, u = (z, y, ()) ∧ Sat w' (slc T.int64 1 z ((goneL time (A.rows.take (i + 1))).flatMap encI) :: slc T.towpathref07_Row 7 y ((leftL time (A.rows.take (i + 1))).flatMap encW) :: pt q (.cells #[.int .i64 A.most, .int .i64 A.next, .slice x.a x.len x.cap] T.towpathref07_Table) :: slc T.towpathref07_Row 7 x (A.rows.flatMap encW) :: r)) ?_ ?_
      · rw [hg, hl]
        refine wp_if (fun h => ?_) fun h => ?_
        · rw [if_pos h, if_pos h, List.append_nil]
          refine wp_ldO hs ?_
          refine wp_ap0 hs (xs := goneL time (A.rows.take i)) (enc := encI) v.pid (fun z w' hs => ?_)
          exact wp_lv ⟨z, y, rfl, hs.sub⟩
        · rw [if_neg h, if_neg h, List.append_nil]
          refine wp_ldG hs ?_
          refine wp_ap0 hs (xs := leftL time (A.rows.take i)) (enc := encW) v (fun y w' hs => ?_)
          exact wp_lv ⟨z, y, rfl, hs.sub⟩
      clear hs
      rintro _ w ⟨z, y, rfl, hs⟩
      refine wp_on ?_
      refine wp_dn (us' := [z.v, y.v, .int .i64 ((i + 1 : Nat) : Int)]) (by (try simp (disch := omega) only [w64]); first | rfl | (congr; omega)) ?_
      refine wp_lp (A.rows.length - (i + 1)) ?_
      exact ⟨i + 1, z, y, rfl, by omega, rfl, hs⟩
    clear hs
    rintro _ w ⟨z, y, rfl, hs⟩
    refine wp_on ?_
    refine wp_nn ?_
    refine wp_stO hs fun w' hs => ?_
    have hs : Sat w' (pt q (.cells #[.int .i64 A.most, .int .i64 A.next, .slice y.a y.len y.cap] T.towpathref07_Table) :: slc T.towpathref07_Row 7 y ((leftL time A.rows).flatMap encW) :: slc T.int64 1 z ((goneL time A.rows).flatMap encI) :: r) := hs.sub
    exact ⟨rfl, z, rfl, (dt_mk (expireT A time) hs).pick [1]⟩
end
end Go.Dec
