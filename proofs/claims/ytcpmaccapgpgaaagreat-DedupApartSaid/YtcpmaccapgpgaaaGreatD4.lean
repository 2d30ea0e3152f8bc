/- Dedup: Take, its contract. -/
import Derived.Test.YtcpmaccapgpgaaaGreatD3
namespace Go.Dec
set_option linter.unusedVariables false
set_option linter.unusedSimpArgs false

theorem key_he {A : TabA} (hok : okTb A) (pid : Int) : (∃ v0, (keyed A.rows).Perm ((pid, v0) :: keyed (restL pid A.rows))) ∨ ((∀ v, (pid, v) ∉ keyed A.rows) ∧ keyed (restL pid A.rows) = keyed A.rows) := by
  rcases rowO_look A pid with ⟨y, hy, -⟩ | ⟨hn, hno⟩
  · left
    refine ⟨y, ?_⟩
    have h := (rest_perm (rowO_some hy).1 hok.byPid).map fun r : RowA => (r.pid, r)
    rw [(rowO_some hy).2, List.map_cons, (rowO_some hy).2] at h
    exact h
  · right
    exact ⟨hno, by rw [rest_none (rowO_none hn)]⟩
theorem key_put (x : RowA) (rs : List RowA) : ((x.pid, x) :: keyed (restL x.pid rs)).Perm (keyed (putL x rs)) := ((put_perm x rs).map fun r : RowA => (r.pid, r)).symm
theorem next_ok1 {A : TabA} {n : Int} (hok : okTb A) (h1 : A.next ≤ n) (h2 : n ≤ 1099511627777) : okTb ⟨A.most, n, A.rows⟩ :=
  ⟨hok.most, ⟨by have := hok.next; show 0 ≤ n; omega, h2⟩, hok.many, fun r hr => by
    have h := hok.row r hr
    exact ⟨h.pid, h.epoch, h.time, h.count, h.seq, h.base, h.frm, h.none_, fun hc => by have := h.some_ hc; show _ ∧ _ ∧ _ ≤ n ∧ _; omega⟩, hok.byPid, hok.apart⟩

section
variable {w : World} {l r r1 r2 l' : List HP} {t : Nat} {A : TabA}

theorem ttake_c (b : BatM) [hf : Fo l tb t A r] [hb : FocR r b.x 4 (b.rs.flatMap encR)] (hs : Sat w l) :
    Ret P F.dedup_Table_Take #[.pointer (some ⟨t, 0, none⟩), .agg (encB7 b).toArray] w fun vs w' => vs = [.int .i64 (takeT A b).1] ∧ Sat w' (tb t (takeT A b).2 :: r) :=
  dedup_Table_Take_calls _ b.base b.pid b.epoch b.seq b.kind b.time b.x <| by
    unfold dedup_Table_Take takeT
    have hs : Sat w (tb t A :: r) := hs.perm hf.perm
    have hok := tb_ok hs
    refine wp_boxO hs fun a0 w' hs => ?_
    refine wp_ldG hs ?_
    refine wp_call (tjudge_c b hs) fun _ _ hs => ?_
    obtain ⟨rfl, hs⟩ := hs
    refine ret_of ?_
    have hnx := next_ok (b := b) hok
    have hjf := judge_fresh (A := A) (b := b)
    generalize hje : judgeA A b = j at *
    obtain ⟨v, e⟩ := j
    refine wp_newO hs fun a11 w' hs => ?_
    refine wp_stG hs fun w' hs => ?_
    refine wp_lt ?_
    refine wp_lt ?_
    refine wp_if (fun h => ?_) fun h => ?_
    · rw [if_pos h]
      refine wp_lt ?_
      exact ⟨rfl, rfl, hs.sub⟩
    have he : e = 0 := Decidable.not_not.1 h
    subst he
    rw [if_neg (by simp)]
    refine wp_ldO hs ?_
    refine wp_lt ?_
    refine wp_if (fun h => ?_) fun h => ?_
    · rw [if_pos h]
      exact ⟨rfl, rfl, hs.sub⟩
    rw [if_neg h]
    have hag : v.again = false := by simpa using h
    refine wp_tk hs fun w' hs => ?_
    refine wp_ldO hs ?_
    refine wp_nn ?_
    have hs : Sat w' (tb t A :: pt a11 (.cells #[.bool v.again, .int .i64 v.base] T.dedup_Verdict) :: pt a0 (.cells #[.int .i64 b.base, .int .i64 b.pid, .int .i64 b.epoch, .int .i64 b.seq, .int .i64 b.kind, .int .i64 b.time, .slice b.x.a b.x.len b.x.cap] T.api_Batch) :: r) := hs.sub
    obtain ⟨m, -, hs⟩ := tb_open hs
    refine wp_ldO hs ?_
    refine wp_lt ?_
    refine wp_untick ?_
    refine wp_if (fun h => ?_) fun h => ?_
    · rw [if_pos h]
      exact ⟨rfl, rfl, tb_close m hok hs⟩
    rw [if_neg h]
    have hok' := hnx rfl hag (by omega)
    obtain ⟨hv, hj⟩ := hjf rfl hag
    obtain ⟨hs1, hs2, hnum, hfit, hn2⟩ := span_le b hv
    have hne := hnum.2.2.2.1
    refine wp_ldG hs ?_
    refine wp_call (next_c_ b hs) fun _ _ hs => ?_
    obtain ⟨rfl, hs⟩ := hs
    refine ret_of ?_
    have hnb : nextB b = b.base + spanB b := by unfold nextB; rw [if_neg (by rw [hv]; simp)]
    rw [hnb]
    refine wp_nn ?_
    refine wp_stO hs fun w' hs => ?_
    refine wp_ldO hs ?_
    have hok1 : okTb ⟨A.most, b.base + spanB b, A.rows⟩ := next_ok1 hok (by omega) hn2
    refine wp_if (fun h0 => ?_) fun h0 => ?_
    · refine ⟨rfl, rfl, ?_⟩
      have e : nextT A b = ⟨A.most, b.base + spanB b, A.rows⟩ := by unfold nextT; rw [if_pos h0]
      show Sat _ (tb t (nextT A b) :: r)
      rw [e]
      exact tb_close m hok1 hs
    have e : nextT A b = ⟨A.most, b.base + spanB b, putL (rowN A b) A.rows⟩ := by unfold nextT; rw [if_neg h0]
    show _
    refine wp_ldO hs ?_
    have hs : Sat _ (tb t ⟨A.most, b.base + spanB b, A.rows⟩ :: pt a11 (.cells #[.bool v.again, .int .i64 v.base] T.dedup_Verdict) :: pt a0 (.cells #[.int .i64 b.base, .int .i64 b.pid, .int .i64 b.epoch, .int .i64 b.seq, .int .i64 b.kind, .int .i64 b.time, .slice b.x.a b.x.len b.x.cap] T.api_Batch) :: r) := tb_close m hok1 hs
    refine wp_call (trow_c b.pid hs) fun _ _ hs => ?_
    obtain ⟨rfl, hs⟩ := hs
    refine ret_of ?_
    have eF : rowF ⟨A.most, b.base + spanB b, A.rows⟩ b.pid = rowF A b.pid := rfl
    have eO : rowO ⟨A.most, b.base + spanB b, A.rows⟩ b.pid = rowO A b.pid := rfl
    rw [eF, eO]
    have hFok := rowF_ok hok b.pid
    have hkeys := key_he hok b.pid
    have hkp := key_put (rowN A b) A.rows
    rw [rowN_pid] at hkp
    refine wp_newO hs fun a42 w' hs => ?_
    refine wp_stG hs fun w' hs => ?_
    refine wp_lt ?_
    refine wp_ldO hs ?_
    refine wp_lt ?_
    have hs : Sat _ (tb t ⟨A.most, b.base + spanB b, A.rows⟩ :: pt a42 (.cells #[.int .i64 (rowF A b.pid).pid, .int .i64 (rowF A b.pid).epoch, .int .i64 (rowF A b.pid).seq, .int .i64 (rowF A b.pid).count, .int .i64 (rowF A b.pid).base, .int .i64 (rowF A b.pid).frm, .int .i64 (rowF A b.pid).time] T.dedup_Row) ::
      pt a0 (.cells #[.int .i64 b.base, .int .i64 b.pid, .int .i64 b.epoch, .int .i64 b.seq, .int .i64 b.kind, .int .i64 b.time, .slice b.x.a b.x.len b.x.cap] T.api_Batch) :: r) := hs.sub
    refine wp_mid (fun v w' => v = (lateF A b, ()) ∧ Sat w' (tb t ⟨A.most, b.base + spanB b, A.rows⟩ :: pt a42 (.cells #[.int .i64 (rowF A b.pid).pid, .int .i64 (rowF A b.pid).epoch, .int .i64 (rowF A b.pid).seq, .int .i64 (rowF A b.pid).count, .int .i64 (rowF A b.pid).base, .int .i64 (rowF A b.pid).frm, .int .i64 (rowF A b.pid).time] T.dedup_Row) ::
      pt a0 (.cells #[.int .i64 b.base, .int .i64 b.pid, .int .i64 b.epoch, .int .i64 b.seq, .int .i64 b.kind, .int .i64 b.time, .slice b.x.a b.x.len b.x.cap] T.api_Batch) :: r)) ?_ ?_
    · unfold lateF rowF at *
      cases ho : rowO A b.pid with
      | none =>
        rw [ho] at hs
        refine wp_ifF ?_ (by simp)
        exact wp_lv ⟨rfl, hs⟩
      | some y =>
        rw [ho] at hs
        refine wp_ifT ?_ (by simp)
        refine wp_ldO hs ?_
        refine wp_lt ?_
        exact wp_lv ⟨rfl, hs⟩
    clear hs
    rintro _ w ⟨rfl, hs⟩
    refine wp_on ?_
    refine wp_ldO hs ?_
    obtain ⟨m, -, hs⟩ := tb_open hs
    have hfin : ∀ {w : World}, Sat w (tb t (nextT A b) :: r) → 0 = 0 ∧ ([.int .i64 0] : List Value) = [.int .i64 0] ∧ Sat w (tb t (nextT A b) :: r) := fun h => ⟨rfl, rfl, h⟩
    refine wp_mid (fun _ w' => Sat w' (tb t (nextT A b) :: r)) ?_ (by rintro _ w' hs; refine wp_on ?_; exact ⟨rfl, rfl, hs⟩)
    refine wp_mid (fun _ w' => markB b = false ∧ Sat w' (pt t (.cells #[.int .i64 A.most, .int .i64 (b.base + spanB b), .map (some m)] T.dedup_Table) :: mapP ekI evW m (keyed A.rows) :: pt a42 (.cells #[.int .i64 (rowF A b.pid).pid, .int .i64 (rowF A b.pid).epoch, .int .i64 (rowF A b.pid).seq, .int .i64 (rowF A b.pid).count, .int .i64 (rowF A b.pid).base, .int .i64 (frmF A b), .int .i64 (rowF A b.pid).time] T.dedup_Row) ::
      pt a0 (.cells #[.int .i64 b.base, .int .i64 b.pid, .int .i64 b.epoch, .int .i64 b.seq, .int .i64 b.kind, .int .i64 b.time, .slice b.x.a b.x.len b.x.cap] T.api_Batch) :: r)) ?_ ?_
    · refine wp_lt ?_
      refine wp_mid (fun v w' => v = (markB b, ()) ∧ Sat w' (pt t (.cells #[.int .i64 A.most, .int .i64 (b.base + spanB b), .map (some m)] T.dedup_Table) :: mapP ekI evW m (keyed A.rows) :: pt a42 (.cells #[.int .i64 (rowF A b.pid).pid, .int .i64 (rowF A b.pid).epoch, .int .i64 (rowF A b.pid).seq, .int .i64 (rowF A b.pid).count, .int .i64 (rowF A b.pid).base, .int .i64 (rowF A b.pid).frm, .int .i64 (rowF A b.pid).time] T.dedup_Row) ::
        pt a0 (.cells #[.int .i64 b.base, .int .i64 b.pid, .int .i64 b.epoch, .int .i64 b.seq, .int .i64 b.kind, .int .i64 b.time, .slice b.x.a b.x.len b.x.cap] T.api_Batch) :: r)) ?_ ?_
      · refine wp_if (fun h => ?_) fun h => ?_
        · exact wp_lv ⟨by unfold markB; rw [show (b.kind == 2) = true by simpa using h, decide_eq_true (by simpa using h)]; rfl, hs⟩
        · refine wp_lt ?_
          exact wp_lv ⟨by unfold markB; rw [decide_eq_false (p := b.kind = 2) (by simpa using h)]; rfl, hs⟩
      clear hs
      rintro _ w ⟨rfl, hs⟩
      refine wp_on ?_
      refine wp_if (fun hm => ?_) fun hm => ?_
      · refine wp_tk hs fun w' hs => ?_
        refine wp_nn ?_
        refine wp_ldO hs ?_
        refine wp_ldO hs ?_
        refine wp_ldO hs ?_
        refine wp_ldO hs ?_
        have eN : rowN A b = ⟨b.pid, b.epoch + 1, 0, 0, 0, -1, lateF A b⟩ := by unfold rowN; rw [if_pos hm]
        rw [w64 (x := b.epoch + 1) (by omega) (by omega)]
        refine wp_mset hs _ hkeys (rowN A b) (fun w' hs => ?_) (by rw [eN])
        refine wp_untick ?_
        refine wp_pass (wp_pass ?_)
        exact ⟨rfl, rfl, by show Sat _ (tb t (nextT A b) :: r); exact e ▸ tb_close m (A := ⟨A.most, b.base + spanB b, putL (rowN A b) A.rows⟩) (e ▸ hok') hs hkp⟩
      have hm : markB b = false := by simpa using hm
      refine wp_lt ?_
      refine wp_if (fun h => ?_) fun h => ?_
      · refine wp_ldG hs ?_
        refine wp_call (ropen_c (rowF A b.pid) hs) fun _ _ hs => ?_
        obtain ⟨rfl, hs⟩ := hs
        refine ret_of ?_
        refine wp_mid (fun _ w' => Sat w' (pt t (.cells #[.int .i64 A.most, .int .i64 (b.base + spanB b), .map (some m)] T.dedup_Table) :: mapP ekI evW m (keyed A.rows) :: pt a42 (.cells #[.int .i64 (rowF A b.pid).pid, .int .i64 (rowF A b.pid).epoch, .int .i64 (rowF A b.pid).seq, .int .i64 (rowF A b.pid).count, .int .i64 (rowF A b.pid).base, .int .i64 (frmF A b), .int .i64 (rowF A b.pid).time] T.dedup_Row) ::
          pt a0 (.cells #[.int .i64 b.base, .int .i64 b.pid, .int .i64 b.epoch, .int .i64 b.seq, .int .i64 b.kind, .int .i64 b.time, .slice b.x.a b.x.len b.x.cap] T.api_Batch) :: r)) ?_ (by rintro _ w' hs; refine wp_on ?_; exact wp_lv ⟨hm, hs⟩)
        refine wp_if (fun h2 => ?_) fun h2 => ?_
        · refine wp_ldO hs ?_
          refine wp_stO hs fun w' hs => ?_
          refine wp_lv ?_
          have : frmF A b = b.base := by unfold frmF; rw [if_pos ⟨h, by simpa using h2⟩]
          rw [this]; exact hs.sub
        · refine wp_lv ?_
          have : frmF A b = (rowF A b.pid).frm := by unfold frmF; rw [if_neg (fun h3 => h2 (by simpa using h3.2))]
          rw [this]; exact hs
      · refine wp_lv ⟨hm, ?_⟩
        have : frmF A b = (rowF A b.pid).frm := by unfold frmF; rw [if_neg (fun h3 => h h3.1)]
        rw [this]; exact hs
    clear hs
    rintro _ w ⟨hm, hs⟩
    refine wp_on ?_
    have hl := hs.slen b.x (xs := b.rs) (enc := encR)
    refine wp_tk hs fun w' hs => ?_
    refine wp_nn ?_
    refine wp_ldO hs ?_
    refine wp_ldO hs ?_
    refine wp_ldO hs ?_
    refine wp_ldO hs ?_
    refine wp_ldO hs ?_
    refine wp_ldO hs ?_
    refine wp_ldO hs ?_
    refine wp_ldO hs ?_
    have eN : rowN A b = ⟨b.pid, b.epoch, b.seq, b.rs.length, b.base, frmF A b, lateF A b⟩ := by unfold rowN; rw [if_neg (by rw [hm]; simp)]
    refine wp_mset hs _ hkeys (rowN A b) (fun w' hs => ?_) (by rw [eN, hl])
    refine wp_untick ?_
    refine wp_lv ?_
    exact e ▸ tb_close m (A := ⟨A.most, b.base + spanB b, putL (rowN A b) A.rows⟩) (e ▸ hok') hs hkp
end
end Go.Dec
