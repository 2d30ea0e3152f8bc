/- Dedup: again, fresh, Judge. -/
import Derived.Test.YtcpmaccapgpgaaaGreatD1
namespace Go.Dec
set_option linter.unusedVariables false
set_option linter.unusedSimpArgs false

structure VerA where
  again : Bool
  base : Int
def encVd (v : VerA) : List Value := [.bool v.again, .int .i64 v.base]
def againV (r : RowA) (b : BatM) : VerA × Bool :=
  if b.epoch ≠ r.epoch ∨ b.seq + b.rs.length > r.seq + r.count then (⟨false, 0⟩, false) else if b.seq = r.seq ∧ (b.rs.length : Int) = r.count then (⟨true, r.base⟩, true) else (⟨true, -1⟩, true)
def freshA (A : TabA) (r : RowA) (there : Bool) (b : BatM) : Int :=
  if 0 ≤ r.frm ∧ (b.epoch > r.epoch ∨ b.kind = 0) then 22
  else if markB b = false ∧ b.seq ≠ (if b.epoch > r.epoch then 0 else r.seq + r.count) then 21
  else if there = false ∧ (A.rows.length : Int) ≥ A.most then 5 else 0
def judgeA (A : TabA) (b : BatM) : VerA × Int :=
  if validB b ≠ 0 ∨ b.pid = 0 then (⟨false, 0⟩, validB b)
  else if b.epoch < (rowF A b.pid).epoch then (if markB b then (⟨true, -1⟩, 0) else (⟨false, 0⟩, 20))
  else if markB b = false ∧ (againV (rowF A b.pid) b).2 = true then ((againV (rowF A b.pid) b).1, 0)
  else (⟨false, 0⟩, freshA A (rowF A b.pid) (rowO A b.pid).isSome b)
instance {v : VerA} {b : Bool} : IsR (.tup [.agg [.bool, .int .i64], .one .bool]) [.agg (encVd v).toArray, .bool b] (v.again, v.base, b, ()) := ⟨rfl⟩
instance {v : VerA} {n : Int} : IsR (.tup [.agg [.bool, .int .i64], .one (.int .i64)]) [.agg (encVd v).toArray, .int .i64 n] (v.again, v.base, n, ()) := ⟨rfl⟩

section
variable {w : World} {l r r1 r2 l' : List HP} {t : Nat} {A : TabA}

theorem tagain_c (x : RowA) (b : BatM) [hb : FocR l b.x 4 (b.rs.flatMap encR)] (h1 : 0 ≤ x.seq + x.count ∧ x.seq + x.count ≤ 2147483648) (h2 : 0 ≤ b.seq ∧ b.seq ≤ 2147483647) (h3 : b.rs.length ≤ 64) (hs : Sat w l) :
    Ret P F.dedup_again #[.agg (encW x).toArray, .agg (encB7 b).toArray] w fun vs w' => vs = [.agg (encVd (againV x b).1).toArray, .bool (againV x b).2] ∧ Sat w' l :=
  dedup_again_calls x.pid x.epoch x.seq x.count x.base x.frm x.time b.base b.pid b.epoch b.seq b.kind b.time b.x <| by
    unfold dedup_again againV
    have hl := hs.slen b.x (xs := b.rs) (enc := encR)
    refine wp_boxO hs fun a0 w' hs => ?_
    refine wp_boxO hs fun a1 w' hs => ?_
    refine wp_newO hs fun a2 w' hs => ?_
    have hs : Sat w' (pt a2 (.cells #[.bool false, .int .i64 0] T.dedup_Verdict) :: pt a1 (.cells #[.int .i64 b.base, .int .i64 b.pid, .int .i64 b.epoch, .int .i64 b.seq, .int .i64 b.kind, .int .i64 b.time, .slice b.x.a b.x.len b.x.cap] T.api_Batch) ::
      pt a0 (.cells #[.int .i64 x.pid, .int .i64 x.epoch, .int .i64 x.seq, .int .i64 x.count, .int .i64 x.base, .int .i64 x.frm, .int .i64 x.time] T.dedup_Row) :: l) := hs
    refine wp_mid (fun v w' => v = (decide (b.epoch ≠ x.epoch ∨ b.seq + b.rs.length > x.seq + x.count), ()) ∧ Sat w' (pt a2 (.cells #[.bool false, .int .i64 0] T.dedup_Verdict) :: pt a1 (.cells #[.int .i64 b.base, .int .i64 b.pid, .int .i64 b.epoch, .int .i64 b.seq, .int .i64 b.kind, .int .i64 b.time, .slice b.x.a b.x.len b.x.cap] T.api_Batch) ::
      pt a0 (.cells #[.int .i64 x.pid, .int .i64 x.epoch, .int .i64 x.seq, .int .i64 x.count, .int .i64 x.base, .int .i64 x.frm, .int .i64 x.time] T.dedup_Row) :: l)) ?_ ?_
    · refine wp_tk hs fun w' hs => ?_
      refine wp_ldO hs ?_
      refine wp_ldO hs ?_
      refine wp_hdO hs ?_
      refine wp_hdO hs ?_
      refine wp_ldG hs ?_
      refine wp_if (fun h => ?_) fun h => ?_
      · refine wp_untick ?_
        exact wp_lv ⟨by rw [decide_eq_true (.inl h)], hs⟩
      · refine wp_call (rnext_c x h1 hs) fun _ w' hs => ?_
        obtain ⟨rfl, hs⟩ := hs
        refine ret_of ?_ ⟨⟨trivial, fun _ => run_ldO hs⟩, fun _ => run_ldO hs⟩
        refine wp_untick ?_
        refine wp_lv ⟨?_, hs⟩
        rw [w64 (by omega) (by omega), hl]
        have : (b.epoch ≠ x.epoch ∨ b.seq + b.rs.length > x.seq + x.count) ↔ b.seq + ((b.rs.length : Nat) : Int) > x.seq + x.count := ⟨fun h' => h'.resolve_left h, .inr⟩
        rw [decide_eq_decide.2 this]
    clear hs
    rintro _ w ⟨rfl, hs⟩
    refine wp_on ?_
    refine wp_if (fun h => ?_) fun h => ?_
    · rw [if_pos h]
      refine wp_stG hs fun w' hs => ?_
      refine wp_ldG hs ?_
      exact ⟨rfl, rfl, hs.sub⟩
    rw [if_neg h]
    refine wp_ldO hs ?_
    refine wp_ldO hs ?_
    refine wp_ldO hs ?_
    refine wp_ldO hs ?_
    refine wp_if (fun h => ?_) fun h => ?_
    · rw [if_pos (by rw [hl] at h; exact h)]
      refine wp_ldO hs ?_
      refine wp_stG hs fun w' hs => ?_
      refine wp_ldG hs ?_
      exact ⟨rfl, rfl, hs.sub⟩
    · rw [if_neg (by rw [hl] at h; exact h)]
      refine wp_stG hs fun w' hs => ?_
      refine wp_ldG hs ?_
      exact ⟨rfl, rfl, hs.sub⟩

theorem tfresh_c (x : RowA) (there : Bool) (b : BatM) [hf : Fo l tb t A r] (h1 : 0 ≤ x.seq + x.count ∧ x.seq + x.count ≤ 2147483648) (hs : Sat w l) :
    Ret P F.dedup_Table_fresh #[.pointer (some ⟨t, 0, none⟩), .agg (encW x).toArray, .bool there, .agg (encB7 b).toArray] w fun vs w' => vs = [.int .i64 (freshA A x there b)] ∧ Sat w' (tb t A :: r) :=
  dedup_Table_fresh_calls _ x.pid x.epoch x.seq x.count x.base x.frm x.time there b.base b.pid b.epoch b.seq b.kind b.time b.x <| by
    unfold dedup_Table_fresh freshA
    obtain ⟨m, hok, hs⟩ := tb_open (hs.perm hf.perm)
    refine wp_boxO hs fun a0 w' hs => ?_
    refine wp_boxO hs fun a1 w' hs => ?_
    refine wp_ldG hs ?_
    refine wp_call (rnext_c x h1 hs) fun _ _ hs => ?_
    obtain ⟨rfl, hs⟩ := hs
    refine ret_of ?_
    refine wp_lt ?_
    refine wp_ldO hs ?_
    refine wp_ldO hs ?_
    have hs : Sat _ (pt a1 (.cells #[.int .i64 b.base, .int .i64 b.pid, .int .i64 b.epoch, .int .i64 b.seq, .int .i64 b.kind, .int .i64 b.time, .slice b.x.a b.x.len b.x.cap] T.api_Batch) ::
      pt a0 (.cells #[.int .i64 x.pid, .int .i64 x.epoch, .int .i64 x.seq, .int .i64 x.count, .int .i64 x.base, .int .i64 x.frm, .int .i64 x.time] T.dedup_Row) :: pt t (.cells #[.int .i64 A.most, .int .i64 A.next, .map (some m)] T.dedup_Table) :: mapP ekI evW m (keyed A.rows) :: r) := hs
    refine wp_mid (fun v w' => v = ((if b.epoch > x.epoch then 0 else x.seq + x.count), ()) ∧ Sat w' (pt a1 (.cells #[.int .i64 b.base, .int .i64 b.pid, .int .i64 b.epoch, .int .i64 b.seq, .int .i64 b.kind, .int .i64 b.time, .slice b.x.a b.x.len b.x.cap] T.api_Batch) ::
      pt a0 (.cells #[.int .i64 x.pid, .int .i64 x.epoch, .int .i64 x.seq, .int .i64 x.count, .int .i64 x.base, .int .i64 x.frm, .int .i64 x.time] T.dedup_Row) :: pt t (.cells #[.int .i64 A.most, .int .i64 A.next, .map (some m)] T.dedup_Table) :: mapP ekI evW m (keyed A.rows) :: r)) ?_ ?_
    · refine wp_if (fun h => ?_) fun h => ?_
      · exact wp_lv ⟨by rw [if_pos h], hs⟩
      · exact wp_lv ⟨by rw [if_neg h], hs⟩
    clear hs
    rintro _ w ⟨rfl, hs⟩
    refine wp_on ?_
    refine wp_ldG hs ?_
    refine wp_call (ropen_c x hs) fun _ _ hs => ?_
    obtain ⟨rfl, hs⟩ := hs
    refine ret_of ?_
    refine wp_ldO hs ?_
    refine wp_ldO hs ?_
    refine wp_ldO hs ?_
    refine wp_lt ?_
    refine wp_if (fun h => ?_) fun h => ?_
    · rw [if_pos h]
      exact ⟨rfl, rfl, tb_close m hok hs⟩
    rw [if_neg h]
    refine wp_ldG hs ?_
    refine wp_call (tmark_c b hs) fun _ _ hs => ?_
    obtain ⟨rfl, hs⟩ := hs
    refine ret_of ?_
    refine wp_ldO hs ?_
    refine wp_lt ?_
    refine wp_if (fun h => ?_) fun h => ?_
    · rw [if_pos (by simpa using h)]
      exact ⟨rfl, rfl, tb_close m hok hs⟩
    rw [if_neg (by simpa using h)]
    refine wp_tk hs fun w' hs => ?_
    refine wp_nng ?_
    refine wp_ldO hs ?_
    refine wp_mlen hs ?_
    refine wp_nng ?_
    refine wp_ldO hs ?_
    refine wp_lt ?_
    refine wp_untick ?_
    have hlen : (keyed A.rows).length = A.rows.length := by unfold keyed; rw [List.length_map]
    rw [hlen]
    refine wp_if (fun h => ?_) fun h => ?_
    · rw [if_pos (by simpa using h)]
      exact ⟨rfl, rfl, tb_close m hok hs⟩
    · rw [if_neg (by simpa using h)]
      exact ⟨rfl, rfl, tb_close m hok hs⟩

theorem tjudge_c (b : BatM) [hf : Fo l tb t A r] [hb : FocR r b.x 4 (b.rs.flatMap encR)] (hs : Sat w l) :
    Ret P F.dedup_Table_Judge #[.pointer (some ⟨t, 0, none⟩), .agg (encB7 b).toArray] w fun vs w' => vs = [.agg (encVd (judgeA A b).1).toArray, .int .i64 (judgeA A b).2] ∧ Sat w' (tb t A :: r) :=
  dedup_Table_Judge_calls _ b.base b.pid b.epoch b.seq b.kind b.time b.x <| by
    unfold dedup_Table_Judge judgeA
    have hs : Sat w (tb t A :: r) := hs.perm hf.perm
    have hok := tb_ok hs
    refine wp_boxO hs fun a0 w' hs => ?_
    refine wp_newO hs fun a1 w' hs => ?_
    refine wp_ifF ?_ (by simp)
    refine wp_ldG hs ?_
    refine wp_call (valid_c b hs) fun _ _ hs => ?_
    obtain ⟨rfl, hs⟩ := hs
    refine ret_of ?_
    refine wp_lt ?_
    refine wp_ldO hs ?_
    refine wp_if (fun h => ?_) fun h => ?_
    · rw [if_pos h]
      refine wp_stG hs fun w' hs => ?_
      refine wp_lt ?_
      refine wp_ldG hs ?_
      exact ⟨rfl, rfl, hs.sub⟩
    rw [if_neg h]
    have hv : validB b = 0 := Decidable.not_not.1 fun e => h (.inl e)
    obtain ⟨hs1, hs2, hnum, hfit, hnx⟩ := span_le b hv
    have hl64 : b.rs.length ≤ 64 := by
      unfold spanB at hs2
      split at hs2
      · have := hfit.2
        rename_i hm
        rw [if_pos hm] at this; omega
      · omega
    refine wp_ldO hs ?_
    refine wp_call (trow_c b.pid hs) fun _ _ hs => ?_
    obtain ⟨rfl, hs⟩ := hs
    refine ret_of ?_
    obtain ⟨hr1, hr2, hr3, hr4, hr5, hr6, hr7⟩ := rowF_ok hok b.pid
    generalize rowF A b.pid = x at *
    refine wp_newO hs fun a26 w' hs => ?_
    refine wp_stG hs fun w' hs => ?_
    refine wp_lt ?_
    refine wp_ldO hs ?_
    refine wp_ldO hs ?_
    refine wp_if (fun h => ?_) fun h => ?_
    · rw [if_pos h]
      refine wp_ldG hs ?_
      refine wp_call (tmark_c b hs) fun _ _ hs => ?_
      obtain ⟨rfl, hs⟩ := hs
      refine ret_of ?_
      refine wp_if (fun h => ?_) fun h => ?_
      · rw [if_pos h]
        refine wp_stG hs fun w' hs => ?_
        refine wp_ldG hs ?_
        exact ⟨rfl, rfl, hs.sub⟩
      · rw [if_neg h]
        refine wp_stG hs fun w' hs => ?_
        refine wp_ldG hs ?_
        exact ⟨rfl, rfl, hs.sub⟩
    rw [if_neg h]
    refine wp_ldG hs ?_
    refine wp_call (tmark_c b hs) fun _ _ hs => ?_
    obtain ⟨rfl, hs⟩ := hs
    refine ret_of ?_
    have hs : Sat _ (tb t A :: pt a26 (.cells #[.int .i64 x.pid, .int .i64 x.epoch, .int .i64 x.seq, .int .i64 x.count, .int .i64 x.base, .int .i64 x.frm, .int .i64 x.time] T.dedup_Row) :: pt a1 (.cells #[.bool false, .int .i64 0] T.dedup_Verdict) ::
      pt a0 (.cells #[.int .i64 b.base, .int .i64 b.pid, .int .i64 b.epoch, .int .i64 b.seq, .int .i64 b.kind, .int .i64 b.time, .slice b.x.a b.x.len b.x.cap] T.api_Batch) :: r) := hs.sub
    refine wp_mid (fun _ w' => ¬ (markB b = false ∧ (againV x b).2 = true) ∧ Sat w' (tb t A :: pt a26 (.cells #[.int .i64 x.pid, .int .i64 x.epoch, .int .i64 x.seq, .int .i64 x.count, .int .i64 x.base, .int .i64 x.frm, .int .i64 x.time] T.dedup_Row) :: pt a1 (.cells #[.bool false, .int .i64 0] T.dedup_Verdict) ::
      pt a0 (.cells #[.int .i64 b.base, .int .i64 b.pid, .int .i64 b.epoch, .int .i64 b.seq, .int .i64 b.kind, .int .i64 b.time, .slice b.x.a b.x.len b.x.cap] T.api_Batch) :: r)) ?_ ?_
    · refine wp_if (fun h => ?_) fun h => ?_
      · refine wp_ldG hs ?_
        refine wp_ldG hs ?_
        refine wp_call (tagain_c x b ⟨by omega, by omega⟩ hnum.2.2.2.2.1 hl64 hs) fun _ _ hs => ?_
        obtain ⟨rfl, hs⟩ := hs
        refine ret_of ?_
        refine wp_newO hs fun a67 w' hs => ?_
        refine wp_stG hs fun w' hs => ?_
        refine wp_lt ?_
        refine wp_if (fun h2 => ?_) fun h2 => ?_
        · rw [if_pos ⟨by simpa using h, h2⟩]
          refine wp_ldG hs ?_
          refine wp_stG hs fun w' hs => ?_
          refine wp_ldG hs ?_
          refine wp_pass ?_
          exact ⟨rfl, rfl, hs.sub⟩
        · exact wp_lv ⟨fun e => h2 e.2, hs.sub⟩
      · exact wp_lv ⟨fun e => h (by rw [e.1]; simp), hs⟩
    clear hs
    rintro _ w ⟨hno, hs⟩
    refine wp_on ?_
    rw [if_neg hno]
    refine wp_ldG hs ?_
    refine wp_ldG hs ?_
    refine wp_call (tfresh_c x (rowO A b.pid).isSome b ⟨by omega, by omega⟩ hs) fun _ _ hs => ?_
    obtain ⟨rfl, hs⟩ := hs
    refine ret_of ?_
    refine wp_stG hs fun w' hs => ?_
    refine wp_lt ?_
    refine wp_ldG hs ?_
    exact ⟨rfl, rfl, hs.sub⟩
end
end Go.Dec
