/- Dedup: DedupNil. -/
import Derived.Test.YtcpmaccapgpgaaaT1
import Derived.Test.YtcpmaccapgpgaaaFns1
namespace Go.Dec
set_option linter.unusedVariables false
set_option linter.unusedSimpArgs false

section
variable {w : World} {l r : List HP}

theorem judge_nil (b : BatM) (hs : Sat w l) : Ret P F.dedup_Table_Judge #[.pointer none, .agg (encB7 b).toArray] w fun vs w' => vs = [.agg (encVd ⟨false, 0⟩).toArray, .int .i64 1] ∧ Sat w' l :=
  dedup_Table_Judge_calls _ b.base b.pid b.epoch b.seq b.kind b.time b.x <| by
    unfold dedup_Table_Judge
    refine wp_boxO hs fun a0 w' hs => ?_
    refine wp_newO hs fun a1 w' hs => ?_
    refine wp_ifT ?_ (by simp)
    refine wp_stG hs fun w' hs => ?_
    refine wp_ldG hs ?_
    exact ⟨rfl, rfl, hs.tail.tail⟩
theorem take_nil (b : BatM) (hs : Sat w l) : Ret P F.dedup_Table_Take #[.pointer none, .agg (encB7 b).toArray] w fun vs w' => vs = [.int .i64 1] ∧ Sat w' l :=
  dedup_Table_Take_calls _ b.base b.pid b.epoch b.seq b.kind b.time b.x <| by
    unfold dedup_Table_Take
    refine wp_boxO hs fun a0 w' hs => ?_
    refine wp_ldG hs ?_
    refine wp_call (judge_nil b hs) fun _ _ hs => ?_
    obtain ⟨rfl, hs⟩ := hs
    refine ret_of ?_
    refine wp_newO hs fun a1 w' hs => ?_
    refine wp_stG hs fun w' hs => ?_
    refine wp_lt ?_
    refine wp_lt ?_
    refine wp_ifT ?_ (by simp)
    refine wp_lt ?_
    exact ⟨rfl, rfl, hs.tail.tail⟩
theorem row_nil (n : Int) (hs : Sat w l) : Ret P F.dedup_Table_Row #[.pointer none, .int .i64 n] w fun vs w' => vs = [.agg (encW ⟨0, 0, 0, 0, 0, 0, 0⟩).toArray, .bool false] ∧ Sat w' l :=
  dedup_Table_Row_calls _ n <| by
    unfold dedup_Table_Row
    refine wp_newO hs fun a0 w' hs => ?_
    refine wp_ifT ?_ (by simp)
    refine wp_stG hs fun w' hs => ?_
    refine wp_ldG hs ?_
    exact ⟨rfl, rfl, hs.tail⟩
theorem expire_nil (n : Int) (hs : Sat w l) : Ret P F.dedup_Table_Expire #[.pointer none, .int .i64 n] w fun vs w' => vs = [.slice none 0 0] ∧ Sat w' l :=
  dedup_Table_Expire_calls _ n <| by
    unfold dedup_Table_Expire
    refine wp_ifT ?_ (by simp)
    exact ⟨rfl, rfl, hs⟩
theorem rows_nil (hs : Sat w l) : Ret P F.dedup_Table_Rows #[.pointer none] w fun vs w' => vs = [.slice none 0 0] ∧ Sat w' l :=
  dedup_Table_Rows_calls _ <| by
    unfold dedup_Table_Rows
    refine wp_ifT ?_ (by simp)
    exact ⟨rfl, rfl, hs⟩
instance : IsR sL [.slice none 0 0] (⟨none, 0, 0⟩, ()) := ⟨rfl⟩
theorem open_nil (hs : Sat w l) : Ret P F.dedup_Table_Open #[.pointer none] w fun vs w' => vs = [.slice none 0 0] ∧ Sat w' l :=
  dedup_Table_Open_calls _ <| by
    unfold dedup_Table_Open
    refine wp_call (rows_nil hs) fun _ _ hs => ?_
    obtain ⟨rfl, hs⟩ := hs
    refine ret_of ?_
    refine wp_mid (fun v w' => v = (⟨none, 0, 0⟩, ()) ∧ Sat w' l) ?_ ?_
    · refine wp_loop (fun k v w => v = (⟨none, 0, 0⟩, 0, ()) ∧ Sat w l) 0 ⟨rfl, hs⟩ ?_
      clear hs
      rintro k _ w ⟨rfl, hs⟩
      refine wp_on ?_
      refine wp_ifF ?_ (by simp)
      exact wp_pass (wp_lv ⟨rfl, hs⟩)
    clear hs
    rintro _ w ⟨rfl, hs⟩
    refine wp_on ?_
    refine wp_call (sortFW_c cmp_dedup_Table_Open_1 ⟨none, 0, 0⟩ [] (by simp) hs.slc_nil) fun _ w' h => ?_
    obtain ⟨rfl, ys, -, -, hs⟩ := h
    refine ret_of ?_
    exact ⟨rfl, rfl, hs.tail⟩
theorem next_nil (hs : Sat w l) : Ret P F.dedup_Table_Next #[.pointer none] w fun vs w' => vs = [.int .i64 0] ∧ Sat w' l :=
  dedup_Table_Next_calls _ <| by
    unfold dedup_Table_Next
    refine wp_ifT ?_ (by simp)
    exact ⟨rfl, rfl, hs⟩
theorem stable_nil (hs : Sat w l) : Ret P F.dedup_Table_Stable #[.pointer none] w fun vs w' => vs = [.int .i64 0] ∧ Sat w' l :=
  dedup_Table_Stable_calls _ <| by
    unfold dedup_Table_Stable
    refine wp_call (open_nil hs) fun _ _ hs => ?_
    obtain ⟨rfl, hs⟩ := hs
    refine ret_of ?_
    refine wp_ifF ?_ (by simp)
    refine wp_call (next_nil hs) fun _ _ hs => ?_
    obtain ⟨rfl, hs⟩ := hs
    refine ret_of ?_
    refine wp_lt ?_
    exact ⟨rfl, rfl, hs⟩
theorem bytes_nil (hs : Sat w l) : Ret P F.dedup_Table_Bytes #[.pointer none] w fun vs w' => vs = [.slice none 0 0] ∧ Sat w' l :=
  dedup_Table_Bytes_calls _ <| by
    unfold dedup_Table_Bytes
    refine wp_ifT ?_ (by simp)
    exact ⟨rfl, rfl, hs⟩
theorem copy_nil (hs : Sat w l) : Ret P F.dedup_Table_Copy #[.pointer none] w fun vs w' => vs = [.pointer none] ∧ Sat w' l :=
  dedup_Table_Copy_calls _ <| by
    unfold dedup_Table_Copy
    refine wp_ifT ?_ (by simp)
    exact ⟨rfl, rfl, hs⟩

theorem nil7_law (b : BatM) (n : Int) (hs : Sat w l) : Ret P F.towpathlaw07_DedupNil #[.agg (encB7 b).toArray, .int .i64 n] w fun vs w' => vs = [.bool true] ∧ Sat w' l :=
  towpathlaw07_DedupNil_calls b.base b.pid b.epoch b.seq b.kind b.time b.x n <| by
    unfold towpathlaw07_DedupNil
    refine wp_boxO hs fun a0 w' hs => ?_
    refine wp_ldG hs ?_
    refine wp_call (judge_nil b hs) fun _ _ hs => ?_
    obtain ⟨rfl, hs⟩ := hs
    refine ret_of ?_
    refine wp_newO hs fun a11 w' hs => ?_
    refine wp_stG hs fun w' hs => ?_
    refine wp_lt ?_
    refine wp_call (row_nil n hs) fun _ _ hs => ?_
    obtain ⟨rfl, hs⟩ := hs
    refine ret_of ?_
    refine wp_newO hs fun a21 w' hs => ?_
    refine wp_stG hs fun w' hs => ?_
    refine wp_lt ?_
    refine wp_mid (fun v w' => v = (true, ()) ∧ Sat w' l) ?_ (by rintro _ w' ⟨rfl, hs⟩; refine wp_on ?_; exact ⟨rfl, rfl, hs⟩)
    refine wp_ldG hs ?_
    refine wp_ldG hs ?_
    refine wp_ifT ?_ (by simp)
    refine wp_call (take_nil b hs) fun _ _ hs => ?_
    obtain ⟨rfl, hs⟩ := hs
    refine ret_of ?_
    refine wp_ifT ?_ (by simp)
    refine wp_call (expire_nil n hs) fun _ _ hs => ?_
    obtain ⟨rfl, hs⟩ := hs
    refine ret_of ?_
    refine wp_ldG hs ?_
    refine wp_ifT ?_ (by simp)
    refine wp_call (rows_nil hs) fun _ _ hs => ?_
    obtain ⟨rfl, hs⟩ := hs
    refine ret_of ?_
    refine wp_ifT ?_ (by simp)
    refine wp_call (open_nil hs) fun _ _ hs => ?_
    obtain ⟨rfl, hs⟩ := hs
    refine ret_of ?_
    refine wp_ifT ?_ (by simp)
    refine wp_call (stable_nil hs) fun _ _ hs => ?_
    obtain ⟨rfl, hs⟩ := hs
    refine ret_of ?_
    refine wp_ifT ?_ (by simp)
    refine wp_call (next_nil hs) fun _ _ hs => ?_
    obtain ⟨rfl, hs⟩ := hs
    refine ret_of ?_
    refine wp_ifT ?_ (by simp)
    refine wp_call (bytes_nil hs) fun _ _ hs => ?_
    obtain ⟨rfl, hs⟩ := hs
    refine ret_of ?_
    refine wp_ifT ?_ (by simp)
    refine wp_call (copy_nil hs) fun _ _ hs => ?_
    obtain ⟨rfl, hs⟩ := hs
    refine ret_of ?_
    refine wp_ifT ?_ (by simp)
    refine wp_call (awake7 hs) fun _ _ hs => ?_
    obtain ⟨rfl, hs⟩ := hs
    refine ret_of ?_
    refine wp_lt ?_
    exact wp_lv ⟨rfl, hs.sub⟩
end
end Go.Dec
