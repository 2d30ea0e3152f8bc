/- Isolation: IsoNil. -/
import Derived.Test.YtpjfebedfejmgaaA1
import Derived.Test.YtpjfebedfejmgaaFns1
namespace Go.Dec
set_option linter.unusedVariables false
set_option linter.unusedSimpArgs false

section
variable {w : World} {l r : List HP}

theorem may_nil (b : BatM) (hs : Sat w l) : Ret P F.iso_View_May #[.pointer none, .agg (encB7 b).toArray] w fun vs w' => vs = [.int .i64 1] ∧ Sat w' l :=
  iso_View_May_calls _ b.base b.pid b.epoch b.seq b.kind b.time b.x <| by
    unfold iso_View_May
    refine wp_boxO hs fun a0 w' hs => ?_
    refine wp_ifT ?_ rfl
    exact ⟨rfl, rfl, hs.tail⟩
theorem take_nil (b : BatM) (hs : Sat w l) : Ret P F.iso_View_Take #[.pointer none, .agg (encB7 b).toArray] w fun vs w' => vs = [.int .i64 1] ∧ Sat w' l :=
  iso_View_Take_calls _ b.base b.pid b.epoch b.seq b.kind b.time b.x <| by
    unfold iso_View_Take
    refine wp_boxO hs fun a0 w' hs => ?_
    refine wp_ldG hs ?_
    refine wp_call (may_nil b hs) fun _ _ hs => ?_
    obtain ⟨rfl, hs⟩ := hs
    refine ret_of ?_
    refine wp_lt ?_
    refine wp_ifT ?_ (by simp)
    refine wp_lt ?_
    exact ⟨rfl, rfl, hs.tail⟩
theorem forget_nil (n : Int) (hs : Sat w l) : Ret P F.iso_View_Forget #[.pointer none, .int .i64 n] w fun vs w' => vs = [.int .i64 0] ∧ Sat w' l :=
  iso_View_Forget_calls _ n <| by
    unfold iso_View_Forget
    refine wp_boxO hs fun a0 w' hs => ?_
    refine wp_ifT ?_ rfl
    exact ⟨rfl, rfl, hs.tail⟩
theorem fate_nil (b : BatM) (hs : Sat w l) : Ret P F.iso_View_Fate #[.pointer none, .agg (encB7 b).toArray] w fun vs w' => vs = [.int .i64 0] ∧ Sat w' l :=
  iso_View_Fate_calls _ b.base b.pid b.epoch b.seq b.kind b.time b.x <| by
    unfold iso_View_Fate
    refine wp_boxO hs fun a0 w' hs => ?_
    refine wp_ifT ?_ rfl
    exact ⟨rfl, rfl, hs.tail⟩
theorem open_nil (hs : Sat w l) : Ret P F.iso_View_Open #[.pointer none] w fun vs w' => vs = [.slice none 0 0] ∧ Sat w' l :=
  iso_View_Open_calls _ <| by
    unfold iso_View_Open
    refine wp_ifT ?_ rfl
    exact ⟨rfl, rfl, hs⟩
theorem fallen_nil (hs : Sat w l) : Ret P F.iso_View_Fallen #[.pointer none] w fun vs w' => vs = [.slice none 0 0] ∧ Sat w' l :=
  iso_View_Fallen_calls _ <| by
    unfold iso_View_Fallen
    refine wp_ifT ?_ rfl
    exact ⟨rfl, rfl, hs⟩
theorem stable_nil (hs : Sat w l) : Ret P F.iso_View_Stable #[.pointer none] w fun vs w' => vs = [.int .i64 0] ∧ Sat w' l :=
  iso_View_Stable_calls _ <| by
    unfold iso_View_Stable
    refine wp_ifT ?_ rfl
    exact ⟨rfl, rfl, hs⟩
theorem next_nil (hs : Sat w l) : Ret P F.iso_View_Next #[.pointer none] w fun vs w' => vs = [.int .i64 0] ∧ Sat w' l :=
  iso_View_Next_calls _ <| by
    unfold iso_View_Next
    refine wp_ifT ?_ rfl
    exact ⟨rfl, rfl, hs⟩
theorem bytes_nil (hs : Sat w l) : Ret P F.iso_View_Bytes #[.pointer none] w fun vs w' => vs = [.slice none 0 0] ∧ Sat w' l :=
  iso_View_Bytes_calls _ <| by
    unfold iso_View_Bytes
    refine wp_ifT ?_ rfl
    exact ⟨rfl, rfl, hs⟩
theorem copy_nil (hs : Sat w l) : Ret P F.iso_View_Copy #[.pointer none] w fun vs w' => vs = [.pointer none] ∧ Sat w' l :=
  iso_View_Copy_calls _ <| by
    unfold iso_View_Copy
    refine wp_ifT ?_ rfl
    exact ⟨rfl, rfl, hs⟩
theorem pick_nil (x : Sl) (bs : List BatM) [hx : FocR l x 7 (bs.flatMap encB7)] (hn : bs.length ≤ 1000) (hs : Sat w l) : Ret P F.iso_View_Pick #[.pointer none, x.v] w fun vs w' => vs = [.slice none 0 0] ∧ Sat w' l :=
  iso_View_Pick_calls _ x <| by
    unfold iso_View_Pick
    have hl := hs.slen x (xs := bs) (enc := encB7)
    refine wp_mid (fun u w' => u = (⟨none, 0, 0⟩, ()) ∧ Sat w' l) ?_ (by rintro _ w' ⟨rfl, hs⟩; refine wp_on ?_; exact ⟨rfl, rfl, hs⟩)
    refine wp_loop (fun k u w => ∃ i : Nat, u = (⟨none, 0, 0⟩, (i : Int), ()) ∧ i ≤ bs.length ∧ bs.length - i = k ∧ Sat w l) bs.length ⟨0, rfl, by omega, rfl, hs⟩ ?_
    clear hs
    rintro k _ w ⟨i, rfl, hi, hk, hs⟩
    refine wp_on ?_
    refine wp_if (fun hc => ?_) fun hc => ?_
    rotate_left
    · exact wp_pass (wp_lv ⟨rfl, hs⟩)
    have hil : i < bs.length := by omega
    refine wp_ixA hs i hil ?_
    refine wp_newO hs fun c w' hs => ?_
    refine wp_stG hs fun w' hs => ?_
    refine wp_ldG hs ?_
    refine wp_call (fate_nil bs[i] hs) fun _ _ hs => ?_
    obtain ⟨rfl, hs⟩ := hs
    refine ret_of ?_
    refine wp_mid (fun u w' => u = (⟨none, 0, 0⟩, ()) ∧ Sat w' l) ?_ ?_
    · refine wp_ifF ?_ (by simp)
      exact wp_lv ⟨rfl, hs.tail⟩
    clear hs
    rintro _ w ⟨rfl, hs⟩
    refine wp_on ?_
    refine wp_dn (us' := [.slice none 0 0, .int .i64 ((i + 1 : Nat) : Int)]) (by (try simp (disch := omega) only [w64]); first | rfl | (congr; omega)) ?_
    refine wp_lp (bs.length - (i + 1)) ?_
    exact ⟨i + 1, rfl, by omega, rfl, hs⟩

theorem nil8_law (b : BatM) (n : Int) (hs : Sat w l) : Ret P F.towpathlaw08_IsoNil #[.agg (encB7 b).toArray, .int .i64 n] w fun vs w' => vs = [.bool true] ∧ Sat w' l :=
  towpathlaw08_IsoNil_calls b.base b.pid b.epoch b.seq b.kind b.time b.x n <| by
    unfold towpathlaw08_IsoNil
    refine wp_boxO hs fun a0 w' hs => ?_
    refine wp_mid (fun v w' => v = (true, ()) ∧ Sat w' l) ?_ (by rintro _ w' ⟨rfl, hs⟩; refine wp_on ?_; exact ⟨rfl, rfl, hs⟩)
    refine wp_ldG hs ?_
    refine wp_call (may_nil b hs) fun _ _ hs => ?_
    obtain ⟨rfl, hs⟩ := hs
    refine ret_of ?_
    refine wp_ldG hs ?_
    refine wp_ifT ?_ rfl
    refine wp_call (take_nil b hs) fun _ _ hs => ?_
    obtain ⟨rfl, hs⟩ := hs
    refine ret_of ?_
    refine wp_ifT ?_ rfl
    refine wp_call (forget_nil n hs) fun _ _ hs => ?_
    obtain ⟨rfl, hs⟩ := hs
    refine ret_of ?_
    refine wp_ldG hs ?_
    refine wp_ifT ?_ rfl
    refine wp_call (fate_nil b hs) fun _ _ hs => ?_
    obtain ⟨rfl, hs⟩ := hs
    refine ret_of ?_
    refine wp_ldG hs ?_
    refine wp_ifT ?_ rfl
    refine wp_slit1 hs (enc := encB7) b fun y w' hs => ?_
    refine wp_call (pick_nil y [b] (by simp) hs) fun _ _ hs => ?_
    obtain ⟨rfl, hs⟩ := hs
    refine ret_of ?_
    refine wp_ifT ?_ rfl
    refine wp_call (open_nil hs) fun _ _ hs => ?_
    obtain ⟨rfl, hs⟩ := hs
    refine ret_of ?_
    refine wp_ifT ?_ rfl
    refine wp_call (fallen_nil hs) fun _ _ hs => ?_
    obtain ⟨rfl, hs⟩ := hs
    refine ret_of ?_
    refine wp_ifT ?_ rfl
    refine wp_call (stable_nil hs) fun _ _ hs => ?_
    obtain ⟨rfl, hs⟩ := hs
    refine ret_of ?_
    refine wp_ifT ?_ rfl
    refine wp_call (next_nil hs) fun _ _ hs => ?_
    obtain ⟨rfl, hs⟩ := hs
    refine ret_of ?_
    refine wp_ifT ?_ rfl
    refine wp_call (bytes_nil hs) fun _ _ hs => ?_
    obtain ⟨rfl, hs⟩ := hs
    refine ret_of ?_
    refine wp_ifT ?_ rfl
    refine wp_call (copy_nil hs) fun _ _ hs => ?_
    obtain ⟨rfl, hs⟩ := hs
    refine ret_of ?_
    refine wp_ifT ?_ rfl
    refine wp_call (awake8 hs) fun _ _ hs => ?_
    obtain ⟨rfl, hs⟩ := hs
    refine ret_of ?_
    refine wp_lt ?_
    exact wp_lv ⟨rfl, hs.tail.tail⟩

end
end Go.Dec
