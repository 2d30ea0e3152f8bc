/- Disks: New, Name, may, spend, Used, Free, Gone, Fuse, Room. -/
import Derived.Test.YtnfaklmndojeaaaD1
namespace Go.Dec
set_option linter.unusedVariables false
set_option linter.unusedSimpArgs false

section
variable {w : World} {l r : List HP} {d : Nat} {A : DiskA}

theorem new_ok (n : Nat) (hn : n ≤ 4194304) (hs : Sat w l) : Ret P F.disk_New #[.int .i64 n] w fun vs w' => ∃ d, vs = [.pointer (some ⟨d, 0, none⟩), .int .i64 0] ∧ Sat w' (dk d ⟨n, -1, false, []⟩ :: l) :=
  disk_New_calls n <| by
    unfold disk_New
    refine wp_ifF ?_
    refine wp_mmake ekS evF hs fun m w' hs => ?_
    refine wp_boxO hs fun d w' hs => ?_
    refine ⟨rfl, d, rfl, ?_⟩
    exact dk_shut (FS := []) (.refl _) ⟨hn, by simp [used], by simp, by simp, by simp, by simp, by simp⟩ ((hs.all_nil).pick [1, 1, 0])

theorem new_no (n : Int) (hn : n < 0 ∨ n > 4194304) (hs : Sat w l) : Ret P F.disk_New #[.int .i64 n] w fun vs w' => vs = [.pointer none, .int .i64 2] ∧ Sat w' l :=
  disk_New_calls n <| by
    unfold disk_New
    refine wp_ifT ?_
    exact ⟨rfl, rfl, hs⟩

theorem okC_int (c : UInt8) : ((!(decide ((c.toNat : Int) ≥ 97) && decide ((c.toNat : Int) ≤ 122)) && !(decide ((c.toNat : Int) ≥ 48) && decide ((c.toNat : Int) ≤ 57)) && (c.toNat : Int) != 46 && (c.toNat : Int) != 45) = true ↔ okC c = false) := by
  simp [okC]; omega

theorem name_c (s : ByteArray) (hs : Sat w l) : Ret P F.disk_Name #[.string s] w fun vs w' => vs = [.bool (nameF s)] ∧ Sat w' l :=
  disk_Name_calls s <| by
    unfold disk_Name
    refine wp_if (fun h => ?_) fun h => ?_
    · refine ⟨rfl, ?_, hs⟩
      have : nameF s = false := by simp [nameF]; omega
      rw [this]
    refine wp_toB hs fun x w' hs => ?_
    have hl := hs.slen x
    have hsz : s.data.toList.length = s.size := by simp
    refine wp_mid (fun _ w' => s.data.toList.all okC = true ∧ Sat w' l) ?_ ?_
    · refine wp_loop (fun n v w => ∃ i : Nat, v = ((i : Int), ()) ∧ i ≤ s.data.toList.length ∧ s.data.toList.length - i = n ∧ (s.data.toList.take i).all okC = true ∧ Sat w (slc T.uint8 1 x (s.data.toList.flatMap encU) :: l)) s.data.toList.length ⟨0, rfl, by omega, rfl, rfl, hs⟩ ?_
      clear hs
      rintro n _ w ⟨i, rfl, hi, hn, hall, hs⟩
      refine wp_on ?_
      refine wp_if (fun hc => ?_) fun hc => ?_
      · have hil : i < s.data.toList.length := by omega
        refine wp_ix1 hs i hil ?_
        refine wp_lt (wp_lt (wp_lt ?_))
        have htk : (s.data.toList.take (i + 1)).all okC = okC s.data.toList[i] := by
          rw [List.take_add_one, List.getElem?_eq_getElem hil, List.all_append, hall]; simp
        refine wp_ite (fun h3 => ?_) fun h3 => ?_
        · have h3 := (okC_int _).1 h3
          refine wp_pass (wp_pass ?_)
          refine ⟨rfl, ?_, hs.tail⟩
          have : nameF s = false := by
            have : s.data.toList.all okC = false := by
              rw [← List.take_append_drop (i + 1) s.data.toList, List.all_append, htk, h3]; rfl
            simp only [nameF, this, Bool.false_and]
          rw [this]
        · have h3 : okC s.data.toList[i] = true := by
            cases hk : okC s.data.toList[i] with
            | true => rfl
            | false => have := (okC_int _).2 hk; rw [this] at h3; cases h3
          refine wp_dn (us' := [.int .i64 ((i + 1 : Nat) : Int)]) (by (try simp (disch := omega) only [w64]); first | rfl | (congr; omega)) ?_
          refine wp_lp (s.data.toList.length - (i + 1)) ?_
          exact ⟨i + 1, rfl, by omega, rfl, by rw [htk, h3], hs⟩
      · refine wp_pass (wp_lv ⟨?_, hs.tail⟩)
        rwa [List.take_of_length_le (by omega)] at hall
    · rintro _ w' ⟨hall, hs⟩
      refine wp_on ?_
      refine ⟨rfl, ?_, hs⟩
      have : nameF s = true := by simp only [nameF, hall, Bool.true_and, Bool.and_eq_true, decide_eq_true_eq]; omega
      rw [this]

theorem rname_c (s : ByteArray) (hsz : s.size ≤ 1000000) (hs : Sat w l) : Ret P F.towpathref04_Name #[.string s] w fun vs w' => vs = [.bool (nameF s)] ∧ Sat w' l :=
  towpathref04_Name_calls s <| by
    unfold towpathref04_Name
    have hl : s.data.toList.length = s.size := by simp
    refine wp_mid (fun _ w' => s.data.toList.all okC = true ∧ Sat w' l) ?_ ?_
    · refine wp_loop (fun n v w => ∃ i : Nat, v = ((i : Int), ()) ∧ i ≤ s.data.toList.length ∧ s.data.toList.length - i = n ∧ (s.data.toList.take i).all okC = true ∧ Sat w l) s.data.toList.length ⟨0, rfl, by omega, rfl, rfl, hs⟩ ?_
      clear hs
      rintro n _ w ⟨i, rfl, hi, hn, hall, hs⟩
      refine wp_on ?_
      refine wp_if (fun hc => ?_) fun hc => ?_
      · have hil : i < s.data.toList.length := by omega
        have hb : bt s (i : Int) = ((s.data.toList[i]).toNat : Int) := by
          unfold bt
          rw [Int.toNat_natCast, List.getD_eq_getElem?_getD, List.getElem?_eq_getElem hil]; rfl
        refine wp_mu ?_
        refine wp_lt ?_
        rw [hb]
        have htk : (s.data.toList.take (i + 1)).all okC = okC s.data.toList[i] := by
          rw [List.take_add_one, List.getElem?_eq_getElem hil, List.all_append, hall]; simp
        have hok : (decide (((s.data.toList[i]).toNat : Int) ≥ 97) && decide (((s.data.toList[i]).toNat : Int) ≤ 122) || decide (((s.data.toList[i]).toNat : Int) ≥ 48) && decide (((s.data.toList[i]).toNat : Int) ≤ 57) || ((s.data.toList[i]).toNat : Int) == 46 || ((s.data.toList[i]).toNat : Int) == 45) = okC s.data.toList[i] := by
          rw [Bool.eq_iff_iff]; simp [okC]; omega
        rw [hok]
        refine wp_if (fun h3 => ?_) fun h3 => ?_
        · refine wp_pass (wp_pass ?_)
          refine ⟨rfl, ?_, hs⟩
          have h3 : okC s.data.toList[i] = false := by simpa using h3
          have : nameF s = false := by
            have : s.data.toList.all okC = false := by
              rw [← List.take_append_drop (i + 1) s.data.toList, List.all_append, htk, h3]; rfl
            simp only [nameF, this, Bool.false_and]
          rw [this]
        · have h3 : okC s.data.toList[i] = true := by simpa using h3
          refine wp_ltx (y := ((i + 1 : Nat) : Int)) ?_
          refine wp_lp (s.data.toList.length - (i + 1)) ?_
          exact ⟨i + 1, rfl, by omega, rfl, by rw [htk, h3], hs⟩
      · refine wp_pass (wp_lv ⟨?_, hs⟩)
        rwa [List.take_of_length_le (by omega)] at hall
    · rintro _ w' ⟨hall, hs⟩
      refine wp_on ?_
      refine wp_lt ?_
      refine ⟨rfl, ?_, hs⟩
      congr 2
      rw [Bool.eq_iff_iff]; simp only [nameF, hall, Bool.true_and, Bool.and_eq_true, decide_eq_true_eq]; omega

theorem may_c [hf : Fo l dk d A r] (hs : Sat w l) : Ret P F.disk_Disk_may #[.pointer (some ⟨d, 0, none⟩)] w fun vs w' => vs = [.int .i64 (if A.gone then 9 else 0)] ∧ Sat w' (dk d A :: r) :=
  disk_Disk_may_calls _ <| by
    unfold disk_Disk_may
    obtain ⟨m, FS, hp, hok, hs⟩ := dk_open (hs.perm hf.perm)
    refine wp_lt (wp_ifF ?_ (by simp))
    (repeat (first | with_reducible (first | refine wp_on ?_ | refine wp_nn ?_ | refine wp_nng ?_ | refine wp_ldO hs ?_ | refine wp_ldG hs ?_ | refine wp_untick ?_ | refine wp_tk hs fun _ hs => ?_ | refine wp_newO hs fun _ _ hs => ?_ | refine wp_boxO hs fun _ _ hs => ?_ | refine wp_stO hs fun _ hs => ?_ | refine wp_stG hs fun _ hs => ?_) | (apply wp_must; (focus first | trivial | omega | assumption)) | refine wp_ltw ?_ | refine wp_lt ?_))
    refine wp_if (fun h => ?_) fun h => ?_
    · exact ⟨rfl, by rw [if_pos h], dk_close m hp hok hs⟩
    · exact ⟨rfl, by rw [if_neg h], dk_close m hp hok hs⟩

theorem spend_c {m : Nat} {n room u : Int} (hn : n ≤ 9223372036854775807 ∧ -1 ≤ n) [hf : FocB l d (.cells #[.int .i64 n, .bool false, .int .i64 room, .int .i64 u, .map (some m)] T.disk_Disk) r] (hs : Sat w l) :
    Ret P F.disk_power_spend #[.pointer (some (Addr.add ⟨d, 0, none⟩ 0))] w fun vs w' => vs = [] ∧
      Sat w' (pt d (.cells #[.int .i64 (if n > 0 then n - 1 else n), .bool (if n > 0 then decide (n - 1 = 0) else false), .int .i64 room, .int .i64 u, .map (some m)] T.disk_Disk) :: r) :=
  disk_power_spend_calls _ <| by
    unfold disk_power_spend
    have hs := hs.focB d
    (repeat (first | with_reducible (first | refine wp_on ?_ | refine wp_nn ?_ | refine wp_nng ?_ | refine wp_ldO hs ?_ | refine wp_ldG hs ?_ | refine wp_untick ?_ | refine wp_tk hs fun _ hs => ?_ | refine wp_newO hs fun _ _ hs => ?_ | refine wp_boxO hs fun _ _ hs => ?_ | refine wp_stO hs fun _ hs => ?_ | refine wp_stG hs fun _ hs => ?_) | (apply wp_must; (focus first | trivial | omega | assumption)) | refine wp_ltw ?_ | refine wp_lt ?_))
    refine wp_mid (fun _ w' => Sat w' (pt d (.cells #[.int .i64 (if n > 0 then n - 1 else n), .bool (if n > 0 then decide (n - 1 = 0) else false), .int .i64 room, .int .i64 u, .map (some m)] T.disk_Disk) :: r)) ?_ ?_
    · refine wp_if (fun h => ?_) fun h => ?_
      · (repeat (first | with_reducible (first | refine wp_on ?_ | refine wp_nn ?_ | refine wp_nng ?_ | refine wp_ldO hs ?_ | refine wp_ldG hs ?_ | refine wp_untick ?_ | refine wp_tk hs fun _ hs => ?_ | refine wp_newO hs fun _ _ hs => ?_ | refine wp_boxO hs fun _ _ hs => ?_ | refine wp_stO hs fun _ hs => ?_ | refine wp_stG hs fun _ hs => ?_) | (apply wp_must; (focus first | trivial | omega | assumption)) | refine wp_ltw ?_ | refine wp_lt ?_))
        refine wp_lv ?_
        rw [if_pos h, if_pos h]
        rw [w64 (x := n - 1) (by omega) (by omega)] at hs
        exact hs
      · refine wp_lv ?_
        rw [if_neg h, if_neg h]; exact hs
    · rintro _ w' hs
      refine wp_on ?_
      exact ⟨rfl, rfl, hs⟩

/-- What 'spend' leaves is what is said of it. -/
theorem doneA_eq (A : DiskA) (h : A.gone = false) : doneA A = ⟨A.room, if A.left > 0 then A.left - 1 else A.left, if A.left > 0 then decide (A.left - 1 = 0) else false, A.fs⟩ := by
  unfold doneA
  split
  · rfl
  · rw [← h]

theorem used_c [hf : Fo l dk d A r] (hs : Sat w l) : Ret P F.disk_Disk_Used #[.pointer (some ⟨d, 0, none⟩)] w fun vs w' => vs = [.int .i64 (used A.fs : Nat)] ∧ Sat w' (dk d A :: r) :=
  disk_Disk_Used_calls _ <| by
    unfold disk_Disk_Used
    obtain ⟨m, FS, hp, hok, hs⟩ := dk_open (hs.perm hf.perm)
    refine wp_ifF ?_ (by simp)
    (repeat (first | with_reducible (first | refine wp_on ?_ | refine wp_nn ?_ | refine wp_nng ?_ | refine wp_ldO hs ?_ | refine wp_ldG hs ?_ | refine wp_untick ?_ | refine wp_tk hs fun _ hs => ?_ | refine wp_newO hs fun _ _ hs => ?_ | refine wp_boxO hs fun _ _ hs => ?_ | refine wp_stO hs fun _ hs => ?_ | refine wp_stG hs fun _ hs => ?_) | (apply wp_must; (focus first | trivial | omega | assumption)) | refine wp_ltw ?_ | refine wp_lt ?_))
    exact ⟨rfl, rfl, dk_close m hp hok hs⟩

theorem free_c [hf : Fo l dk d A r] (hs : Sat w l) : Ret P F.disk_Disk_Free #[.pointer (some ⟨d, 0, none⟩)] w fun vs w' => vs = [.int .i64 (A.free : Nat)] ∧ Sat w' (dk d A :: r) :=
  disk_Disk_Free_calls _ <| by
    unfold disk_Disk_Free
    obtain ⟨m, FS, hp, hok, hs⟩ := dk_open (hs.perm hf.perm)
    refine wp_ifF ?_ (by simp)
    have h1 := hok.room
    have h2 := hok.used
    refine wp_tk hs fun w' hs => ?_
    refine wp_nn ?_
    refine wp_ldO hs ?_
    refine wp_nn ?_
    refine wp_ldO hs ?_
    refine wp_lw (y := (A.free : Nat)) ?_ ?_
    · have e : IntKind.wrap .i64 ((A.room : Int) - (used A.fs : Nat)) = (A.room : Int) - (used A.fs : Nat) := w64e
      rw [e]
      unfold DiskA.free
      split <;> omega
    exact wp_untick ⟨rfl, rfl, dk_close m hp hok hs⟩

theorem gone_c [hf : Fo l dk d A r] (hs : Sat w l) : Ret P F.disk_Disk_Gone #[.pointer (some ⟨d, 0, none⟩)] w fun vs w' => vs = [.bool A.gone] ∧ Sat w' (dk d A :: r) :=
  disk_Disk_Gone_calls _ <| by
    unfold disk_Disk_Gone
    obtain ⟨m, FS, hp, hok, hs⟩ := dk_open (hs.perm hf.perm)
    (repeat (first | with_reducible (first | refine wp_on ?_ | refine wp_nn ?_ | refine wp_nng ?_ | refine wp_ldO hs ?_ | refine wp_ldG hs ?_ | refine wp_untick ?_ | refine wp_tk hs fun _ hs => ?_ | refine wp_newO hs fun _ _ hs => ?_ | refine wp_boxO hs fun _ _ hs => ?_ | refine wp_stO hs fun _ hs => ?_ | refine wp_stG hs fun _ hs => ?_) | (apply wp_must; (focus first | trivial | omega | assumption)) | refine wp_ltw ?_ | refine wp_lt ?_))
    exact ⟨rfl, by simp, dk_close m hp hok hs⟩

theorem fuse_c (n : Int) (hn : -9223372036854775808 ≤ n ∧ n ≤ 9223372036854775807) [hf : Fo l dk d A r] (hs : Sat w l) : Ret P F.disk_Disk_Fuse #[.pointer (some ⟨d, 0, none⟩), .int .i64 n] w fun vs w' => vs = [] ∧ Sat w' (dk d (fuseA A n) :: r) :=
  disk_Disk_Fuse_calls _ n <| by
    unfold disk_Disk_Fuse
    obtain ⟨m, FS, hp, hok, hs⟩ := dk_open (hs.perm hf.perm)
    refine wp_nng ?_
    refine wp_ldO hs ?_
    unfold fuseA
    refine wp_if (fun h => ?_) fun h => ?_
    · have h : A.gone = true := by simpa using h
      rw [if_pos h]
      exact ⟨rfl, rfl, dk_close m hp hok hs⟩
    · have h : ¬ A.gone = true := by simpa using h
      rw [if_neg h]
      have e : (if -1 > n then -1 else n) = if n < 0 then -1 else n := by split <;> split <;> omega
      rw [e]
      have hok' : okA { A with left := if n < 0 then -1 else n, gone := decide (n = 0) } := ⟨hok.room, hok.used, hok.many, by show -1 ≤ (if n < 0 then -1 else n) ∧ (if n < 0 then -1 else n) ≤ 9223372036854775807; split <;> omega, hok.sorted, hok.kept, hok.names⟩
      (repeat (first | with_reducible (first | refine wp_on ?_ | refine wp_nn ?_ | refine wp_nng ?_ | refine wp_ldO hs ?_ | refine wp_ldG hs ?_ | refine wp_untick ?_ | refine wp_tk hs fun _ hs => ?_ | refine wp_newO hs fun _ _ hs => ?_ | refine wp_boxO hs fun _ _ hs => ?_ | refine wp_stO hs fun _ hs => ?_ | refine wp_stG hs fun _ hs => ?_) | (apply wp_must; (focus first | trivial | omega | assumption)) | refine wp_ltw ?_ | refine wp_lt ?_))
      have eb : (n == 0) = decide (n = 0) := by rw [Bool.eq_iff_iff]; simp
      rw [eb] at hs
      exact ⟨rfl, rfl, dk_close m hp hok' hs⟩

theorem room_ok (n : Nat) (hn : n ≤ 4194304) [hf : Fo l dk d A r] (hs : Sat w l) : Ret P F.disk_Disk_Room #[.pointer (some ⟨d, 0, none⟩), .int .i64 n] w fun vs w' => vs = [.int .i64 0] ∧ Sat w' (dk d { A with room := n } :: r) :=
  disk_Disk_Room_calls _ n <| by
    unfold disk_Disk_Room
    obtain ⟨m, FS, hp, hok, hs⟩ := dk_open (hs.perm hf.perm)
    refine wp_lt (wp_ifF ?_ (by simp))
    refine wp_lt (wp_ifF ?_)
    (repeat (first | with_reducible (first | refine wp_on ?_ | refine wp_nn ?_ | refine wp_nng ?_ | refine wp_ldO hs ?_ | refine wp_ldG hs ?_ | refine wp_untick ?_ | refine wp_tk hs fun _ hs => ?_ | refine wp_newO hs fun _ _ hs => ?_ | refine wp_boxO hs fun _ _ hs => ?_ | refine wp_stO hs fun _ hs => ?_ | refine wp_stG hs fun _ hs => ?_) | (apply wp_must; (focus first | trivial | omega | assumption)) | refine wp_ltw ?_ | refine wp_lt ?_))
    exact ⟨rfl, rfl, dk_close m (A := { A with room := n }) hp ⟨hn, hok.used, hok.many, hok.left, hok.sorted, hok.kept, hok.names⟩ hs⟩
theorem room_no (n : Int) (hn : n < 0 ∨ n > 4194304) [hf : Fo l dk d A r] (hs : Sat w l) : Ret P F.disk_Disk_Room #[.pointer (some ⟨d, 0, none⟩), .int .i64 n] w fun vs w' => vs = [.int .i64 2] ∧ Sat w' (dk d A :: r) :=
  disk_Disk_Room_calls _ n <| by
    unfold disk_Disk_Room
    refine wp_lt (wp_ifF ?_ (by simp))
    refine wp_lt (wp_ifT ?_)
    exact ⟨rfl, rfl, hs.perm hf.perm⟩

end
end Go.Dec
