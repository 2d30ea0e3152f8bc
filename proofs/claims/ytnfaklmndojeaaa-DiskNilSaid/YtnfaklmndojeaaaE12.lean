/- Disks: DiskNil. -/
import Derived.Test.YtnfaklmndojeaaaE7
namespace Go.Dec
set_option linter.unusedVariables false
set_option linter.unusedSimpArgs false

section
variable {P : Program} {w : World} {Q : Post} {S : World → Prop} {g : Prop}
theorem wp_exN {c : Addr → Prop} {f : Addr → Prog} (hg : ¬ g) (h : (f ⟨0, 0, none⟩).wp P S w Q) : (Prog.ex [.adr] (c1 fun x => g → c x) (u1 f)).wp P S w Q := ⟨(⟨0, 0, none⟩, ()), fun h' => absurd h' hg, h⟩
theorem wp_rdN {m : Sem Value} {p : Pr} {f : p.D → Prog} (hg : ¬ g) (x : p.D) (h : (f x).wp P S w Q) : (Prog.read g m (.one (.one p)) (u1 f)).wp P S w Q := ⟨(x, ()), fun h' => absurd h' hg, h⟩
end

section
variable {w : World} {l r r1 : List HP}

theorem may_n (hs : Sat w l) : Ret P F.disk_Disk_may #[.pointer none] w fun vs w' => vs = [.int .i64 1] ∧ Sat w' l :=
  disk_Disk_may_calls _ <| by
    unfold disk_Disk_may
    refine wp_lt ?_
    refine wp_ifT ?_ rfl
    exact ⟨rfl, rfl, hs⟩
theorem may_no {k : Prog} {Q : List Value → World → Prop} (hs : Sat w l) (h : ∀ w', Sat w' l → Q [.int .i64 1] w') :
    (Prog.call F.disk_Disk_may [.pointer none] (sI .i64) (u1 fun (n0 : Int) => .lt (.int .i64) (n0) fun (n1 : Int) => .ite (n1 != 0) (.lt (.int .i64) (n1) fun (n2 : Int) => .done 0 [.int .i64 n2]) k)).wp P tt w fun e vs w => e = 0 ∧ Q vs w := by
  refine wp_call (may_n hs) fun _ _ hs => ?_
  obtain ⟨rfl, hs⟩ := hs
  refine ret_of ?_
  refine wp_lt ?_
  refine wp_ifT ?_ (by simp)
  refine wp_lt ?_
  exact ⟨rfl, h _ hs⟩
theorem read_n (n : ByteArray) (hs : Sat w l) : Ret P F.disk_Disk_Read #[.pointer none, .string n] w fun vs w' => vs = [.slice none 0 0, .int .i64 1] ∧ Sat w' l :=
  disk_Disk_Read_calls _ n <| by
    unfold disk_Disk_Read
    refine wp_ifT ?_ rfl
    exact ⟨rfl, rfl, hs⟩
theorem append_n (n : ByteArray) (x : Sl) (hs : Sat w l) : Ret P F.disk_Disk_Append #[.pointer none, .string n, x.v] w fun vs w' => vs = [.int .i64 1] ∧ Sat w' l :=
  disk_Disk_Append_calls _ n x <| by
    unfold disk_Disk_Append
    exact may_no hs fun w' hs => ⟨rfl, hs⟩
theorem sync_n (x : Sl) (hs : Sat w l) : Ret P F.disk_Disk_Sync #[.pointer none, x.v] w fun vs w' => vs = [.int .i64 1] ∧ Sat w' l :=
  disk_Disk_Sync_calls _ x <| by
    unfold disk_Disk_Sync
    exact may_no hs fun w' hs => ⟨rfl, hs⟩
theorem cut_n (n : ByteArray) (k : Int) (hs : Sat w l) : Ret P F.disk_Disk_Cut #[.pointer none, .string n, .int .i64 k] w fun vs w' => vs = [.int .i64 1] ∧ Sat w' l :=
  disk_Disk_Cut_calls _ n k <| by
    unfold disk_Disk_Cut
    exact may_no hs fun w' hs => ⟨rfl, hs⟩
theorem rename_n (a b : ByteArray) (hs : Sat w l) : Ret P F.disk_Disk_Rename #[.pointer none, .string a, .string b] w fun vs w' => vs = [.int .i64 1] ∧ Sat w' l :=
  disk_Disk_Rename_calls _ a b <| by
    unfold disk_Disk_Rename
    exact may_no hs fun w' hs => ⟨rfl, hs⟩
theorem remove_n (n : ByteArray) (hs : Sat w l) : Ret P F.disk_Disk_Remove #[.pointer none, .string n] w fun vs w' => vs = [.int .i64 1] ∧ Sat w' l :=
  disk_Disk_Remove_calls _ n <| by
    unfold disk_Disk_Remove
    exact may_no hs fun w' hs => ⟨rfl, hs⟩
theorem at_n (n : ByteArray) (hs : Sat w l) : Ret P F.disk_Disk_at #[.pointer none, .string n] w fun vs w' => vs = [.agg [.slice none 0 0, .int .i64 0].toArray] ∧ Sat w' l :=
  disk_Disk_at_calls _ n <| by
    unfold disk_Disk_at
    refine wp_newO hs fun b w' hs => ?_
    refine wp_exN (by simp) ?_
    refine wp_rdN (by simp) none ?_
    refine wp_rdN (by simp) none ?_
    refine wp_ifT ?_ (.inl rfl)
    refine wp_stG hs fun w' hs => ?_
    refine wp_ldG hs ?_
    exact ⟨rfl, rfl, hs.tail⟩
theorem size_n (n : ByteArray) (hs : Sat w l) : Ret P F.disk_Disk_Size #[.pointer none, .string n] w fun vs w' => vs = [.int .i64 0] ∧ Sat w' l :=
  disk_Disk_Size_calls _ n <| by
    unfold disk_Disk_Size
    refine wp_call (at_n n hs) fun _ _ hs => ?_
    obtain ⟨rfl, hs⟩ := hs
    refine ret_of ?_
    refine wp_lt ?_
    exact ⟨rfl, rfl, hs⟩
theorem kept_n (n : ByteArray) (hs : Sat w l) : Ret P F.disk_Disk_Kept #[.pointer none, .string n] w fun vs w' => vs = [.int .i64 0] ∧ Sat w' l :=
  disk_Disk_Kept_calls _ n <| by
    unfold disk_Disk_Kept
    refine wp_call (at_n n hs) fun _ _ hs => ?_
    obtain ⟨rfl, hs⟩ := hs
    refine ret_of ?_
    refine wp_lt ?_
    exact ⟨rfl, rfl, hs⟩
theorem names_n (n : ByteArray) (hs : Sat w l) : Ret P F.disk_Disk_Names #[.pointer none, .string n] w fun vs w' => vs = [.slice none 0 0] ∧ Sat w' l :=
  disk_Disk_Names_calls _ n <| by
    unfold disk_Disk_Names
    refine wp_boxO hs fun b w' hs => ?_
    refine wp_ifT ?_ rfl
    exact ⟨rfl, rfl, hs.tail⟩
theorem used_n (hs : Sat w l) : Ret P F.disk_Disk_Used #[.pointer none] w fun vs w' => vs = [.int .i64 0] ∧ Sat w' l :=
  disk_Disk_Used_calls _ <| by
    unfold disk_Disk_Used
    refine wp_ifT ?_ rfl
    exact ⟨rfl, rfl, hs⟩
theorem free_n (hs : Sat w l) : Ret P F.disk_Disk_Free #[.pointer none] w fun vs w' => vs = [.int .i64 0] ∧ Sat w' l :=
  disk_Disk_Free_calls _ <| by
    unfold disk_Disk_Free
    refine wp_ifT ?_ rfl
    exact ⟨rfl, rfl, hs⟩
theorem room_n (n : Int) (hs : Sat w l) : Ret P F.disk_Disk_Room #[.pointer none, .int .i64 n] w fun vs w' => vs = [.int .i64 1] ∧ Sat w' l :=
  disk_Disk_Room_calls _ n <| by
    unfold disk_Disk_Room
    refine wp_lt ?_
    refine wp_ifT ?_ rfl
    exact ⟨rfl, rfl, hs⟩
theorem gone_n (hs : Sat w l) : Ret P F.disk_Disk_Gone #[.pointer none] w fun vs w' => vs = [.bool true] ∧ Sat w' l :=
  disk_Disk_Gone_calls _ <| by
    unfold disk_Disk_Gone
    refine wp_exN (by simp) ?_
    refine wp_rdN (by simp) false ?_
    refine wp_lt ?_
    exact ⟨rfl, rfl, hs⟩
theorem crash_n (x : Sl) (hs : Sat w l) : Ret P F.disk_Disk_Crash #[.pointer none, x.v] w fun vs w' => vs = [.pointer none] ∧ Sat w' l :=
  disk_Disk_Crash_calls _ x <| by
    unfold disk_Disk_Crash
    refine wp_ifT ?_ rfl
    exact ⟨rfl, rfl, hs⟩
theorem fuse_n (n : Int) (hs : Sat w l) : Ret P F.disk_Disk_Fuse #[.pointer none, .int .i64 n] w fun vs w' => vs = [] ∧ Sat w' l :=
  disk_Disk_Fuse_calls _ n <| by
    unfold disk_Disk_Fuse
    refine wp_exN (by simp) ?_
    refine wp_rdN (by simp) false ?_
    refine wp_ifT ?_ (.inl rfl)
    exact ⟨rfl, rfl, hs⟩

theorem nil_law (name : ByteArray) (n : Int) (hs : Sat w l) : Ret P F.towpathlaw04_DiskNil #[.string name, .int .i64 n] w fun vs w' => vs = [.bool true] ∧ Sat w' l :=
  towpathlaw04_DiskNil_calls name n <| by
    unfold towpathlaw04_DiskNil
    refine wp_call (short_c name 60 hs) fun _ _ hs => ?_
    obtain ⟨rfl, hs⟩ := hs
    refine ret_of ?_
    generalize shortS name 60 = s at *
    refine wp_lt ?_
    refine wp_call (read_n s hs) fun _ _ hs => ?_
    obtain ⟨rfl, hs⟩ := hs
    refine ret_of ?_
    refine wp_lt ?_
    refine wp_call (fuse_n n hs) fun _ _ hs => ?_
    obtain ⟨rfl, hs⟩ := hs
    refine ret_of ?_
    refine wp_mid (fun v w' => v = (false, ()) ∧ Sat w' l) ?_ ?_
    · refine wp_ifF ?_ (by simp)
      refine wp_slit1 hs (enc := encL) ⟨none, 0, 0⟩ fun y w' hs => ?_
      refine wp_call (append_n s y hs) fun _ _ hs => ?_
      obtain ⟨rfl, hs⟩ := hs
      refine ret_of ?_
      refine wp_ifF ?_ (by simp)
      refine wp_call (sync_n ⟨none, 0, 0⟩ hs) fun _ _ hs => ?_
      obtain ⟨rfl, hs⟩ := hs
      refine ret_of ?_
      refine wp_ifF ?_ (by simp)
      refine wp_call (cut_n s n hs) fun _ _ hs => ?_
      obtain ⟨rfl, hs⟩ := hs
      refine ret_of ?_
      refine wp_ifF ?_ (by simp)
      refine wp_call (rename_n s s hs) fun _ _ hs => ?_
      obtain ⟨rfl, hs⟩ := hs
      refine ret_of ?_
      refine wp_ifF ?_ (by simp)
      refine wp_call (remove_n s hs) fun _ _ hs => ?_
      obtain ⟨rfl, hs⟩ := hs
      refine ret_of ?_
      exact wp_lv ⟨rfl, hs.tail⟩
    clear hs
    rintro _ w ⟨rfl, hs⟩
    refine wp_on ?_
    refine wp_ifF ?_ (by simp)
    refine wp_mid (fun v w' => v = (true, ()) ∧ Sat w' l) ?_ (by rintro _ w' ⟨rfl, hs⟩; refine wp_on ?_; exact ⟨rfl, rfl, hs⟩)
    refine wp_call (size_n s hs) fun _ _ hs => ?_
    obtain ⟨rfl, hs⟩ := hs
    refine ret_of ?_
    refine wp_ifT ?_ rfl
    refine wp_call (kept_n s hs) fun _ _ hs => ?_
    obtain ⟨rfl, hs⟩ := hs
    refine ret_of ?_
    refine wp_ifT ?_ rfl
    refine wp_call (names_n (ByteArray.mk #[]) hs) fun _ _ hs => ?_
    obtain ⟨rfl, hs⟩ := hs
    refine ret_of ?_
    refine wp_ifT ?_ rfl
    refine wp_call (used_n hs) fun _ _ hs => ?_
    obtain ⟨rfl, hs⟩ := hs
    refine ret_of ?_
    refine wp_ifT ?_ rfl
    refine wp_call (free_n hs) fun _ _ hs => ?_
    obtain ⟨rfl, hs⟩ := hs
    refine ret_of ?_
    refine wp_ifT ?_ rfl
    refine wp_call (room_n n hs) fun _ _ hs => ?_
    obtain ⟨rfl, hs⟩ := hs
    refine ret_of ?_
    refine wp_ifT ?_ rfl
    refine wp_call (gone_n hs) fun _ _ hs => ?_
    obtain ⟨rfl, hs⟩ := hs
    refine ret_of ?_
    refine wp_ifT ?_ trivial
    refine wp_slit1 hs (enc := encI) n fun y w' hs => ?_
    refine wp_call (crash_n y hs) fun _ _ hs => ?_
    obtain ⟨rfl, hs⟩ := hs
    refine ret_of ?_
    refine wp_ifT ?_ rfl
    refine wp_call (awake_c hs) fun _ _ hs => ?_
    obtain ⟨rfl, hs⟩ := hs
    refine ret_of ?_
    refine wp_lt ?_
    exact wp_lv ⟨rfl, hs.tail⟩

end
end Go.Dec
