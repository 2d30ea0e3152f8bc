/- Disks: the document's: New, Used, Free, At, with, without, done. -/
import Derived.Test.YtnfaklmndojeaaaD8
namespace Go.Dec
set_option linter.unusedVariables false
set_option linter.unusedSimpArgs false

def encF (f : FileA) : List Value := [.string f.name, .string (bytesOf f.b), .int .i64 f.kept]
instance : EncA encF [.str, .str, .int .i64] (fun f => (f.name, bytesOf f.b, (f.kept : Int), ())) := ⟨fun _ => rfl⟩
instance : EncN encF 3 := ⟨fun _ => rfl, by decide, by simp [encF, Value.oneCell']⟩
instance : EncF encF 0 .str (fun f => f.name) := ⟨fun _ => rfl⟩
instance : EncF encF 1 .str (fun f => bytesOf f.b) := ⟨fun _ => rfl⟩
instance : EncF encF 2 (.int .i64) (fun f => (f.kept : Int)) := ⟨fun _ => rfl⟩

/-- The document's disk. -/
def rdk (q : Nat) (A : DiskA) : HP := HP.ex fun x : Sl => HP.star (pt q (.cells #[.int .i64 A.room, x.v, .int .i64 A.left, .bool A.gone] T.towpathref04_Disk)) (slc T.towpathref04_File 3 x (A.fs.flatMap encF))

theorem bytesOf_size (b : List UInt8) : (bytesOf b).size = b.length := by show b.toArray.size = _; simp

section
variable {w : World} {l r r1 r2 l' : List HP} {q : Nat} {A : DiskA}

theorem rdk_open (hs : Sat w (rdk q A :: l)) : ∃ x : Sl, Sat w (pt q (.cells #[.int .i64 A.room, x.v, .int .i64 A.left, .bool A.gone] T.towpathref04_Disk) :: slc T.towpathref04_File 3 x (A.fs.flatMap encF) :: l) := by
  obtain ⟨x, hs⟩ := hs.ex
  exact ⟨x, hs.star⟩
theorem rdk_close (x : Sl) (hs : Sat w l) [h1 : FocB l q (.cells [.int .i64 A.room, .slice x.a x.len x.cap, .int .i64 A.left, .bool A.gone].toArray T.towpathref04_Disk) r1] [h2 : FocS r1 x T.towpathref04_File 3 (A.fs.flatMap encF) r2] [h3 : Sub r2 l'] : Sat w (rdk q A :: l') := by
  have h5 : Sat w (rdk q A :: r2) := .ex_mk x (.star_mk (hs.perm (h1.perm.trans (.cons _ h2.perm))))
  exact h5.sub

theorem rnew_c (n : Nat) (hs : Sat w l) : Ret P F.towpathref04_New #[.int .i64 n] w fun vs w' => ∃ q, vs = [.pointer (some ⟨q, 0, none⟩)] ∧ Sat w' (rdk q ⟨n, -1, false, []⟩ :: l) :=
  towpathref04_New_calls n <| by
    unfold towpathref04_New
    refine wp_boxO hs fun q w' hs => ?_
    have hs := hs.slc_nil (T := T.towpathref04_File) (sz := 3)
    exact ⟨rfl, q, rfl, .ex_mk ⟨none, 0, 0⟩ (.star_mk (hs.pick [1]))⟩

theorem used_take {fs : List FileA} {i : Nat} (hi : i < fs.length) : used (fs.take (i + 1)) = used (fs.take i) + fs[i].b.length := by
  rw [List.take_add_one, List.getElem?_eq_getElem hi, Option.toList_some, used_perm List.perm_append_comm, List.singleton_append, used_cons, Nat.add_comm]
theorem used_take_le (fs : List FileA) (i : Nat) : used (fs.take i) ≤ used fs := used_sub (List.take_sublist i fs)

theorem rused_c (hok : okA A) [hf : Fo l rdk q A r] (hs : Sat w l) : Ret P F.towpathref04_Disk_Used #[.pointer (some ⟨q, 0, none⟩)] w fun vs w' => vs = [.int .i64 (used A.fs : Nat)] ∧ Sat w' (rdk q A :: r) :=
  towpathref04_Disk_Used_calls _ <| by
    unfold towpathref04_Disk_Used
    have hs0 := hs.perm hf.perm
    obtain ⟨x, hs⟩ := rdk_open hs0
    have hl := hs.slen x (xs := A.fs) (enc := encF)
    have hm := hok.many
    have hu := hok.used
    (repeat (first | with_reducible (first | refine wp_on ?_ | refine wp_nn ?_ | refine wp_nng ?_ | refine wp_ldO hs ?_ | refine wp_ldG hs ?_ | refine wp_untick ?_ | refine wp_tk hs fun _ hs => ?_ | refine wp_newO hs fun _ _ hs => ?_ | refine wp_boxO hs fun _ _ hs => ?_ | refine wp_stO hs fun _ hs => ?_ | refine wp_stG hs fun _ hs => ?_) | (apply wp_must; (focus first | trivial | omega | assumption)) | refine wp_ltw ?_ | refine wp_lt ?_))
    refine wp_mid (fun v w' => v = (((used A.fs : Nat) : Int), ()) ∧ Sat w' (rdk q A :: r)) ?_ ?_
    · refine wp_loop (fun k v w => ∃ i : Nat, v = (((used (A.fs.take i) : Nat) : Int), (i : Int), ()) ∧ i ≤ A.fs.length ∧ A.fs.length - i = k ∧ Sat w (pt q (.cells #[.int .i64 A.room, x.v, .int .i64 A.left, .bool A.gone] T.towpathref04_Disk) :: slc T.towpathref04_File 3 x (A.fs.flatMap encF) :: r)) A.fs.length ⟨0, rfl, by omega, rfl, hs⟩ ?_
      clear hs
      rintro k _ w ⟨i, rfl, hi, hk, hs⟩
      refine wp_on ?_
      refine wp_if (fun hc => ?_) fun hc => ?_
      · have hil : i < A.fs.length := by omega
        refine wp_ixA hs i hil ?_
        have h1 := used_take hil
        have h2 := used_take_le A.fs (i + 1)
        refine wp_newO hs fun b w' hs => ?_
        refine wp_stG hs fun w' hs => ?_
        refine wp_ldO hs ?_
        rw [bytesOf_size]
        refine wp_ltx (y := ((used (A.fs.take (i + 1)) : Nat) : Int)) ?_ (by rw [h1, w64 (by omega) (by omega)]; omega)
        refine wp_dn (us' := [.int .i64 ((used (A.fs.take (i + 1)) : Nat) : Int), .int .i64 ((i + 1 : Nat) : Int)]) (by (try simp (disch := omega) only [w64]); first | rfl | (congr; omega)) ?_
        refine wp_lp (A.fs.length - (i + 1)) ?_
        exact ⟨i + 1, rfl, by omega, rfl, hs.sub⟩
      · refine wp_pass (wp_lv ?_)
        rw [List.take_of_length_le (by omega)]
        exact ⟨rfl, rdk_close x hs⟩
    · rintro _ w' ⟨rfl, hs⟩
      (repeat (first | with_reducible (first | refine wp_on ?_ | refine wp_nn ?_ | refine wp_nng ?_ | refine wp_ldO hs ?_ | refine wp_ldG hs ?_ | refine wp_untick ?_ | refine wp_tk hs fun _ hs => ?_ | refine wp_newO hs fun _ _ hs => ?_ | refine wp_boxO hs fun _ _ hs => ?_ | refine wp_stO hs fun _ hs => ?_ | refine wp_stG hs fun _ hs => ?_) | (apply wp_must; (focus first | trivial | omega | assumption)) | refine wp_ltw ?_ | refine wp_lt ?_))
      exact ⟨rfl, rfl, hs⟩

theorem rfree_c (hok : okA A) [hf : Fo l rdk q A r] (hs : Sat w l) : Ret P F.towpathref04_Disk_Free #[.pointer (some ⟨q, 0, none⟩)] w fun vs w' => vs = [.int .i64 (A.free : Nat)] ∧ Sat w' (rdk q A :: r) :=
  towpathref04_Disk_Free_calls _ <| by
    unfold towpathref04_Disk_Free
    obtain ⟨x, hs⟩ := rdk_open (hs.perm hf.perm)
    have hm := hok.room
    have hu := hok.used
    refine wp_tk hs fun w' hs => ?_
    refine wp_nn ?_
    refine wp_hdO hs ?_
    have hs : Sat w' (rdk q A :: r) := rdk_close x hs
    refine wp_call (rused_c hok hs) fun _ w' hs => ?_
    obtain ⟨rfl, hs⟩ := hs
    refine ret_of ?_ ⟨trivial, fun _ => ?_⟩
    rotate_left
    · obtain ⟨x, hs⟩ := rdk_open hs
      exact run_ldO hs
    refine wp_ltw ?_
    refine wp_untick ?_
    refine wp_if (fun h => ?_) fun h => ?_
    · refine ⟨rfl, ?_, hs⟩
      have : A.free = 0 := by unfold DiskA.free; omega
      rw [this]; rfl
    · (repeat (first | with_reducible (first | refine wp_on ?_ | refine wp_nn ?_ | refine wp_nng ?_ | refine wp_ldO hs ?_ | refine wp_ldG hs ?_ | refine wp_untick ?_ | refine wp_tk hs fun _ hs => ?_ | refine wp_newO hs fun _ _ hs => ?_ | refine wp_boxO hs fun _ _ hs => ?_ | refine wp_stO hs fun _ hs => ?_ | refine wp_stG hs fun _ hs => ?_) | (apply wp_must; (focus first | trivial | omega | assumption)) | refine wp_ltw ?_ | refine wp_lt ?_))
      refine ⟨rfl, ?_, hs⟩
      congr 2
      unfold DiskA.free; omega

theorem rat_c (n : ByteArray) (hok : okA A) [hf : Fo l rdk q A r] (hs : Sat w l) : Ret P F.towpathref04_Disk_At #[.pointer (some ⟨q, 0, none⟩), .string n] w fun vs w' =>
    ((∃ (i : Nat) (hi : i < A.fs.length), vs = [.int .i64 i] ∧ A.fs[i].name = n) ∨ (vs = [.int .i64 (-1)] ∧ ∀ f ∈ A.fs, f.name ≠ n)) ∧ Sat w' (rdk q A :: r) :=
  towpathref04_Disk_At_calls _ n <| by
    unfold towpathref04_Disk_At
    obtain ⟨x, hs⟩ := rdk_open (hs.perm hf.perm)
    have hl := hs.slen x (xs := A.fs) (enc := encF)
    have hm := hok.many
    (repeat (first | with_reducible (first | refine wp_on ?_ | refine wp_nn ?_ | refine wp_nng ?_ | refine wp_ldO hs ?_ | refine wp_ldG hs ?_ | refine wp_untick ?_ | refine wp_tk hs fun _ hs => ?_ | refine wp_newO hs fun _ _ hs => ?_ | refine wp_boxO hs fun _ _ hs => ?_ | refine wp_stO hs fun _ hs => ?_ | refine wp_stG hs fun _ hs => ?_) | (apply wp_must; (focus first | trivial | omega | assumption)) | refine wp_ltw ?_ | refine wp_lt ?_))
    refine wp_mid (fun v w' => (∀ f ∈ A.fs, f.name ≠ n) ∧ Sat w' (rdk q A :: r)) ?_ ?_
    · refine wp_loop (fun k v w => ∃ i : Nat, v = ((i : Int), ()) ∧ i ≤ A.fs.length ∧ A.fs.length - i = k ∧ (∀ j (hj : j < A.fs.length), j < i → A.fs[j].name ≠ n) ∧ Sat w (pt q (.cells #[.int .i64 A.room, x.v, .int .i64 A.left, .bool A.gone] T.towpathref04_Disk) :: slc T.towpathref04_File 3 x (A.fs.flatMap encF) :: r)) A.fs.length ⟨0, rfl, by omega, rfl, fun _ _ h => by omega, hs⟩ ?_
      clear hs
      rintro k _ w ⟨i, rfl, hi, hk, hno, hs⟩
      refine wp_on ?_
      refine wp_if (fun hc => ?_) fun hc => ?_
      · have hil : i < A.fs.length := by omega
        refine wp_lt ?_
        refine wp_nn ?_
        refine wp_ldO hs ?_
        refine wp_ixF hs i hil ?_
        refine wp_if (fun h => ?_) fun h => ?_
        · refine wp_lt ?_
          refine wp_pass (wp_pass ?_)
          exact ⟨rfl, .inl ⟨i, hil, rfl, h⟩, rdk_close x hs⟩
        · refine wp_dn (us' := [.int .i64 ((i + 1 : Nat) : Int)]) (by (try simp (disch := omega) only [w64]); first | rfl | (congr; omega)) ?_
          refine wp_lp (A.fs.length - (i + 1)) ?_
          refine ⟨i + 1, rfl, by omega, rfl, fun j hj hji => ?_, hs⟩
          by_cases hj' : j = i
          · subst hj'; exact h
          · exact hno j hj (by omega)
      · refine wp_pass (wp_lv ⟨fun f hf e => ?_, rdk_close x hs⟩)
        obtain ⟨j, hj, rfl⟩ := List.getElem_of_mem hf
        exact hno j hj (by omega) e
    · rintro _ w' ⟨hno, hs⟩
      refine wp_on ?_
      exact ⟨rfl, .inr ⟨rfl, hno⟩, hs⟩

theorem rdone_c (hok : okA A) (hg : A.gone = false) [hf : Fo l rdk q A r] (hs : Sat w l) : Ret P F.towpathref04_Disk_done #[.pointer (some ⟨q, 0, none⟩)] w fun vs w' => vs = [.int .i64 0] ∧ Sat w' (rdk q (doneA A) :: r) :=
  towpathref04_Disk_done_calls _ <| by
    unfold towpathref04_Disk_done
    obtain ⟨x, hs⟩ := rdk_open (hs.perm hf.perm)
    have hl := hok.left
    rw [doneA_eq A hg]
    (repeat (first | with_reducible (first | refine wp_on ?_ | refine wp_nn ?_ | refine wp_nng ?_ | refine wp_ldO hs ?_ | refine wp_ldG hs ?_ | refine wp_untick ?_ | refine wp_tk hs fun _ hs => ?_ | refine wp_newO hs fun _ _ hs => ?_ | refine wp_boxO hs fun _ _ hs => ?_ | refine wp_stO hs fun _ hs => ?_ | refine wp_stG hs fun _ hs => ?_) | (apply wp_must; (focus first | trivial | omega | assumption)) | refine wp_ltw ?_ | refine wp_lt ?_))
    refine wp_mid (fun _ w' => Sat w' (rdk q ⟨A.room, if A.left > 0 then A.left - 1 else A.left, if A.left > 0 then decide (A.left - 1 = 0) else false, A.fs⟩ :: r)) ?_ ?_
    · refine wp_if (fun h => ?_) fun h => ?_
      · (repeat (first | with_reducible (first | refine wp_on ?_ | refine wp_nn ?_ | refine wp_nng ?_ | refine wp_ldO hs ?_ | refine wp_ldG hs ?_ | refine wp_untick ?_ | refine wp_tk hs fun _ hs => ?_ | refine wp_newO hs fun _ _ hs => ?_ | refine wp_boxO hs fun _ _ hs => ?_ | refine wp_stO hs fun _ hs => ?_ | refine wp_stG hs fun _ hs => ?_) | (apply wp_must; (focus first | trivial | omega | assumption)) | refine wp_ltw ?_ | refine wp_lt ?_))
        rw [w64 (x := A.left - 1) (by omega) (by omega)] at hs ⊢
        rw [if_pos h, if_pos h]
        refine wp_bind ?_
        refine wp_if (fun h2 => ?_) fun h2 => ?_
        · (repeat (first | with_reducible (first | refine wp_on ?_ | refine wp_nn ?_ | refine wp_nng ?_ | refine wp_ldO hs ?_ | refine wp_ldG hs ?_ | refine wp_untick ?_ | refine wp_tk hs fun _ hs => ?_ | refine wp_newO hs fun _ _ hs => ?_ | refine wp_boxO hs fun _ _ hs => ?_ | refine wp_stO hs fun _ hs => ?_ | refine wp_stG hs fun _ hs => ?_) | (apply wp_must; (focus first | trivial | omega | assumption)) | refine wp_ltw ?_ | refine wp_lt ?_))
          refine wp_go ?_
          refine wp_lv ?_
          rw [decide_eq_true h2]
          exact rdk_close x (A := ⟨A.room, A.left - 1, true, A.fs⟩) hs
        · refine wp_go ?_
          refine wp_lv ?_
          rw [decide_eq_false h2]
          rw [hg] at hs
          exact rdk_close x (A := ⟨A.room, A.left - 1, false, A.fs⟩) hs
      · refine wp_lv ?_
        rw [if_neg h, if_neg h]
        rw [hg] at hs
        exact rdk_close x (A := ⟨A.room, A.left, false, A.fs⟩) hs
    · rintro _ w' hs
      refine wp_on ?_
      exact ⟨rfl, rfl, hs⟩

end
end Go.Dec
