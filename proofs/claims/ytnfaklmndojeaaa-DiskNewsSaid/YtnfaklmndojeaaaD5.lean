/- Disks: Rename, Append. -/
import Derived.Test.YtnfaklmndojeaaaD4
namespace Go.Dec
set_option linter.unusedVariables false
set_option linter.unusedSimpArgs false

section
variable {w : World} {l r : List HP} {d : Nat} {A : DiskA}

theorem find_fs {FS : List FileM} (hp : (FS.map FileM.f).Perm A.fs) (hok : okA A) {t : FileM} (ht : t ∈ FS) : A.fs.find? (fun f => decide (f.name = t.f.name)) = some t.f :=
  find_name (names_nodup hok.sorted) (hp.mem_iff.1 (List.mem_map.2 ⟨t, ht, rfl⟩)) rfl

theorem nameF_size {s : ByteArray} (h : nameF s = true) : s.size ≤ 24 := by
  simp only [nameF, Bool.and_eq_true, decide_eq_true_eq] at h; exact h.2.2
theorem dropF_len (n : ByteArray) (fs : List FileA) : (dropF n fs).length ≤ fs.length := List.length_filter_le _ _

theorem okA_ren {A : DiskA} (hok : okA A) {f : FileA} (hf : f ∈ A.fs) (b : ByteArray) (hne : f.name ≠ b) (hb24 : b.size ≤ 24) : okA { A with fs := insF { f with name := b } (dropF b (dropF f.name A.fs)) } := by
  have h1 := okA_drop hok f.name
  have h2 := okA_drop h1 b
  have hp := insF_perm { f with name := b } (dropF b (dropF f.name A.fs))
  obtain ⟨s, u, hsu⟩ := List.append_of_mem hf
  have hpm : A.fs.Perm (f :: (s ++ u)) := by rw [hsu]; exact List.perm_middle
  have hnd := (hpm.map (·.name)).nodup_iff.1 (names_nodup hok.sorted)
  rw [List.map_cons, List.nodup_cons] at hnd
  have hd := dropF_perm hpm fun g hg e => hnd.1 (List.mem_map.2 ⟨g, hg, e⟩)
  have hu : used A.fs = f.b.length + used (dropF f.name A.fs) := by rw [used_perm hpm, used_cons, used_perm hd]
  have hl : A.fs.length = (dropF f.name A.fs).length + 1 := by rw [hpm.length_eq, List.length_cons, hd.length_eq]
  have hu2 : used (dropF b (dropF f.name A.fs)) ≤ used (dropF f.name A.fs) := by
    have : ∀ fs : List FileA, used (dropF b fs) ≤ used fs := fun fs => by
      induction fs with
      | nil => exact Nat.le_refl _
      | cons f r ih =>
        unfold dropF at *
        rw [used_cons, List.filter_cons]
        split
        · rw [used_cons]; omega
        · omega
    exact this _
  refine ⟨hok.room, ?_, ?_, hok.left, ?_, ?_, ?_⟩
  · show used (insF _ _) ≤ _
    rw [used_perm hp, used_cons]
    have := hok.used
    show f.b.length + _ ≤ _
    omega
  · show (insF _ _).length ≤ _
    rw [hp.length_eq, List.length_cons]
    have := dropF_len b (dropF f.name A.fs)
    have := hok.many
    omega
  · exact sorted_insF _ (fun g hg => (mem_dropF.1 hg).2) h2.sorted
  · intro g hg
    rcases mem_insF.1 hg with rfl | hg
    · exact hok.kept f hf
    · exact h2.kept g hg
  · intro g hg
    rcases mem_insF.1 hg with rfl | hg
    · exact hb24
    · exact h2.names g hg

theorem rename_c (a b : ByteArray) [hf : Fo l dk d A r] (hs : Sat w l) : Ret P F.disk_Disk_Rename #[.pointer (some ⟨d, 0, none⟩), .string a, .string b] w fun vs w' => vs = [.int .i64 (renA A a b).1] ∧ Sat w' (dk d (renA A a b).2 :: r) :=
  disk_Disk_Rename_calls _ a b <| by
    unfold disk_Disk_Rename renA
    refine may_if hs (fun hg w' hs => ?_) fun hg w' hs => ?_
    · rw [if_pos hg]; exact ⟨rfl, hs⟩
    rw [if_neg (by rw [hg]; simp)]
    obtain ⟨m, FS, hp, hok, hs⟩ := dk_open hs
    (repeat (first | with_reducible (first | refine wp_on ?_ | refine wp_nn ?_ | refine wp_nng ?_ | refine wp_ldO hs ?_ | refine wp_ldG hs ?_ | refine wp_untick ?_ | refine wp_tk hs fun _ hs => ?_ | refine wp_newO hs fun _ _ hs => ?_ | refine wp_boxO hs fun _ _ hs => ?_ | refine wp_stO hs fun _ hs => ?_ | refine wp_stG hs fun _ hs => ?_) | (apply wp_must; (focus first | trivial | omega | assumption)) | refine wp_ltw ?_ | refine wp_lt ?_))
    refine wp_look hs (fun bl hb => ?_) fun hb => ?_
    · obtain ⟨t, ht, rfl, rfl, hA⟩ := in_fs hp hb
      rw [find_fs hp hok ht]
      dsimp only
      refine wp_lt ?_
      refine wp_ifF ?_ (by simp)
      refine wp_call (name_c b hs) fun _ _ hs => ?_
      obtain ⟨rfl, hs⟩ := hs
      refine ret_of ?_
      refine wp_lt ?_
      refine wp_if (fun h => ?_) fun h => ?_
      · have h : nameF b = false := by simpa using h
        rw [if_pos h]
        exact ⟨rfl, rfl, dk_close m hp hok hs⟩
      have h : nameF b = true := by simpa using h
      rw [if_neg (by rw [h]; simp)]
      refine wp_bind ?_
      by_cases hab : t.f.name = b
      · rw [if_pos hab]
        refine wp_ifF ?_ (by simpa using hab)
        refine wp_go ?_
        (repeat (first | with_reducible (first | refine wp_on ?_ | refine wp_nn ?_ | refine wp_nng ?_ | refine wp_ldO hs ?_ | refine wp_ldG hs ?_ | refine wp_untick ?_ | refine wp_tk hs fun _ hs => ?_ | refine wp_newO hs fun _ _ hs => ?_ | refine wp_boxO hs fun _ _ hs => ?_ | refine wp_stO hs fun _ hs => ?_ | refine wp_stG hs fun _ hs => ?_) | (apply wp_must; (focus first | trivial | omega | assumption)) | refine wp_ltw ?_ | refine wp_lt ?_))
        rw [hg] at hs
        refine wp_call (spend_dk (A := A) (fs' := A.fs) (l' := r) hg hok hp hs) fun _ _ hs => ?_
        obtain ⟨rfl, hs⟩ := hs
        refine ret_of ?_
        (repeat (first | with_reducible (first | refine wp_on ?_ | refine wp_nn ?_ | refine wp_nng ?_ | refine wp_ldO hs ?_ | refine wp_ldG hs ?_ | refine wp_untick ?_ | refine wp_tk hs fun _ hs => ?_ | refine wp_newO hs fun _ _ hs => ?_ | refine wp_boxO hs fun _ _ hs => ?_ | refine wp_stO hs fun _ hs => ?_ | refine wp_stG hs fun _ hs => ?_) | (apply wp_must; (focus first | trivial | omega | assumption)) | refine wp_ltw ?_ | refine wp_lt ?_))
        exact ⟨rfl, rfl, hs⟩
      · rw [if_neg hab]
        refine wp_ifT ?_ (by simpa using hab)
        refine wp_call (drop_c b m hp hok hs) fun _ _ hs => ?_
        obtain ⟨rfl, FS1, hp1, hin1, hin2, hs⟩ := hs
        refine ret_of ?_
        (repeat (first | with_reducible (first | refine wp_on ?_ | refine wp_nn ?_ | refine wp_nng ?_ | refine wp_ldO hs ?_ | refine wp_ldG hs ?_ | refine wp_untick ?_ | refine wp_tk hs fun _ hs => ?_ | refine wp_newO hs fun _ _ hs => ?_ | refine wp_boxO hs fun _ _ hs => ?_ | refine wp_stO hs fun _ hs => ?_ | refine wp_stG hs fun _ hs => ?_) | (apply wp_must; (focus first | trivial | omega | assumption)) | refine wp_ltw ?_ | refine wp_lt ?_))
        have ht1 : t ∈ FS1 := hin2 t ht hab
        obtain ⟨s, u, hsu⟩ := List.append_of_mem ht1
        have hpm : FS1.Perm (t :: (s ++ u)) := by rw [hsu]; exact List.perm_middle
        have hok1 := okA_drop hok b
        obtain ⟨h1, h2, hA1⟩ := apart (A := { A with fs := dropF b A.fs }) hp1 hok1 hpm
        refine wp_mdel hs ((s ++ u).map fun t => (t.f.name, t.at_)) (.inl ⟨t.at_, hpm.map _⟩) fun w' hs => ?_
        (repeat (first | with_reducible (first | refine wp_on ?_ | refine wp_nn ?_ | refine wp_nng ?_ | refine wp_ldO hs ?_ | refine wp_ldG hs ?_ | refine wp_untick ?_ | refine wp_tk hs fun _ hs => ?_ | refine wp_newO hs fun _ _ hs => ?_ | refine wp_boxO hs fun _ _ hs => ?_ | refine wp_stO hs fun _ hs => ?_ | refine wp_stG hs fun _ hs => ?_) | (apply wp_must; (focus first | trivial | omega | assumption)) | refine wp_ltw ?_ | refine wp_lt ?_))
        have hnb : ∀ v, (b, v) ∉ (s ++ u).map fun t => (t.f.name, t.at_) := fun v hv => by
          obtain ⟨t', ht', he⟩ := List.mem_map.1 hv
          simp only [Prod.mk.injEq] at he
          exact (hin1 t' (hpm.mem_iff.2 (List.mem_cons_of_mem _ ht'))).2 he.1
        refine wp_mset hs ((s ++ u).map fun t => (t.f.name, t.at_)) (.inr ⟨hnb, rfl⟩) t.at_ fun w' hs => ?_
        refine wp_go ?_
        (repeat (first | with_reducible (first | refine wp_on ?_ | refine wp_nn ?_ | refine wp_nng ?_ | refine wp_ldO hs ?_ | refine wp_ldG hs ?_ | refine wp_untick ?_ | refine wp_tk hs fun _ hs => ?_ | refine wp_newO hs fun _ _ hs => ?_ | refine wp_boxO hs fun _ _ hs => ?_ | refine wp_stO hs fun _ hs => ?_ | refine wp_stG hs fun _ hs => ?_) | (apply wp_must; (focus first | trivial | omega | assumption)) | refine wp_ltw ?_ | refine wp_lt ?_))
        have hd : (dropF b (dropF t.f.name A.fs)).Perm ((s ++ u).map FileM.f) := by
          have e : dropF b (dropF t.f.name A.fs) = dropF t.f.name (dropF b A.fs) := by unfold dropF; rw [List.filter_filter, List.filter_filter]; congr 1; funext x; rw [Bool.and_comm]
          rw [e]; exact dropF_perm h1 h2
        have hp2 : (((⟨t.at_, t.x, { t.f with name := b }⟩ : FileM) :: (s ++ u)).map FileM.f).Perm (insF { t.f with name := b } (dropF b (dropF t.f.name A.fs))) := by
          rw [List.map_cons]
          exact (List.Perm.cons _ hd.symm).trans (insF_perm _ _).symm
        have hok2 := okA_ren hok hA b hab (nameF_size h)
        obtain ⟨FS2, hpm2, hs⟩ := file_open hs ht1
        have hpm3 : FS2.Perm (s ++ u) := List.Perm.cons_inv (hpm2.symm.trans hpm)
        have hs := file_close (FS := FS2) ⟨t.at_, t.x, { t.f with name := b }⟩ hs
        have hs := hs.all_perm ((List.Perm.cons (⟨t.at_, t.x, { t.f with name := b }⟩ : FileM) hpm3).map fileP)
        have hs : Sat _ (mapP ekS evF m (((⟨t.at_, t.x, { t.f with name := b }⟩ : FileM) :: (s ++ u)).map fun t => (t.f.name, t.at_)) :: _) := hs.pick [1]
        have hu : used (dropF b A.fs) = used (insF { t.f with name := b } (dropF b (dropF t.f.name A.fs))) := by
          rw [used_perm h1, used_cons, used_perm (insF_perm _ _), used_cons, used_perm hd]
        rw [hg] at hs
        refine wp_call (spend_dk (l' := r) hg hok2 hp2 hs (by rw [hu])) fun _ _ hs => ?_
        obtain ⟨rfl, hs⟩ := hs
        refine ret_of ?_
        (repeat (first | with_reducible (first | refine wp_on ?_ | refine wp_nn ?_ | refine wp_nng ?_ | refine wp_ldO hs ?_ | refine wp_ldG hs ?_ | refine wp_untick ?_ | refine wp_tk hs fun _ hs => ?_ | refine wp_newO hs fun _ _ hs => ?_ | refine wp_boxO hs fun _ _ hs => ?_ | refine wp_stO hs fun _ hs => ?_ | refine wp_stG hs fun _ hs => ?_) | (apply wp_must; (focus first | trivial | omega | assumption)) | refine wp_ltw ?_ | refine wp_lt ?_))
        exact ⟨rfl, rfl, hs⟩
    · rw [find_none (not_fs hp hb)]
      refine wp_lt ?_
      refine wp_ifT ?_ (by rfl)
      exact ⟨rfl, rfl, dk_close m hp hok hs⟩

end
end Go.Dec
