/- Disks: Read, Size, Kept, drop, Remove, Cut, Rename. -/
import Derived.Test.YtnfaklmndojeaaaD2
namespace Go.Dec
set_option linter.unusedVariables false
set_option linter.unusedSimpArgs false

/-! ### Lists of files -/
theorem find_name {fs : List FileA} {n : ByteArray} (hs : (fs.map (·.name)).Nodup) {f : FileA} (hf : f ∈ fs) (hn : f.name = n) : fs.find? (fun f => decide (f.name = n)) = some f := by
  subst hn
  induction fs with
  | nil => cases hf
  | cons g r ih =>
    rw [List.map_cons, List.nodup_cons] at hs
    rcases List.mem_cons.1 hf with rfl | hf
    · rw [List.find?_cons_of_pos (by simp)]
    · rw [List.find?_cons_of_neg (by simp; exact fun e => hs.1 (List.mem_map.2 ⟨f, hf, e.symm⟩))]
      exact ih hs.2 hf
theorem find_none {fs : List FileA} {n : ByteArray} (h : ∀ f ∈ fs, f.name ≠ n) : fs.find? (fun f => decide (f.name = n)) = none := List.find?_eq_none.2 fun f hf => by simpa using h f hf
theorem lenF_eq {fs : List FileA} {n : ByteArray} (hs : (fs.map (·.name)).Nodup) {f : FileA} (hf : f ∈ fs) (hn : f.name = n) : lenF fs n = f.b.length := by rw [lenF, find_name hs hf hn]

section
variable {w : World} {l r : List HP} {d : Nat} {A : DiskA}

/-- What a map's entry, or none, says of the files. -/
theorem in_fs {FS : List FileM} (hp : (FS.map FileM.f).Perm A.fs) {n : ByteArray} {b : Nat} (h : (n, b) ∈ FS.map fun t => (t.f.name, t.at_)) : ∃ t ∈ FS, t.at_ = b ∧ t.f.name = n ∧ t.f ∈ A.fs := by
  obtain ⟨t, ht, he⟩ := List.mem_map.1 h
  simp only [Prod.mk.injEq] at he
  exact ⟨t, ht, he.2, he.1, hp.mem_iff.1 (List.mem_map.2 ⟨t, ht, rfl⟩)⟩
theorem not_fs {FS : List FileM} (hp : (FS.map FileM.f).Perm A.fs) {n : ByteArray} (h : ∀ b, (n, b) ∉ FS.map fun t => (t.f.name, t.at_)) : ∀ f ∈ A.fs, f.name ≠ n := fun f hf e => by
  obtain ⟨t, ht, rfl⟩ := List.mem_map.1 (hp.mem_iff.2 hf)
  exact h t.at_ (List.mem_map.2 ⟨t, ht, by rw [e]⟩)

/-- One file told apart: the others have other names. -/
theorem apart {FS FS' : List FileM} {t : FileM} (hp : (FS.map FileM.f).Perm A.fs) (hok : okA A) (h : FS.Perm (t :: FS')) :
    A.fs.Perm (t.f :: FS'.map FileM.f) ∧ (∀ f ∈ FS'.map FileM.f, f.name ≠ t.f.name) ∧ t.f ∈ A.fs := by
  have h1 : A.fs.Perm (t.f :: FS'.map FileM.f) := hp.symm.trans (h.map FileM.f)
  have h2 : ((t.f :: FS'.map FileM.f).map (·.name)).Nodup := (h1.map _).nodup_iff.1 (names_nodup hok.sorted)
  rw [List.map_cons, List.nodup_cons] at h2
  exact ⟨h1, fun f hf e => h2.1 (List.mem_map.2 ⟨f, hf, e⟩), h1.mem_iff.2 (List.mem_cons_self ..)⟩

theorem clone_c (x : Sl) (bs : List UInt8) (hb : bs.length ≤ 100000000) [hf : FocR l x 1 (bs.flatMap encU)] (hs : Sat w l) : Ret P F.bytes_Clone #[x.v] w fun vs w' => ∃ z : Sl, vs = [z.v] ∧ Sat w' (slc T.uint8 1 z (bs.flatMap encU) :: l) :=
  bytes_Clone_calls x <| by
    unfold bytes_Clone
    refine wp_if (fun h => ?_) fun h => ?_
    · have : bs = [] := by
        obtain ⟨hlen, h0 | ⟨b, off, arr, T', fr, ha, -⟩⟩ := hf.rd w hs
        · rw [flat_len, h0] at hlen; exact List.length_eq_zero_iff.1 (by omega)
        · rw [h] at ha; cases ha
      subst this
      exact ⟨rfl, ⟨none, 0, 0⟩, rfl, hs.slc_nil⟩
    · refine wp_slit hs ([] : List UInt8) (enc := encU) bs0 fun b w' hs => ?_
      refine wp_app' hs (xs := ([] : List UInt8)) (ys := bs) (enc := encU) (fun z w' hs => ?_) (by simp; omega)
      exact ⟨rfl, z, rfl, hs⟩

theorem read_c (n : ByteArray) [hf : Fo l dk d A r] (hs : Sat w l) : Ret P F.disk_Disk_Read #[.pointer (some ⟨d, 0, none⟩), .string n] w fun vs w' =>
    (∃ f ∈ A.fs, f.name = n ∧ ∃ z : Sl, vs = [z.v, .int .i64 0] ∧ Sat w' (slc T.uint8 1 z (f.b.flatMap encU) :: dk d A :: r)) ∨ ((∀ f ∈ A.fs, f.name ≠ n) ∧ vs = [.slice none 0 0, .int .i64 3] ∧ Sat w' (dk d A :: r)) :=
  disk_Disk_Read_calls _ n <| by
    unfold disk_Disk_Read
    obtain ⟨m, FS, hp, hok, hs⟩ := dk_open (hs.perm hf.perm)
    refine wp_ifF ?_ (by simp)
    (repeat (first | with_reducible (first | refine wp_on ?_ | refine wp_nn ?_ | refine wp_nng ?_ | refine wp_ldO hs ?_ | refine wp_ldG hs ?_ | refine wp_untick ?_ | refine wp_tk hs fun _ hs => ?_ | refine wp_newO hs fun _ _ hs => ?_ | refine wp_boxO hs fun _ _ hs => ?_ | refine wp_stO hs fun _ hs => ?_ | refine wp_stG hs fun _ hs => ?_) | (apply wp_must; (focus first | trivial | omega | assumption)) | refine wp_ltw ?_ | refine wp_lt ?_))
    refine wp_look hs (fun b hb => ?_) fun hb => ?_
    · obtain ⟨t, ht, rfl, rfl, hA⟩ := in_fs hp hb
      obtain ⟨FS', hpm, hs⟩ := file_open hs ht
      refine wp_ifF ?_ (by simp)
      (repeat (first | with_reducible (first | refine wp_on ?_ | refine wp_nn ?_ | refine wp_nng ?_ | refine wp_ldO hs ?_ | refine wp_ldG hs ?_ | refine wp_untick ?_ | refine wp_tk hs fun _ hs => ?_ | refine wp_newO hs fun _ _ hs => ?_ | refine wp_boxO hs fun _ _ hs => ?_ | refine wp_stO hs fun _ hs => ?_ | refine wp_stG hs fun _ hs => ?_) | (apply wp_must; (focus first | trivial | omega | assumption)) | refine wp_ltw ?_ | refine wp_lt ?_))
      have hlen : t.f.b.length ≤ 4194304 := Nat.le_trans (used_mem hA) hok.used
      refine wp_call (clone_c t.x t.f.b (by omega) hs) fun _ _ hs => ?_
      obtain ⟨z, rfl, hs⟩ := hs
      refine ret_of ?_
      (repeat (first | with_reducible (first | refine wp_on ?_ | refine wp_nn ?_ | refine wp_nng ?_ | refine wp_ldO hs ?_ | refine wp_ldG hs ?_ | refine wp_untick ?_ | refine wp_tk hs fun _ hs => ?_ | refine wp_newO hs fun _ _ hs => ?_ | refine wp_boxO hs fun _ _ hs => ?_ | refine wp_stO hs fun _ hs => ?_ | refine wp_stG hs fun _ hs => ?_) | (apply wp_must; (focus first | trivial | omega | assumption)) | refine wp_ltw ?_ | refine wp_lt ?_))
      refine ⟨rfl, .inl ⟨t.f, hA, rfl, z, rfl, ?_⟩⟩
      have hs := (file_close t hs).all_perm (hpm.symm.map fileP)
      have hs := dk_close (d := d) (A := A) (l' := slc T.uint8 1 z (t.f.b.flatMap encU) :: r) m hp hok hs
      exact hs.sub
    · refine wp_ifT ?_ (by rfl)
      exact ⟨rfl, .inr ⟨not_fs hp hb, rfl, dk_close m hp hok hs⟩⟩

/-- What Size and Kept tell. -/
def sizeF (fs : List FileA) (n : ByteArray) : Nat × Nat := match fs.find? fun f => decide (f.name = n) with
  | some f => (f.b.length, f.kept)
  | none => (0, 0)

theorem at_c (n : ByteArray) [hf : Fo l dk d A r] (hs : Sat w l) : Ret P F.disk_Disk_at #[.pointer (some ⟨d, 0, none⟩), .string n] w fun vs w' =>
    ∃ x : Sl, vs = [.agg [x.v, .int .i64 (sizeF A.fs n).2].toArray] ∧ x.len = (sizeF A.fs n).1 ∧ Sat w' (dk d A :: r) :=
  disk_Disk_at_calls _ n <| by
    unfold disk_Disk_at
    obtain ⟨m, FS, hp, hok, hs⟩ := dk_open (hs.perm hf.perm)
    (repeat (first | with_reducible (first | refine wp_on ?_ | refine wp_nn ?_ | refine wp_nng ?_ | refine wp_ldO hs ?_ | refine wp_ldG hs ?_ | refine wp_untick ?_ | refine wp_tk hs fun _ hs => ?_ | refine wp_newO hs fun _ _ hs => ?_ | refine wp_boxO hs fun _ _ hs => ?_ | refine wp_stO hs fun _ hs => ?_ | refine wp_stG hs fun _ hs => ?_) | (apply wp_must; (focus first | trivial | omega | assumption)) | refine wp_ltw ?_ | refine wp_lt ?_))
    refine wp_look hs (fun b hb => ?_) fun hb => ?_
    · obtain ⟨t, ht, rfl, rfl, hA⟩ := in_fs hp hb
      refine wp_ifF ?_ (by simp)
      (repeat (first | with_reducible (first | refine wp_on ?_ | refine wp_nn ?_ | refine wp_nng ?_ | refine wp_ldO hs ?_ | refine wp_ldG hs ?_ | refine wp_untick ?_ | refine wp_tk hs fun _ hs => ?_ | refine wp_newO hs fun _ _ hs => ?_ | refine wp_boxO hs fun _ _ hs => ?_ | refine wp_stO hs fun _ hs => ?_ | refine wp_stG hs fun _ hs => ?_) | (apply wp_must; (focus first | trivial | omega | assumption)) | refine wp_ltw ?_ | refine wp_lt ?_))
      refine wp_look hs (fun b2 hb2 => ?_) fun hb2 => absurd hb (hb2 _)
      obtain ⟨t2, ht2, rfl, hn2, hA2⟩ := in_fs hp hb2
      obtain ⟨FS', hpm, hs⟩ := file_open hs ht2
      (repeat (first | with_reducible (first | refine wp_on ?_ | refine wp_nn ?_ | refine wp_nng ?_ | refine wp_ldO hs ?_ | refine wp_ldG hs ?_ | refine wp_untick ?_ | refine wp_tk hs fun _ hs => ?_ | refine wp_newO hs fun _ _ hs => ?_ | refine wp_boxO hs fun _ _ hs => ?_ | refine wp_stO hs fun _ hs => ?_ | refine wp_stG hs fun _ hs => ?_) | (apply wp_must; (focus first | trivial | omega | assumption)) | refine wp_ltw ?_ | refine wp_lt ?_))
      refine ⟨rfl, t2.x, ?_, ?_, ?_⟩
      · rw [sizeF, find_name (names_nodup hok.sorted) hA2 hn2]
      · rw [sizeF, find_name (names_nodup hok.sorted) hA2 hn2]; exact hs.slen t2.x
      · have hs := (file_close t2 hs).all_perm (hpm.symm.map fileP)
        exact dk_close m hp hok hs
    · refine wp_ifT ?_ (by simp)
      (repeat (first | with_reducible (first | refine wp_on ?_ | refine wp_nn ?_ | refine wp_nng ?_ | refine wp_ldO hs ?_ | refine wp_ldG hs ?_ | refine wp_untick ?_ | refine wp_tk hs fun _ hs => ?_ | refine wp_newO hs fun _ _ hs => ?_ | refine wp_boxO hs fun _ _ hs => ?_ | refine wp_stO hs fun _ hs => ?_ | refine wp_stG hs fun _ hs => ?_) | (apply wp_must; (focus first | trivial | omega | assumption)) | refine wp_ltw ?_ | refine wp_lt ?_))
      refine ⟨rfl, ⟨none, 0, 0⟩, ?_, ?_, dk_close m hp hok hs⟩
      · rw [sizeF, find_none (not_fs hp hb)]; rfl
      · rw [sizeF, find_none (not_fs hp hb)]

theorem size_c (n : ByteArray) [hf : Fo l dk d A r] (hs : Sat w l) : Ret P F.disk_Disk_Size #[.pointer (some ⟨d, 0, none⟩), .string n] w fun vs w' => vs = [.int .i64 (sizeF A.fs n).1] ∧ Sat w' (dk d A :: r) :=
  disk_Disk_Size_calls _ n <| by
    unfold disk_Disk_Size
    refine wp_call (at_c n hs) fun _ _ hs => ?_
    obtain ⟨x, rfl, hx, hs⟩ := hs
    refine ret_of ?_
    rw [hx]
    (repeat (first | with_reducible (first | refine wp_on ?_ | refine wp_nn ?_ | refine wp_nng ?_ | refine wp_ldO hs ?_ | refine wp_ldG hs ?_ | refine wp_untick ?_ | refine wp_tk hs fun _ hs => ?_ | refine wp_newO hs fun _ _ hs => ?_ | refine wp_boxO hs fun _ _ hs => ?_ | refine wp_stO hs fun _ hs => ?_ | refine wp_stG hs fun _ hs => ?_) | (apply wp_must; (focus first | trivial | omega | assumption)) | refine wp_ltw ?_ | refine wp_lt ?_))
    exact ⟨rfl, rfl, hs⟩
theorem kept_c (n : ByteArray) [hf : Fo l dk d A r] (hs : Sat w l) : Ret P F.disk_Disk_Kept #[.pointer (some ⟨d, 0, none⟩), .string n] w fun vs w' => vs = [.int .i64 (sizeF A.fs n).2] ∧ Sat w' (dk d A :: r) :=
  disk_Disk_Kept_calls _ n <| by
    unfold disk_Disk_Kept
    refine wp_call (at_c n hs) fun _ _ hs => ?_
    obtain ⟨x, rfl, hx, hs⟩ := hs
    refine ret_of ?_
    (repeat (first | with_reducible (first | refine wp_on ?_ | refine wp_nn ?_ | refine wp_nng ?_ | refine wp_ldO hs ?_ | refine wp_ldG hs ?_ | refine wp_untick ?_ | refine wp_tk hs fun _ hs => ?_ | refine wp_newO hs fun _ _ hs => ?_ | refine wp_boxO hs fun _ _ hs => ?_ | refine wp_stO hs fun _ hs => ?_ | refine wp_stG hs fun _ hs => ?_) | (apply wp_must; (focus first | trivial | omega | assumption)) | refine wp_ltw ?_ | refine wp_lt ?_))
    exact ⟨rfl, rfl, hs⟩

end
end Go.Dec
