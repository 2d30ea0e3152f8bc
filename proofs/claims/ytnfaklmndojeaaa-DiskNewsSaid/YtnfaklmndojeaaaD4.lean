/- Disks: drop, Remove, Cut, Rename. -/
import Derived.Test.YtnfaklmndojeaaaD3
namespace Go.Dec
set_option linter.unusedVariables false
set_option linter.unusedSimpArgs false

/-! ### Lists of files, changed -/
theorem dropF_perm {fs fs' : List FileA} {f : FileA} (hp : fs.Perm (f :: fs')) (hne : ∀ g ∈ fs', g.name ≠ f.name) : (dropF f.name fs).Perm fs' := by
  have h1 := hp.filter fun g => !decide (g.name = f.name)
  rw [List.filter_cons_of_neg (by simp)] at h1
  have h2 : fs'.filter (fun g => !decide (g.name = f.name)) = fs' := List.filter_eq_self.2 fun g hg => by simpa using hne g hg
  rw [h2] at h1
  exact h1
theorem dropF_none {fs : List FileA} {n : ByteArray} (h : ∀ f ∈ fs, f.name ≠ n) : dropF n fs = fs := List.filter_eq_self.2 fun g hg => by simpa using h g hg
theorem map_updF_perm {fs fs' : List FileA} {f : FileA} {g : FileA → FileA} (hp : fs.Perm (f :: fs')) (hne : ∀ g ∈ fs', g.name ≠ f.name) : (fs.map (updF f.name g)).Perm (g f :: fs') := by
  have h1 := hp.map (updF f.name g)
  rw [List.map_cons] at h1
  have h2 : fs'.map (updF f.name g) = fs' := by
    conv => rhs; rw [← List.map_id fs']
    exact List.map_congr_left fun x hx => by rw [updF, if_neg (hne x hx)]; rfl
  rw [h2, updF, if_pos rfl] at h1
  exact h1
theorem updF_name {n : ByteArray} {g : FileA → FileA} (hg : ∀ f, (g f).name = f.name) (f : FileA) : (updF n g f).name = f.name := by
  unfold updF; split
  · exact hg f
  · rfl
theorem sorted_map {fs : List FileA} {g : FileA → FileA} (hg : ∀ f, (g f).name = f.name) (h : fs.Pairwise fun a b => ltS a.name b.name = true) : (fs.map g).Pairwise fun a b => ltS a.name b.name = true := by
  rw [List.pairwise_map]
  exact h.imp fun {a b} hab => by rw [hg, hg]; exact hab
theorem sorted_dropF {fs : List FileA} (n : ByteArray) (h : fs.Pairwise fun a b => ltS a.name b.name = true) : (dropF n fs).Pairwise fun a b => ltS a.name b.name = true := h.filter _
theorem mem_dropF {fs : List FileA} {n : ByteArray} {f : FileA} : f ∈ dropF n fs ↔ f ∈ fs ∧ f.name ≠ n := by simp [dropF, List.mem_filter]
theorem insF_perm (x : FileA) : ∀ fs : List FileA, (insF x fs).Perm (x :: fs)
  | [] => .refl _
  | f :: r => by
    rw [insF]; split
    · exact .refl _
    · exact (List.Perm.cons f (insF_perm x r)).trans (.swap _ _ _)
theorem mem_insF {x f : FileA} {fs : List FileA} : f ∈ insF x fs ↔ f = x ∨ f ∈ fs := by rw [(insF_perm x fs).mem_iff, List.mem_cons]
theorem sorted_insF (x : FileA) : ∀ {fs : List FileA}, (∀ f ∈ fs, f.name ≠ x.name) → (fs.Pairwise fun a b => ltS a.name b.name = true) → (insF x fs).Pairwise fun a b => ltS a.name b.name = true
  | [], _, _ => by simp [insF]
  | f :: r, hne, h => by
    rw [List.pairwise_cons] at h
    rw [insF]; split
    · rename_i hlt
      rw [List.pairwise_cons]
      refine ⟨fun g hg => ?_, by rw [List.pairwise_cons]; exact h⟩
      rcases List.mem_cons.1 hg with rfl | hg
      · exact hlt
      · exact ltS_trans hlt (h.1 g hg)
    · rename_i hlt
      rw [List.pairwise_cons]
      refine ⟨fun g hg => ?_, sorted_insF x (fun g hg => hne g (List.mem_cons_of_mem _ hg)) h.2⟩
      rcases mem_insF.1 hg with rfl | hg
      · rcases ltS_total f.name g.name with h1 | h1 | h1
        · exact h1
        · exact absurd h1 (hne f (List.mem_cons_self ..))
        · exact absurd h1 hlt
      · exact h.1 g hg

theorem okA_done {A : DiskA} (h : okA A) : okA (doneA A) := by
  unfold doneA
  split
  · exact ⟨h.room, h.used, h.many, by have := h.left; show -1 ≤ A.left - 1 ∧ A.left - 1 ≤ _; omega, h.sorted, h.kept, h.names⟩
  · exact h
theorem doneA_fs (A : DiskA) : (doneA A).fs = A.fs := by unfold doneA; split <;> rfl
theorem doneA_room (A : DiskA) : (doneA A).room = A.room := by unfold doneA; split <;> rfl

section
variable {w : World} {l r : List HP} {d : Nat} {A : DiskA}

/-- A change of the files, and then 'spend'. -/
theorem spend_dk {m : Nat} {FS : List FileM} {fs' : List FileA} {room left u : Int} {r1 r2 r3 l' : List HP} (hg : A.gone = false) (hok' : okA { A with fs := fs' }) (hp : (FS.map FileM.f).Perm fs') (hs : Sat w l)
    [h1 : FocB l d (.cells [.int .i64 left, .bool false, .int .i64 room, .int .i64 u, .map (some m)].toArray T.disk_Disk) r1] [h2 : FoM r1 m ekS evF (FS.map fun t => (t.f.name, t.at_)) r2] [h3 : Foc r2 (HP.all (FS.map fileP)) r3] [h4 : Sub r3 l']
    (hu : u = (used fs' : Nat) := by rfl) (hl : left = A.left := by rfl) (hr : room = A.room := by rfl) :
    Ret P F.disk_power_spend #[.pointer (some (Addr.add ⟨d, 0, none⟩ 0))] w fun vs w' => vs = [] ∧ Sat w' (dk d (doneA { A with fs := fs' }) :: l') := by
  subst hu hl hr
  have hl := hok'.left
  refine Calls.mono (spend_c (d := d) (m := m) ⟨hl.2, hl.1⟩ hs) fun e w' ⟨vs, he, hv, hs⟩ => ⟨vs, he, hv, ?_⟩
  have hd := doneA_eq { A with fs := fs' } hg
  rw [hd]
  have hok2 := okA_done hok'
  rw [hd] at hok2
  exact dk_close m (A := ⟨A.room, if A.left > 0 then A.left - 1 else A.left, if A.left > 0 then decide (A.left - 1 = 0) else false, fs'⟩) hp hok2 hs

theorem drop_c (n : ByteArray) (m : Nat) {FS : List FileM} (hp : (FS.map FileM.f).Perm A.fs) (hok : okA A)
    (hs : Sat w (pt d (.cells #[.int .i64 A.left, .bool A.gone, .int .i64 A.room, .int .i64 (used A.fs), .map (some m)] T.disk_Disk) :: mapP ekS evF m (FS.map fun t => (t.f.name, t.at_)) :: HP.all (FS.map fileP) :: r)) :
    Ret P F.disk_Disk_drop #[.pointer (some ⟨d, 0, none⟩), .string n] w fun vs w' => vs = [] ∧ ∃ FS' : List FileM, (FS'.map FileM.f).Perm (dropF n A.fs) ∧ (∀ t ∈ FS', t ∈ FS ∧ t.f.name ≠ n) ∧ (∀ t ∈ FS, t.f.name ≠ n → t ∈ FS') ∧
      Sat w' (pt d (.cells #[.int .i64 A.left, .bool A.gone, .int .i64 A.room, .int .i64 (used (dropF n A.fs)), .map (some m)] T.disk_Disk) :: mapP ekS evF m (FS'.map fun t => (t.f.name, t.at_)) :: HP.all (FS'.map fileP) :: r) :=
  disk_Disk_drop_calls _ n <| by
    unfold disk_Disk_drop
    (repeat (first | with_reducible (first | refine wp_on ?_ | refine wp_nn ?_ | refine wp_nng ?_ | refine wp_ldO hs ?_ | refine wp_ldG hs ?_ | refine wp_untick ?_ | refine wp_tk hs fun _ hs => ?_ | refine wp_newO hs fun _ _ hs => ?_ | refine wp_boxO hs fun _ _ hs => ?_ | refine wp_stO hs fun _ hs => ?_ | refine wp_stG hs fun _ hs => ?_) | (apply wp_must; (focus first | trivial | omega | assumption)) | refine wp_ltw ?_ | refine wp_lt ?_))
    refine wp_look hs (fun b hb => ?_) fun hb => ?_
    · obtain ⟨t, ht, rfl, rfl, hA⟩ := in_fs hp hb
      obtain ⟨FS', hpm, hs⟩ := file_open hs ht
      obtain ⟨h1, h2, -⟩ := apart hp hok hpm
      have hd := dropF_perm h1 h2
      have hu : used A.fs = t.f.b.length + used (dropF t.f.name A.fs) := by rw [used_perm h1, used_cons, used_perm hd]
      have h3 := hok.used
      refine wp_bind ?_
      refine wp_ifT ?_ (by simp)
      refine wp_tk hs fun w' hs => ?_
      refine wp_nn ?_
      refine wp_ldO hs ?_
      refine wp_nn ?_
      refine wp_ldO hs ?_
      rw [hs.slen t.x (xs := t.f.b) (enc := encU), w64e (y := (used (dropF t.f.name A.fs) : Nat))]
      (repeat (first | with_reducible (first | refine wp_on ?_ | refine wp_nn ?_ | refine wp_nng ?_ | refine wp_ldO hs ?_ | refine wp_ldG hs ?_ | refine wp_untick ?_ | refine wp_tk hs fun _ hs => ?_ | refine wp_newO hs fun _ _ hs => ?_ | refine wp_boxO hs fun _ _ hs => ?_ | refine wp_stO hs fun _ hs => ?_ | refine wp_stG hs fun _ hs => ?_) | (apply wp_must; (focus first | trivial | omega | assumption)) | refine wp_ltw ?_ | refine wp_lt ?_))
      refine wp_mdel hs (FS'.map fun t => (t.f.name, t.at_)) (.inl ⟨t.at_, hpm.map _⟩) fun w' hs => ?_
      refine wp_go ?_
      refine ⟨rfl, rfl, FS', hd.symm, fun t' ht' => ⟨hpm.mem_iff.2 (List.mem_cons_of_mem _ ht'), h2 _ (List.mem_map.2 ⟨t', ht', rfl⟩)⟩, fun t' ht' hne => ?_, hs.sub⟩
      rcases List.mem_cons.1 (hpm.mem_iff.1 ht') with rfl | h
      · exact absurd rfl hne
      · exact h
    · have hn := not_fs hp hb
      refine wp_bind ?_
      refine wp_ifF ?_ (by simp)
      refine wp_go ?_
      rw [dropF_none hn]
      exact ⟨rfl, rfl, FS, hp, fun t ht => ⟨ht, hn _ (hp.mem_iff.1 (List.mem_map.2 ⟨t, ht, rfl⟩))⟩, fun t ht _ => ht, hs⟩

theorem okA_drop {A : DiskA} (h : okA A) (n : ByteArray) : okA { A with fs := dropF n A.fs } := by
  have hle : used (dropF n A.fs) ≤ used A.fs := by
    have : ∀ fs : List FileA, used (dropF n fs) ≤ used fs := fun fs => by
      induction fs with
      | nil => exact Nat.le_refl _
      | cons f r ih =>
        unfold dropF at *
        rw [used_cons, List.filter_cons]
        split
        · rw [used_cons]; omega
        · omega
    exact this _
  exact ⟨h.room, Nat.le_trans hle h.used, Nat.le_trans (List.length_filter_le _ _) h.many, h.left, sorted_dropF n h.sorted, fun f hf => h.kept f (mem_dropF.1 hf).1, fun f hf => h.names f (mem_dropF.1 hf).1⟩

/-- A refusal, and what goes on. -/
theorem may_if {k : Prog} {Q : List Value → World → Prop} (hs : Sat w l) [hf : Fo l dk d A r] (h1 : A.gone = true → ∀ w', Sat w' (dk d A :: r) → Q [.int .i64 9] w') (h0 : A.gone = false → ∀ w', Sat w' (dk d A :: r) → k.wp P tt w' fun e vs w => e = 0 ∧ Q vs w) :
    (Prog.call F.disk_Disk_may [.pointer (some ⟨d, 0, none⟩)] (sI .i64) (u1 fun (n0 : Int) => .lt (.int .i64) (n0) fun (n1 : Int) => .ite (n1 != 0) (.lt (.int .i64) (n1) fun (n2 : Int) => .done 0 [.int .i64 n2]) k)).wp P tt w fun e vs w => e = 0 ∧ Q vs w := by
  refine wp_call (may_c hs) fun _ _ hs => ?_
  obtain ⟨rfl, hs⟩ := hs
  refine ret_of ?_
  refine wp_lt ?_
  by_cases hg : A.gone = true
  · rw [if_pos hg]
    refine wp_ifT ?_ (by decide)
    exact wp_lt ⟨rfl, h1 hg _ hs⟩
  · rw [if_neg hg]
    refine wp_ifF ?_ (by decide)
    exact h0 (by simpa using hg) _ hs

theorem remove_c (n : ByteArray) [hf : Fo l dk d A r] (hs : Sat w l) : Ret P F.disk_Disk_Remove #[.pointer (some ⟨d, 0, none⟩), .string n] w fun vs w' => vs = [.int .i64 (remA A n).1] ∧ Sat w' (dk d (remA A n).2 :: r) :=
  disk_Disk_Remove_calls _ n <| by
    unfold disk_Disk_Remove remA
    refine may_if hs (fun hg w' hs => ?_) fun hg w' hs => ?_
    · rw [if_pos hg]; exact ⟨rfl, hs⟩
    rw [if_neg (by rw [hg]; simp)]
    obtain ⟨m, FS, hp, hok, hs⟩ := dk_open hs
    (repeat (first | with_reducible (first | refine wp_on ?_ | refine wp_nn ?_ | refine wp_nng ?_ | refine wp_ldO hs ?_ | refine wp_ldG hs ?_ | refine wp_untick ?_ | refine wp_tk hs fun _ hs => ?_ | refine wp_newO hs fun _ _ hs => ?_ | refine wp_boxO hs fun _ _ hs => ?_ | refine wp_stO hs fun _ hs => ?_ | refine wp_stG hs fun _ hs => ?_) | (apply wp_must; (focus first | trivial | omega | assumption)) | refine wp_ltw ?_ | refine wp_lt ?_))
    refine wp_look hs (fun b hb => ?_) fun hb => ?_
    · obtain ⟨t, ht, rfl, rfl, hA⟩ := in_fs hp hb
      refine wp_ifF ?_ (by simp)
      rw [if_neg (by rw [hasF_iff.2 ⟨_, hA, rfl⟩]; simp)]
      refine wp_call (drop_c t.f.name m hp hok hs) fun _ _ hs => ?_
      obtain ⟨rfl, FS', hp', -, -, hs⟩ := hs
      refine ret_of ?_
      (repeat (first | with_reducible (first | refine wp_on ?_ | refine wp_nn ?_ | refine wp_nng ?_ | refine wp_ldO hs ?_ | refine wp_ldG hs ?_ | refine wp_untick ?_ | refine wp_tk hs fun _ hs => ?_ | refine wp_newO hs fun _ _ hs => ?_ | refine wp_boxO hs fun _ _ hs => ?_ | refine wp_stO hs fun _ hs => ?_ | refine wp_stG hs fun _ hs => ?_) | (apply wp_must; (focus first | trivial | omega | assumption)) | refine wp_ltw ?_ | refine wp_lt ?_))
      rw [hg] at hs
      refine wp_call (spend_dk (l' := r) hg (okA_drop hok t.f.name) hp' hs) fun _ _ hs => ?_
      obtain ⟨rfl, hs⟩ := hs
      refine ret_of ?_
      (repeat (first | with_reducible (first | refine wp_on ?_ | refine wp_nn ?_ | refine wp_nng ?_ | refine wp_ldO hs ?_ | refine wp_ldG hs ?_ | refine wp_untick ?_ | refine wp_tk hs fun _ hs => ?_ | refine wp_newO hs fun _ _ hs => ?_ | refine wp_boxO hs fun _ _ hs => ?_ | refine wp_stO hs fun _ hs => ?_ | refine wp_stG hs fun _ hs => ?_) | (apply wp_must; (focus first | trivial | omega | assumption)) | refine wp_ltw ?_ | refine wp_lt ?_))
      exact ⟨rfl, rfl, hs⟩
    · refine wp_ifT ?_ (by rfl)
      rw [if_pos (hasF_not.2 (not_fs hp hb))]
      exact ⟨rfl, rfl, dk_close m hp hok hs⟩

theorem used_upd {fs fs' : List FileA} {f : FileA} {g : FileA → FileA} (hp : fs.Perm (f :: fs')) (hne : ∀ g ∈ fs', g.name ≠ f.name) : used (fs.map (updF f.name g)) = (g f).b.length + used fs' := by
  rw [used_perm (map_updF_perm hp hne), used_cons]

theorem cut_c (n : ByteArray) (k : Int) [hf : Fo l dk d A r] (hs : Sat w l) : Ret P F.disk_Disk_Cut #[.pointer (some ⟨d, 0, none⟩), .string n, .int .i64 k] w fun vs w' => vs = [.int .i64 (cutA' A n k).1] ∧ Sat w' (dk d (cutA' A n k).2 :: r) :=
  disk_Disk_Cut_calls _ n k <| by
    unfold disk_Disk_Cut cutA'
    refine may_if hs (fun hg w' hs => ?_) fun hg w' hs => ?_
    · rw [if_pos hg]; exact ⟨rfl, hs⟩
    rw [if_neg (by rw [hg]; simp)]
    obtain ⟨m, FS, hp, hok, hs⟩ := dk_open hs
    (repeat (first | with_reducible (first | refine wp_on ?_ | refine wp_nn ?_ | refine wp_nng ?_ | refine wp_ldO hs ?_ | refine wp_ldG hs ?_ | refine wp_untick ?_ | refine wp_tk hs fun _ hs => ?_ | refine wp_newO hs fun _ _ hs => ?_ | refine wp_boxO hs fun _ _ hs => ?_ | refine wp_stO hs fun _ hs => ?_ | refine wp_stG hs fun _ hs => ?_) | (apply wp_must; (focus first | trivial | omega | assumption)) | refine wp_ltw ?_ | refine wp_lt ?_))
    refine wp_look hs (fun b hb => ?_) fun hb => ?_
    · obtain ⟨t, ht, rfl, rfl, hA⟩ := in_fs hp hb
      refine wp_lt ?_
      refine wp_ifF ?_ (by simp)
      rw [if_neg (by rw [hasF_iff.2 ⟨_, hA, rfl⟩]; simp), lenF_eq (names_nodup hok.sorted) hA rfl]
      obtain ⟨FS', hpm, hs⟩ := file_open hs ht
      obtain ⟨h1, h2, -⟩ := apart hp hok hpm
      have hlen := hs.slen t.x (xs := t.f.b) (enc := encU)
      have hcap := (hs.focS t.x).slc_cap
      (repeat (first | with_reducible (first | refine wp_on ?_ | refine wp_nn ?_ | refine wp_nng ?_ | refine wp_ldO hs ?_ | refine wp_ldG hs ?_ | refine wp_untick ?_ | refine wp_tk hs fun _ hs => ?_ | refine wp_newO hs fun _ _ hs => ?_ | refine wp_boxO hs fun _ _ hs => ?_ | refine wp_stO hs fun _ hs => ?_ | refine wp_stG hs fun _ hs => ?_) | (apply wp_must; (focus first | trivial | omega | assumption)) | refine wp_ltw ?_ | refine wp_lt ?_))
      refine wp_if (fun h => ?_) fun h => ?_
      · rw [if_pos (by omega)]
        have hs := (file_close t hs).all_perm (hpm.symm.map fileP)
        exact ⟨rfl, rfl, dk_close m hp hok hs⟩
      · rw [if_neg (by omega)]
        obtain ⟨k, rfl⟩ : ∃ j : Nat, k = j := ⟨k.toNat, by omega⟩
        rw [Int.toNat_natCast]
        have hk : k ≤ t.f.b.length := by omega
        have hu0 : used A.fs = t.f.b.length + used (FS'.map FileM.f) := by rw [used_perm h1, used_cons]
        have hu1 := used_upd (g := fun f => { f with b := f.b.take k, kept := min f.kept k }) h1 h2
        have hu2 : used (A.fs.map (updF t.f.name fun f => { f with b := f.b.take k, kept := min f.kept k })) = k + used (FS'.map FileM.f) := by
          rw [hu1]; show (t.f.b.take k).length + _ = _; rw [List.length_take, Nat.min_eq_left hk]
        have hou := hok.used
        refine wp_tk hs fun w' hs => ?_
        refine wp_nn ?_
        refine wp_ldO hs ?_
        refine wp_nn ?_
        refine wp_ldO hs ?_
        have e1 : IntKind.wrap .i64 ((used A.fs : Nat) - IntKind.wrap .i64 (((t.x.len : Nat) : Int) - (k : Int))) = (used (A.fs.map (updF t.f.name fun f => { f with b := f.b.take k, kept := min f.kept k })) : Nat) := by
          rw [w64 (x := ((t.x.len : Nat) : Int) - (k : Int)) (by omega) (by omega), w64 (by omega) (by omega)]; omega
        rw [e1]
        (repeat (first | with_reducible (first | refine wp_on ?_ | refine wp_nn ?_ | refine wp_nng ?_ | refine wp_ldO hs ?_ | refine wp_ldG hs ?_ | refine wp_untick ?_ | refine wp_tk hs fun _ hs => ?_ | refine wp_newO hs fun _ _ hs => ?_ | refine wp_boxO hs fun _ _ hs => ?_ | refine wp_stO hs fun _ hs => ?_ | refine wp_stG hs fun _ hs => ?_) | (apply wp_must; (focus first | trivial | omega | assumption)) | refine wp_ltw ?_ | refine wp_lt ?_))
        have hs := (hs.focS t.x).slc_cut (n := k) (by omega)
        rw [take_flat] at hs
        have e2 : (if (k : Int) < ((t.f.kept : Nat) : Int) then (k : Int) else ((t.f.kept : Nat) : Int)) = ((min t.f.kept k : Nat) : Int) := by split <;> omega
        rw [e2] at hs
        have hs := file_close (FS := FS') ⟨t.at_, ⟨t.x.a, k, k⟩, ⟨t.f.name, t.f.b.take k, min t.f.kept k⟩⟩ hs
        have hp' : (((⟨t.at_, ⟨t.x.a, k, k⟩, ⟨t.f.name, t.f.b.take k, min t.f.kept k⟩⟩ : FileM) :: FS').map FileM.f).Perm (A.fs.map (updF t.f.name fun f => { f with b := f.b.take k, kept := min f.kept k })) :=
          (map_updF_perm (g := fun f => { f with b := f.b.take k, kept := min f.kept k }) h1 h2).symm
        have hok' : okA { A with fs := A.fs.map (updF t.f.name fun f => { f with b := f.b.take k, kept := min f.kept k }) } := by
          refine ⟨hok.room, by show used (A.fs.map _) ≤ _; omega, by show (A.fs.map _).length ≤ _; rw [List.length_map]; exact hok.many, hok.left, sorted_map (updF_name fun _ => rfl) hok.sorted, fun f hf => ?_, fun f hf => ?_⟩
          rotate_left
          · obtain ⟨g, hg, rfl⟩ := List.mem_map.1 hf
            rw [updF_name (by intro _; rfl)]; exact hok.names g hg
          obtain ⟨g, hg, rfl⟩ := List.mem_map.1 hf
          have := hok.kept g hg
          unfold updF
          split
          · show min g.kept k ≤ (g.b.take k).length; rw [List.length_take]; omega
          · exact this
        have hs : Sat _ (mapP ekS evF m (((⟨t.at_, ⟨t.x.a, k, k⟩, ⟨t.f.name, t.f.b.take k, min t.f.kept k⟩⟩ : FileM) :: FS').map fun t => (t.f.name, t.at_)) :: _) := (hs.pick [2]).mapPerm (hpm.map fun t => (t.f.name, t.at_))
        rw [hg] at hs
        refine wp_call (spend_dk (l' := r) hg hok' hp' hs) fun _ _ hs => ?_
        obtain ⟨rfl, hs⟩ := hs
        refine ret_of ?_
        (repeat (first | with_reducible (first | refine wp_on ?_ | refine wp_nn ?_ | refine wp_nng ?_ | refine wp_ldO hs ?_ | refine wp_ldG hs ?_ | refine wp_untick ?_ | refine wp_tk hs fun _ hs => ?_ | refine wp_newO hs fun _ _ hs => ?_ | refine wp_boxO hs fun _ _ hs => ?_ | refine wp_stO hs fun _ hs => ?_ | refine wp_stG hs fun _ hs => ?_) | (apply wp_must; (focus first | trivial | omega | assumption)) | refine wp_ltw ?_ | refine wp_lt ?_))
        exact ⟨rfl, rfl, hs⟩
    · refine wp_lt ?_
      refine wp_ifT ?_ (by rfl)
      rw [if_pos (hasF_not.2 (not_fs hp hb))]
      exact ⟨rfl, rfl, dk_close m hp hok hs⟩

end
end Go.Dec
