/- Disks: Sync, Crash. -/
import Derived.Test.YtnfaklmndojeaaaD6
namespace Go.Dec
set_option linter.unusedVariables false
set_option linter.unusedSimpArgs false

theorem used_map {fs : List FileA} {g : FileA → FileA} (hb : ∀ f, (g f).b = f.b) : used (fs.map g) = used fs := by
  unfold used
  rw [List.map_map]
  congr 1
  exact List.map_congr_left fun f _ => by show (g f).b.length = _; rw [hb]
theorem okA_map {A : DiskA} (hok : okA A) {g : FileA → FileA} (hn : ∀ f, (g f).name = f.name) (hb : ∀ f, (g f).b = f.b) (hk : ∀ f, f.kept ≤ f.b.length → (g f).kept ≤ f.b.length) : okA { A with fs := A.fs.map g } := by
  refine ⟨hok.room, by show used (A.fs.map g) ≤ _; rw [used_map hb]; exact hok.used, by show (A.fs.map g).length ≤ _; rw [List.length_map]; exact hok.many, hok.left, sorted_map hn hok.sorted, fun f hf => ?_, fun f hf => ?_⟩
  · obtain ⟨f, hf', rfl⟩ := List.mem_map.1 hf
    rw [hb]; exact hk f (hok.kept f hf')
  · obtain ⟨f, hf', rfl⟩ := List.mem_map.1 hf
    rw [hn]; exact hok.names f hf'

/-- All bytes are kept of the files of these names. -/
def wholeF (f : FileA) : FileA := { f with kept := f.b.length }
def markF (ns : List ByteArray) (f : FileA) : FileA := if ns.any (fun m => decide (m = f.name)) then wholeF f else f
theorem markF_name (ns : List ByteArray) (f : FileA) : (markF ns f).name = f.name := by unfold markF; split <;> rfl
theorem markF_b (ns : List ByteArray) (f : FileA) : (markF ns f).b = f.b := by unfold markF; split <;> rfl
theorem markF_kept (ns : List ByteArray) (f : FileA) (h : f.kept ≤ f.b.length) : (markF ns f).kept ≤ f.b.length := by
  unfold markF; split
  · exact Nat.le_refl _
  · exact h
theorem markF_nil : markF [] = id := by funext f; simp [markF]
theorem markF_step (ns : List ByteArray) (n : ByteArray) (f : FileA) : updF n wholeF (markF ns f) = markF (ns ++ [n]) f := by
  unfold updF
  rw [markF_name]
  unfold markF
  rw [List.any_append]
  by_cases h1 : f.name = n
  · rw [if_pos h1]
    have : (ns.any (fun m => decide (m = f.name)) || [n].any (fun m => decide (m = f.name))) = true := by simp [h1]
    rw [if_pos this]
    split <;> rfl
  · rw [if_neg h1]
    have : (ns.any (fun m => decide (m = f.name)) || [n].any (fun m => decide (m = f.name))) = ns.any (fun m => decide (m = f.name)) := by simp [Ne.symm h1]
    rw [this]
theorem preF_nil (s : ByteArray) : Go.Proofs.Ytnfaklmndojeaaa.preF (ByteArray.mk #[]) s = true := by
  unfold Go.Proofs.Ytnfaklmndojeaaa.preF
  rw [show (ByteArray.mk #[]).toList = [] from by rw [ByteArray.toList_eq]]
  rfl
theorem namesF_all (fs : List FileA) : namesF (ByteArray.mk #[]) fs = fs.map (·.name) := List.filter_eq_self.2 fun s _ => preF_nil s
theorem mark_all (fs : List FileA) : fs.map (markF (fs.map (·.name))) = fs.map (syncF []) := by
  refine List.map_congr_left fun f hf => ?_
  unfold markF syncF
  rw [if_pos (show ((fs.map (·.name)).any fun m => decide (m = f.name)) = true by simp; exact ⟨f, hf, rfl⟩), if_pos (show asked [] f.name = true from rfl)]
  rfl
theorem mark_some {ns : List ByteArray} (h : ns ≠ []) (fs : List FileA) : fs.map (markF ns) = fs.map (syncF ns) := by
  refine List.map_congr_left fun f hf => ?_
  have e : asked ns f.name = ns.any (fun m => decide (m = f.name)) := by
    unfold asked
    cases ns with
    | nil => exact absurd rfl h
    | cons _ _ => rfl
  unfold markF syncF
  rw [e]; rfl
theorem hasF_map {fs : List FileA} {g : FileA → FileA} (hn : ∀ f, (g f).name = f.name) (n : ByteArray) : hasF (fs.map g) n = hasF fs n := by
  unfold hasF
  rw [List.any_map]
  congr 1
  funext f
  show decide ((g f).name = n) = _
  rw [hn]

section
variable {w : World} {l r r0 : List HP} {d : Nat} {A : DiskA}

theorem sync_c (nx : Sl) (ns : List ByteArray) [hns : FocR r nx 1 (ns.flatMap encT)] (hlen : ns.length ≤ 100000) [hf : Fo l dk d A r] (hs : Sat w l) :
    Ret P F.disk_Disk_Sync #[.pointer (some ⟨d, 0, none⟩), nx.v] w fun vs w' => vs = [.int .i64 (syncA A ns).1] ∧ Sat w' (dk d (syncA A ns).2 :: r) :=
  disk_Disk_Sync_calls _ nx <| by
    unfold disk_Disk_Sync syncA
    refine may_if hs (fun hg w' hs => ?_) fun hg w' hs => ?_
    · rw [if_pos hg]; exact ⟨rfl, hs⟩
    rw [if_neg (by rw [hg]; simp)]
    have hpl := hs.slen nx (xs := ns) (enc := encT)
    have hok0 : okA A := by obtain ⟨m, FS, hp, hok, hs⟩ := dk_open hs; exact hok
    refine wp_mid (fun v w' => ns.all (hasF A.fs) = true ∧ Sat w' (dk d A :: r)) ?_ ?_
    · refine wp_loop (fun k v w => ∃ i : Nat, v = ((i : Int), ()) ∧ i ≤ ns.length ∧ ns.length - i = k ∧ (ns.take i).all (hasF A.fs) = true ∧ Sat w (dk d A :: r)) ns.length ⟨0, rfl, by omega, rfl, rfl, hs⟩ ?_
      clear hs
      rintro k _ w ⟨i, rfl, hi, hk, hall, hs⟩
      refine wp_on ?_
      refine wp_if (fun hc => ?_) fun hc => ?_
      · have hil : i < ns.length := by omega
        refine wp_ix1 hs i hil ?_
        have htk : (ns.take (i + 1)).all (hasF A.fs) = hasF A.fs ns[i] := by
          rw [List.take_add_one, List.getElem?_eq_getElem hil, List.all_append, hall]; simp
        obtain ⟨m, FS, hp, hok, hs⟩ := dk_open hs
        (repeat (first | with_reducible (first | refine wp_on ?_ | refine wp_nn ?_ | refine wp_nng ?_ | refine wp_ldO hs ?_ | refine wp_ldG hs ?_ | refine wp_untick ?_ | refine wp_tk hs fun _ hs => ?_ | refine wp_newO hs fun _ _ hs => ?_ | refine wp_boxO hs fun _ _ hs => ?_ | refine wp_stO hs fun _ hs => ?_ | refine wp_stG hs fun _ hs => ?_) | (apply wp_must; (focus first | trivial | omega | assumption)) | refine wp_ltw ?_ | refine wp_lt ?_))
        refine wp_look hs (fun b hb => ?_) fun hb => ?_
        · obtain ⟨t, ht, rfl, hnm, hA⟩ := in_fs hp hb
          refine wp_ifF ?_ (by simp)
          refine wp_dn (us' := [.int .i64 ((i + 1 : Nat) : Int)]) (by (try simp (disch := omega) only [w64]); first | rfl | (congr; omega)) ?_
          refine wp_lp (ns.length - (i + 1)) ?_
          exact ⟨i + 1, rfl, by omega, rfl, by rw [htk]; exact hasF_iff.2 ⟨_, hA, hnm⟩, dk_close m hp hok hs⟩
        · refine wp_ifT ?_ (by rfl)
          refine wp_pass (wp_pass ?_)
          have : ns.all (hasF A.fs) = false := by
            rw [← List.take_append_drop (i + 1) ns, List.all_append, htk, hasF_not.2 (not_fs hp hb)]; rfl
          rw [if_pos this]
          exact ⟨rfl, rfl, dk_close m hp hok hs⟩
      · refine wp_pass (wp_lv ⟨?_, hs⟩)
        rwa [List.take_of_length_le (by omega)] at hall
    clear hs
    rintro _ w ⟨hall, hs⟩
    refine wp_on ?_
    rw [if_neg (by rw [hall]; simp)]
    -- which names
    refine wp_mid (fun v w' => ∃ (nx1 : Sl) (ns1 : List ByteArray) (r1 : List HP), v = (nx1, ()) ∧ ns1.length ≤ 100000 ∧ ns1.all (hasF A.fs) = true ∧ A.fs.map (markF ns1) = A.fs.map (syncF ns) ∧ (∃ h : FocR (slc T.string 1 nx1 (ns1.flatMap encT) :: r) nx1 1 (ns1.flatMap encT), True) ∧
        (Sat w' (dk d A :: r1)) ∧ (r1 = r ∧ (∃ _h : FocR r nx1 1 (ns1.flatMap encT), True) ∨ r1 = slc T.string 1 nx1 (ns1.flatMap encT) :: r)) ?_ ?_
    · refine wp_if (fun h => ?_) fun h => ?_
      · have hnil : ns = [] := List.length_eq_zero_iff.1 (by omega)
        subst hnil
        refine wp_call (names_c (ByteArray.mk #[]) hs) fun _ _ hs => ?_
        obtain ⟨x, rfl, hs⟩ := hs
        refine ret_of ?_
        refine wp_lv ?_
        refine ⟨x, namesF (ByteArray.mk #[]) A.fs, _, rfl, ?_, ?_, ?_, ⟨inferInstance, trivial⟩, (hs.pick [1]), .inr rfl⟩
        · rw [namesF_all, List.length_map]; have := hok0.many; omega
        · rw [namesF_all, List.all_map, List.all_eq_true]
          exact fun f hf => hasF_iff.2 ⟨f, hf, rfl⟩
        · rw [namesF_all]; exact mark_all A.fs
      · refine wp_lv ?_
        refine ⟨nx, ns, r, rfl, hlen, hall, mark_some (fun e => by subst e; simp at hpl; omega) A.fs, ⟨inferInstance, trivial⟩, hs, .inl ⟨rfl, hns, trivial⟩⟩
    clear hs
    rintro _ w ⟨nx1, ns1, r1, rfl, hlen1, hall1, hmark, -, hs, hr1⟩
    refine wp_on ?_
    have hR1 : FocR r1 nx1 1 (ns1.flatMap encT) := by
      rcases hr1 with ⟨rfl, h, -⟩ | rfl
      · exact h
      · infer_instance
    have hsub : ∀ {H : HP} {w : World}, Sat w (H :: r1) → Sat w (H :: r) := fun {H w} h => by
      rcases hr1 with ⟨rfl, -⟩ | rfl
      · exact h
      · exact h.sub
    have hpl1 := hs.slen nx1 (xs := ns1) (enc := encT)
    refine wp_mid (fun v w' => Sat w' (dk d { A with fs := A.fs.map (markF ns1) } :: r1)) ?_ ?_
    · refine wp_loop (fun k v w => ∃ i : Nat, v = ((i : Int), ()) ∧ i ≤ ns1.length ∧ ns1.length - i = k ∧ Sat w (dk d { A with fs := A.fs.map (markF (ns1.take i)) } :: r1)) ns1.length ⟨0, rfl, by omega, rfl, by rw [List.take_zero, markF_nil, List.map_id]; exact hs⟩ ?_
      clear hs
      rintro k _ w ⟨i, rfl, hi, hk, hs⟩
      refine wp_on ?_
      refine wp_if (fun hc => ?_) fun hc => ?_
      · have hil : i < ns1.length := by omega
        refine wp_ix1 hs i hil ?_
        obtain ⟨m, FS, hp, hok, hs⟩ := dk_open hs
        (repeat (first | with_reducible (first | refine wp_on ?_ | refine wp_nn ?_ | refine wp_nng ?_ | refine wp_ldO hs ?_ | refine wp_ldG hs ?_ | refine wp_untick ?_ | refine wp_tk hs fun _ hs => ?_ | refine wp_newO hs fun _ _ hs => ?_ | refine wp_boxO hs fun _ _ hs => ?_ | refine wp_stO hs fun _ hs => ?_ | refine wp_stG hs fun _ hs => ?_) | (apply wp_must; (focus first | trivial | omega | assumption)) | refine wp_ltw ?_ | refine wp_lt ?_))
        refine wp_look hs (fun b hb => ?_) fun hb => ?_
        · obtain ⟨t, ht, rfl, hnm, hA⟩ := in_fs hp hb
          obtain ⟨FS', hpm, hs⟩ := file_open hs ht
          obtain ⟨h1, h2, -⟩ := apart hp hok hpm
          (repeat (first | with_reducible (first | refine wp_on ?_ | refine wp_nn ?_ | refine wp_nng ?_ | refine wp_ldO hs ?_ | refine wp_ldG hs ?_ | refine wp_untick ?_ | refine wp_tk hs fun _ hs => ?_ | refine wp_newO hs fun _ _ hs => ?_ | refine wp_boxO hs fun _ _ hs => ?_ | refine wp_stO hs fun _ hs => ?_ | refine wp_stG hs fun _ hs => ?_) | (apply wp_must; (focus first | trivial | omega | assumption)) | refine wp_ltw ?_ | refine wp_lt ?_))
          rw [hs.slen t.x (xs := t.f.b) (enc := encU)] at hs
          have hs := file_close (FS := FS') ⟨t.at_, t.x, wholeF t.f⟩ hs
          have hs : Sat _ (mapP ekS evF m (((⟨t.at_, t.x, wholeF t.f⟩ : FileM) :: FS').map fun t => (t.f.name, t.at_)) :: _) := (hs.pick [2]).mapPerm (hpm.map fun t => (t.f.name, t.at_))
          have hstep : (A.fs.map (markF (ns1.take i))).map (updF t.f.name wholeF) = A.fs.map (markF (ns1.take (i + 1))) := by
            rw [List.map_map, List.take_add_one, List.getElem?_eq_getElem hil]
            refine List.map_congr_left fun f _ => ?_
            show updF t.f.name wholeF (markF _ f) = _
            rw [markF_step, hnm]; rfl
          have hp' : (((⟨t.at_, t.x, wholeF t.f⟩ : FileM) :: FS').map FileM.f).Perm (A.fs.map (markF (ns1.take (i + 1)))) := by
            rw [← hstep]
            exact (map_updF_perm (g := wholeF) h1 h2).symm
          refine wp_dn (us' := [.int .i64 ((i + 1 : Nat) : Int)]) (by (try simp (disch := omega) only [w64]); first | rfl | (congr; omega)) ?_
          refine wp_lp (ns1.length - (i + 1)) ?_
          refine ⟨i + 1, rfl, by omega, rfl, ?_⟩
          exact dk_close m (A := { A with fs := A.fs.map (markF (ns1.take (i + 1))) }) hp' (okA_map hok0 (markF_name _) (markF_b _) (markF_kept _)) hs (by rw [used_map (markF_b _), used_map (markF_b _)])
        · exfalso
          have h3 := hasF_not.2 (not_fs hp hb)
          have h4 : hasF A.fs ns1[i] = true := List.all_eq_true.1 hall1 _ (List.getElem_mem hil)
          rw [hasF_map (markF_name _), h4] at h3
          cases h3
      · refine wp_pass (wp_lv ?_)
        rwa [List.take_of_length_le (by omega)] at hs
    clear hs
    rintro _ w hs
    refine wp_on ?_
    rw [hmark] at hs
    obtain ⟨m, FS, hp, hok, hs⟩ := dk_open (hsub hs)
    have hs : Sat w (pt d (.cells #[.int .i64 A.left, .bool A.gone, .int .i64 A.room, .int .i64 (used (A.fs.map (syncF ns))), .map (some m)] T.disk_Disk) :: _) := hs
    (repeat (first | with_reducible (first | refine wp_on ?_ | refine wp_nn ?_ | refine wp_nng ?_ | refine wp_ldO hs ?_ | refine wp_ldG hs ?_ | refine wp_untick ?_ | refine wp_tk hs fun _ hs => ?_ | refine wp_newO hs fun _ _ hs => ?_ | refine wp_boxO hs fun _ _ hs => ?_ | refine wp_stO hs fun _ hs => ?_ | refine wp_stG hs fun _ hs => ?_) | (apply wp_must; (focus first | trivial | omega | assumption)) | refine wp_ltw ?_ | refine wp_lt ?_))
    rw [hg] at hs
    refine wp_call (spend_dk (l' := r) (A := A) hg hok hp hs) fun _ _ hs => ?_
    obtain ⟨rfl, hs⟩ := hs
    refine ret_of ?_
    exact ⟨rfl, rfl, hs⟩

/-- A file's copy. -/
theorem copy_c (t : FileM) (hlen : t.f.b.length ≤ 4194304) [hb : FocB l t.at_ (.cells [.slice t.x.a t.x.len t.x.cap, .int .i64 t.f.kept].toArray T.disk_file) r] [hr : FocS r t.x T.uint8 1 (t.f.b.flatMap encU) r0] (hs : Sat w l) :
    Ret P F.disk_file_copy #[.pointer (some ⟨t.at_, 0, none⟩)] w fun vs w' => ∃ (b : Nat) (x : Sl), vs = [.pointer (some ⟨b, 0, none⟩)] ∧ Sat w' (pt b (.cells #[x.v, .int .i64 t.f.kept] T.disk_file) :: slc T.uint8 1 x (t.f.b.flatMap encU) :: l) :=
  disk_file_copy_calls _ <| by
    unfold disk_file_copy
    have hR : FocR l t.x 1 (t.f.b.flatMap encU) := ⟨fun w hs => ((hs.perm hb.perm).tail.focS t.x).rd⟩
    refine wp_bind ?_
    refine wp_tk hs fun w' hs => ?_
    refine wp_nn ?_
    refine wp_ldO hs ?_
    refine wp_nn ?_
    refine wp_hdO hs ?_
    refine wp_call (clone_c t.x t.f.b (by omega) hs) fun vs w' h => ?_
    obtain ⟨z, rfl, hs⟩ := h
    refine ret_of ?_ ⟨trivial, fun _ => run_ldO hs⟩
    refine wp_untick ?_
    refine wp_boxO hs fun b w' hs => ?_
    refine wp_untick ?_
    refine wp_go ?_
    exact ⟨rfl, b, z, rfl, hs.sub⟩

end
end Go.Dec
