/- Disks: Crash. -/
import Derived.Test.YtnfaklmndojeaaaD7
namespace Go.Dec
set_option linter.unusedVariables false
set_option linter.unusedSimpArgs false

theorem used_sub {a b : List FileA} (h : a.Sublist b) : used a ≤ used b := by
  induction h with
  | slnil => exact Nat.le_refl _
  | cons x _ ih => rw [used_cons]; omega
  | cons_cons x _ ih => rw [used_cons, used_cons]; omega
theorem okA_sub {A : DiskA} (hok : okA A) {fs : List FileA} (h : fs.Sublist A.fs) : okA { A with fs := fs } :=
  ⟨hok.room, Nat.le_trans (used_sub h) hok.used, Nat.le_trans h.length_le hok.many, hok.left, hok.sorted.sublist h, fun f hf => hok.kept f (h.mem hf), fun f hf => hok.names f (h.mem hf)⟩

theorem lastN_le {f : FileA} (h : f.kept ≤ f.b.length) (m : Int) : lastN f m ≤ f.b.length := by unfold lastN; omega
theorem crashF_name (ps : List Int) (f : FileA) (i : Nat) : (crashF ps f i).name = f.name := rfl

theorem used_mapIdx {g : Nat → FileA → FileA} (hg : ∀ i f, (g i f).b.length ≤ f.b.length) : ∀ (fs : List FileA), used (fs.mapIdx g) ≤ used fs := by
  intro fs
  induction fs generalizing g with
  | nil => exact Nat.le_refl _
  | cons f r ih =>
    rw [List.mapIdx_cons, used_cons, used_cons]
    have := hg 0 f
    have := ih (g := fun i => g (i + 1)) fun i f => hg (i + 1) f
    omega
theorem names_mapIdx {g : Nat → FileA → FileA} (hg : ∀ i f, (g i f).name = f.name) : ∀ (fs : List FileA), (fs.mapIdx g).map (·.name) = fs.map (·.name) := by
  intro fs
  induction fs generalizing g with
  | nil => rfl
  | cons f r ih => rw [List.mapIdx_cons, List.map_cons, List.map_cons, hg, ih fun i f => hg (i + 1) f]

theorem okA_crash {A : DiskA} (hok : okA A) (ps : List Int) : okA (crashA A ps) := by
  have hn := names_mapIdx (g := fun i f => crashF ps f i) (fun i f => rfl) A.fs
  refine ⟨hok.room, ?_, ?_, by show (-1 : Int) ≤ -1 ∧ (-1 : Int) ≤ _; omega, ?_, fun f hf => ?_, fun f hf => ?_⟩
  · refine Nat.le_trans (used_mapIdx (fun i f => ?_) A.fs) hok.used
    show (f.b.take _).length ≤ _
    rw [List.length_take]; omega
  · show (A.fs.mapIdx _).length ≤ _
    rw [List.length_mapIdx]; exact hok.many
  · have h := hok.sorted
    show (A.fs.mapIdx fun i f => crashF ps f i).Pairwise _
    have e : ∀ fs : List FileA, (fs.Pairwise fun a b => ltS a.name b.name = true) ↔ (fs.map (·.name)).Pairwise fun a b => ltS a b = true := fun fs => by rw [List.pairwise_map]
    rw [e] at h ⊢
    rw [hn]; exact h
  · obtain ⟨i, hi, rfl⟩ := List.mem_mapIdx.1 hf
    have := hok.kept _ (List.getElem_mem hi)
    show lastN _ _ ≤ (List.take _ _).length
    rw [List.length_take]
    have := lastN_le this (pickN ps i)
    omega
  · obtain ⟨i, hi, rfl⟩ := List.mem_mapIdx.1 hf
    show A.fs[i].name.size ≤ 24
    exact hok.names _ (List.getElem_mem hi)

theorem crash_take {A : DiskA} (ps : List Int) {i : Nat} (hi : i < A.fs.length) : (A.fs.take (i + 1)).mapIdx (fun i f => crashF ps f i) = (A.fs.take i).mapIdx (fun i f => crashF ps f i) ++ [crashF ps A.fs[i] i] := by
  rw [List.take_add_one, List.getElem?_eq_getElem hi, Option.toList_some, List.mapIdx_append]
  simp only [List.mapIdx_cons, List.mapIdx_nil, List.length_take]
  rw [Nat.min_eq_left (by omega), Nat.zero_add]

theorem tmod_nat (i n : Nat) : Int.tmod (i : Int) (n : Int) = ((i % n : Nat) : Int) := by
  rw [Int.tmod_eq_emod_of_nonneg (by omega)]; exact (Int.natCast_emod i n).symm

section
variable {w : World} {l r : List HP} {d : Nat} {A : DiskA}

theorem crash_c (px : Sl) (ps : List Int) [hps : FocR r px 1 (ps.flatMap encI)] (hlen : ps.length ≤ 1000000) [hf : Fo l dk d A r] (hs : Sat w l) :
    Ret P F.disk_Disk_Crash #[.pointer (some ⟨d, 0, none⟩), px.v] w fun vs w' => ∃ c : Nat, vs = [.pointer (some ⟨c, 0, none⟩)] ∧ Sat w' (dk c (crashA A ps) :: dk d A :: r) :=
  disk_Disk_Crash_calls _ px <| by
    unfold disk_Disk_Crash
    refine wp_ifF ?_ (by simp)
    have hpl := (hs.perm hf.perm).slen px (xs := ps) (enc := encI)
    obtain ⟨m, FS, hp, hok, hs⟩ := dk_open (hs.perm hf.perm)
    have hroom := hok.room
    refine wp_nn ?_
    refine wp_ldO hs ?_
    have hs : Sat w (dk d A :: r) := dk_close m hp hok hs
    refine wp_call (new_ok A.room hroom hs) fun _ _ hs => ?_
    obtain ⟨c, rfl, hs⟩ := hs
    refine ret_of ?_
    refine wp_lt ?_
    refine wp_call (names_c (d := d) (ByteArray.mk #[]) hs) fun _ _ hs => ?_
    obtain ⟨nx, rfl, hs⟩ := hs
    refine ret_of ?_
    rw [namesF_all] at hs
    have hnl := hs.slen nx (xs := A.fs.map fun f : FileA => f.name) (enc := encT)
    rw [List.length_map] at hnl
    have hmany := hok.many
    have hkeep : ∀ i, okA { A with fs := A.fs.take i } := fun i => okA_sub hok (List.take_sublist i A.fs)
    refine wp_mid (fun _ w' => Sat w' (dk c (crashA A ps) :: dk d A :: r)) ?_ ?_
    · refine wp_loop (fun k v w => ∃ i : Nat, v = ((i : Int), ()) ∧ i ≤ A.fs.length ∧ A.fs.length - i = k ∧ Sat w (dk c (crashA { A with fs := A.fs.take i } ps) :: slc T.string 1 nx ((A.fs.map (·.name)).flatMap encT) :: dk d A :: r)) A.fs.length ⟨0, rfl, by omega, rfl, hs.pick [2, 0, 0]⟩ ?_
      clear hs
      rintro k _ w ⟨i, rfl, hi, hk, hs⟩
      refine wp_on ?_
      refine wp_if (fun hc => ?_) fun hc => ?_
      · have hil : i < A.fs.length := by omega
        refine wp_ix1 hs i (by rw [List.length_map]; exact hil) ?_
        rw [List.getElem_map]
        obtain ⟨m, FS, hp, hok', hs⟩ := dk_open (hs.pick [2])
        refine wp_lt (wp_lt ?_)
        refine wp_nn ?_
        refine wp_ldO hs ?_
        refine wp_look hs (fun b hb => ?_) fun hb => absurd rfl (not_fs hp hb _ (List.getElem_mem hil))
        obtain ⟨t, ht, rfl, htn, hA⟩ := in_fs hp hb
        have htf : t.f = A.fs[i] := by
          have h1 := find_name (names_nodup hok.sorted) hA htn
          have h2 := find_name (names_nodup hok.sorted) (List.getElem_mem hil) rfl
          rw [h1] at h2; exact Option.some.inj h2
        obtain ⟨FS', hpm, hs⟩ := file_open hs ht
        have hb4 : t.f.b.length ≤ 4194304 := Nat.le_trans (used_mem hA) hok.used
        have hkt := hok.kept _ hA
        refine wp_call (copy_c t hb4 hs) fun _ _ hs => ?_
        obtain ⟨bc, xc, rfl, hs⟩ := hs
        refine ret_of ?_
        have hcl := hs.slen xc (xs := t.f.b) (enc := encU)
        have hcc := (hs.focS xc).slc_cap
        refine wp_nn ?_
        refine wp_ldO hs ?_
        refine wp_lt ?_
        refine wp_mid (fun v w' => v = (((lastN t.f (pickN ps i) : Nat) : Int), ()) ∧ Sat w' (pt bc (.cells #[xc.v, .int .i64 t.f.kept] T.disk_file) :: slc T.uint8 1 xc (t.f.b.flatMap encU) :: dk c (crashA { A with fs := A.fs.take i } ps) :: slc T.string 1 nx ((A.fs.map (·.name)).flatMap encT) :: dk d A :: r)) ?_ ?_
        · have hclose : ∀ {w'}, Sat w' (pt bc (.cells #[xc.v, .int .i64 t.f.kept] T.disk_file) :: slc T.uint8 1 xc (t.f.b.flatMap encU) :: pt t.at_ (.cells #[t.x.v, .int .i64 t.f.kept] T.disk_file) :: slc T.uint8 1 t.x (t.f.b.flatMap encU) :: HP.all (FS'.map fileP) :: pt d (.cells #[.int .i64 A.left, .bool A.gone, .int .i64 A.room, .int .i64 (used A.fs), .map (some m)] T.disk_Disk) :: mapP ekS evF m (FS.map fun t => (t.f.name, t.at_)) :: dk c (crashA { A with fs := A.fs.take i } ps) :: slc T.string 1 nx ((A.fs.map (·.name)).flatMap encT) :: r) →
              Sat w' (pt bc (.cells #[xc.v, .int .i64 t.f.kept] T.disk_file) :: slc T.uint8 1 xc (t.f.b.flatMap encU) :: dk c (crashA { A with fs := A.fs.take i } ps) :: slc T.string 1 nx ((A.fs.map (·.name)).flatMap encT) :: dk d A :: r) := fun hs => by
            have hs := (file_close (FS := FS') t (hs.pick [2, 2, 2])).all_perm (hpm.symm.map fileP)
            have hs := dk_close (d := d) (A := A) (l' := pt bc (.cells #[xc.v, .int .i64 t.f.kept] T.disk_file) :: slc T.uint8 1 xc (t.f.b.flatMap encU) :: dk c (crashA { A with fs := A.fs.take i } ps) :: slc T.string 1 nx ((A.fs.map (·.name)).flatMap encT) :: r) m hp hok hs
            exact hs.pick [1, 1, 1, 1]
          refine wp_if (fun h => ?_) fun h => ?_
          · have hpos : 0 < ps.length := by omega
            have hmod := Nat.mod_lt i hpos
            refine wp_tk hs fun w' hs => ?_
            refine wp_must (by omega) ?_
            refine wp_ix1 hs (i % ps.length) hmod ?_ (by rw [hpl, tmod_nat])
            refine wp_nn ?_
            refine wp_ldO hs ?_
            refine wp_ltx (y := ((lastN t.f (pickN ps i) : Nat) : Int)) ?_ ?_
            · refine wp_untick ?_
              exact wp_lv ⟨rfl, hclose hs⟩
            · have e1 : pickN ps i = ps[i % ps.length] := by
                unfold pickN
                rw [if_neg (fun e => by rw [e] at hpos; simp at hpos), List.getD_eq_getElem?_getD, List.getElem?_eq_getElem hmod]; rfl
              have e2 : IntKind.wrap .i64 (((xc.len : Nat) : Int) - ((t.f.kept : Nat) : Int)) = ((t.f.b.length - t.f.kept : Nat) : Int) := by rw [hcl, w64 (by omega) (by omega)]; omega
              rw [e2, e1]
              unfold lastN
              rw [w64 (by split <;> split <;> omega) (by split <;> split <;> omega)]
              split <;> split <;> omega
          · have hnil : ps = [] := List.length_eq_zero_iff.1 (by omega)
            refine wp_lv ⟨?_, hclose hs⟩
            subst hnil
            have : lastN t.f (pickN [] i) = t.f.kept := by simp [lastN, pickN]
            rw [this]
        clear hs
        rintro _ w ⟨rfl, hs⟩
        refine wp_on ?_
        have hlast := lastN_le hkt (pickN ps i)
        rw [Int.toNat_natCast]
        obtain ⟨mc, FSc, hpc, hokc, hs⟩ := dk_open (hs.pick [2])
        (repeat (first | with_reducible (first | refine wp_on ?_ | refine wp_nn ?_ | refine wp_nng ?_ | refine wp_ldO hs ?_ | refine wp_ldG hs ?_ | refine wp_untick ?_ | refine wp_tk hs fun _ hs => ?_ | refine wp_newO hs fun _ _ hs => ?_ | refine wp_boxO hs fun _ _ hs => ?_ | refine wp_stO hs fun _ hs => ?_ | refine wp_stG hs fun _ hs => ?_) | (apply wp_must; (focus first | trivial | omega | assumption)) | refine wp_ltw ?_ | refine wp_lt ?_))
        have hs := (hs.focS xc).slc_cut (n := lastN t.f (pickN ps i)) (by omega)
        rw [take_flat] at hs
        have hnew : ∀ f ∈ (crashA { A with fs := A.fs.take i } ps).fs, f.name ≠ A.fs[i].name := fun f hf e => by
          obtain ⟨j, hj, rfl⟩ := List.mem_mapIdx.1 hf
          rw [List.length_take] at hj
          have hlt := List.pairwise_iff_getElem.1 hok.sorted j i (by omega) hil (by omega)
          have e : ((A.fs.take i)[j]'(by rw [List.length_take]; omega)).name = A.fs[i].name := e
          rw [List.getElem_take] at e
          rw [e, ltS_irrefl] at hlt; cases hlt
        have hno : ∀ v, (A.fs[i].name, v) ∉ FSc.map fun t => (t.f.name, t.at_) := fun v hv => by
          obtain ⟨t', ht', -, hn', hA'⟩ := in_fs hpc hv
          exact hnew _ hA' hn'
        refine wp_mset hs (FSc.map fun t => (t.f.name, t.at_)) (.inr ⟨hno, rfl⟩) bc fun w' hs => ?_
        have hC := crash_take ps hil
        have hu1 : used (crashA { A with fs := A.fs.take (i + 1) } ps).fs = used (crashA { A with fs := A.fs.take i } ps).fs + lastN t.f (pickN ps i) := by
          show used ((A.fs.take (i + 1)).mapIdx _) = _
          rw [hC, used_perm List.perm_append_comm, List.singleton_append, used_cons, ← htf]
          show (t.f.b.take _).length + _ = _
          rw [List.length_take, Nat.min_eq_left hlast, Nat.add_comm]; rfl
        have hokc2 := okA_crash (hkeep (i + 1)) ps
        have hub := hokc2.used
        have ew : IntKind.wrap .i64 (((used (crashA { A with fs := A.fs.take i } ps).fs : Nat) : Int) + ((lastN t.f (pickN ps i) : Nat) : Int)) = ((used (crashA { A with fs := A.fs.take (i + 1) } ps).fs : Nat) : Int) := by rw [hu1, w64 (by omega) (by omega)]; omega
        refine wp_nn ?_
        refine wp_ldO hs ?_
        rw [ew]
        (repeat (first | with_reducible (first | refine wp_on ?_ | refine wp_nn ?_ | refine wp_nng ?_ | refine wp_ldO hs ?_ | refine wp_ldG hs ?_ | refine wp_untick ?_ | refine wp_tk hs fun _ hs => ?_ | refine wp_newO hs fun _ _ hs => ?_ | refine wp_boxO hs fun _ _ hs => ?_ | refine wp_stO hs fun _ hs => ?_ | refine wp_stG hs fun _ hs => ?_) | (apply wp_must; (focus first | trivial | omega | assumption)) | refine wp_ltw ?_ | refine wp_lt ?_))
        refine wp_dn (us' := [.int .i64 ((i + 1 : Nat) : Int)]) (by (try simp (disch := omega) only [w64]); first | rfl | (congr; omega)) ?_
        refine wp_lp (A.fs.length - (i + 1)) ?_
        refine ⟨i + 1, rfl, by omega, rfl, ?_⟩
        have hs := file_close (FS := FSc) ⟨bc, ⟨xc.a, lastN t.f (pickN ps i), lastN t.f (pickN ps i)⟩, crashF ps t.f i⟩ hs
        have hp' : (((⟨bc, ⟨xc.a, lastN t.f (pickN ps i), lastN t.f (pickN ps i)⟩, crashF ps t.f i⟩ : FileM) :: FSc).map FileM.f).Perm (crashA { A with fs := A.fs.take (i + 1) } ps).fs := by
          show (crashF ps t.f i :: FSc.map FileM.f).Perm ((A.fs.take (i + 1)).mapIdx _)
          rw [hC, ← htf]
          exact (List.Perm.cons _ hpc).trans (List.perm_append_comm (l₁ := [crashF ps t.f i]))
        have hkv : (A.fs[i].name, bc) :: FSc.map (fun t => (t.f.name, t.at_)) = ((⟨bc, ⟨xc.a, lastN t.f (pickN ps i), lastN t.f (pickN ps i)⟩, crashF ps t.f i⟩ : FileM) :: FSc).map fun t => (t.f.name, t.at_) := by rw [← htf]; rfl
        rw [hkv] at hs
        exact dk_close mc (A := crashA { A with fs := A.fs.take (i + 1) } ps) hp' hokc2 hs
      · refine wp_pass (wp_lv ?_)
        rw [List.take_of_length_le (by omega)] at hs
        exact hs.sub
    · rintro _ w' hs
      refine wp_on ?_
      exact ⟨rfl, c, rfl, hs⟩

end
end Go.Dec
