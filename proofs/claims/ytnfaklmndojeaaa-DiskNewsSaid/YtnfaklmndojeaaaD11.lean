/- Disks: the document's Remove, Fuse, Append, Rename, Copy. -/
import Derived.Test.YtnfaklmndojeaaaD10
namespace Go.Dec
set_option linter.unusedVariables false
set_option linter.unusedSimpArgs false

section
variable {w : World} {l r : List HP} {q : Nat} {A : DiskA}

theorem has_of {fs : List FileA} {n : ByteArray} {i : Nat} (hi : i < fs.length) (hn : fs[i].name = n) : hasF fs n = true := hasF_iff.2 ⟨_, List.getElem_mem hi, hn⟩

theorem rremove_c (n : ByteArray) (hok : okA A) [hf : Fo l rdk q A r] (hs : Sat w l) : Ret P F.towpathref04_Disk_Remove #[.pointer (some ⟨q, 0, none⟩), .string n] w fun vs w' => vs = [.int .i64 (remA A n).1] ∧ Sat w' (rdk q (remA A n).2 :: r) :=
  towpathref04_Disk_Remove_calls _ n <| by
    unfold towpathref04_Disk_Remove remA
    obtain ⟨x, hs⟩ := rdk_open (hs.perm hf.perm)
    have hm := hok.many
    (repeat (first | with_reducible (first | refine wp_on ?_ | refine wp_nn ?_ | refine wp_nng ?_ | refine wp_ldO hs ?_ | refine wp_ldG hs ?_ | refine wp_untick ?_ | refine wp_tk hs fun _ hs => ?_ | refine wp_newO hs fun _ _ hs => ?_ | refine wp_boxO hs fun _ _ hs => ?_ | refine wp_stO hs fun _ hs => ?_ | refine wp_stG hs fun _ hs => ?_) | (apply wp_must; (focus first | trivial | omega | assumption)) | refine wp_ltw ?_ | refine wp_lt ?_))
    have hs : Sat w (rdk q A :: r) := rdk_close x hs
    refine wp_if (fun hg => ?_) fun hg => ?_
    · rw [if_pos hg]; exact ⟨rfl, rfl, hs⟩
    have hg : A.gone = false := by simpa using hg
    rw [if_neg (by rw [hg]; simp)]
    refine wp_call (rat_c n hok hs) fun _ w' h => ?_
    obtain ⟨⟨i, hi, rfl, hin⟩ | ⟨rfl, hno⟩, hs⟩ := h
    · refine ret_of ?_
      refine wp_ifF ?_
      rw [if_neg (by rw [has_of hi hin]; simp)]
      refine wp_call (without_c n (by omega) hs) fun _ _ hs => ?_
      obtain ⟨rfl, hs⟩ := hs
      refine ret_of ?_
      refine wp_call (rdone_c (okA_drop hok n) hg hs) fun _ _ hs => ?_
      obtain ⟨rfl, hs⟩ := hs
      refine ret_of ?_
      (repeat (first | with_reducible (first | refine wp_on ?_ | refine wp_nn ?_ | refine wp_nng ?_ | refine wp_ldO hs ?_ | refine wp_ldG hs ?_ | refine wp_untick ?_ | refine wp_tk hs fun _ hs => ?_ | refine wp_newO hs fun _ _ hs => ?_ | refine wp_boxO hs fun _ _ hs => ?_ | refine wp_stO hs fun _ hs => ?_ | refine wp_stG hs fun _ hs => ?_) | (apply wp_must; (focus first | trivial | omega | assumption)) | refine wp_ltw ?_ | refine wp_lt ?_))
      exact ⟨rfl, rfl, hs⟩
    · refine ret_of ?_
      refine wp_ifT ?_
      rw [if_pos (hasF_not.2 hno)]
      exact ⟨rfl, rfl, hs⟩

theorem rfuse_c (n : Int) [hf : Fo l rdk q A r] (hs : Sat w l) : Ret P F.towpathref04_Disk_Fuse #[.pointer (some ⟨q, 0, none⟩), .int .i64 n] w fun vs w' => vs = [] ∧ Sat w' (rdk q (fuseA A n) :: r) :=
  towpathref04_Disk_Fuse_calls _ n <| by
    unfold towpathref04_Disk_Fuse fuseA
    obtain ⟨x, hs⟩ := rdk_open (hs.perm hf.perm)
    (repeat (first | with_reducible (first | refine wp_on ?_ | refine wp_nn ?_ | refine wp_nng ?_ | refine wp_ldO hs ?_ | refine wp_ldG hs ?_ | refine wp_untick ?_ | refine wp_tk hs fun _ hs => ?_ | refine wp_newO hs fun _ _ hs => ?_ | refine wp_boxO hs fun _ _ hs => ?_ | refine wp_stO hs fun _ hs => ?_ | refine wp_stG hs fun _ hs => ?_) | (apply wp_must; (focus first | trivial | omega | assumption)) | refine wp_ltw ?_ | refine wp_lt ?_))
    refine wp_if (fun hg => ?_) fun hg => ?_
    · rw [if_pos hg]; exact ⟨rfl, rfl, rdk_close x hs⟩
    rw [if_neg hg]
    have hg : A.gone = false := by simpa using hg
    (repeat (first | with_reducible (first | refine wp_on ?_ | refine wp_nn ?_ | refine wp_nng ?_ | refine wp_ldO hs ?_ | refine wp_ldG hs ?_ | refine wp_untick ?_ | refine wp_tk hs fun _ hs => ?_ | refine wp_newO hs fun _ _ hs => ?_ | refine wp_boxO hs fun _ _ hs => ?_ | refine wp_stO hs fun _ hs => ?_ | refine wp_stG hs fun _ hs => ?_) | (apply wp_must; (focus first | trivial | omega | assumption)) | refine wp_ltw ?_ | refine wp_lt ?_))
    refine wp_mid (fun _ w' => Sat w' (rdk q { A with left := if n < 0 then -1 else n } :: r)) ?_ ?_
    · refine wp_if (fun h => ?_) fun h => ?_
      · (repeat (first | with_reducible (first | refine wp_on ?_ | refine wp_nn ?_ | refine wp_nng ?_ | refine wp_ldO hs ?_ | refine wp_ldG hs ?_ | refine wp_untick ?_ | refine wp_tk hs fun _ hs => ?_ | refine wp_newO hs fun _ _ hs => ?_ | refine wp_boxO hs fun _ _ hs => ?_ | refine wp_stO hs fun _ hs => ?_ | refine wp_stG hs fun _ hs => ?_) | (apply wp_must; (focus first | trivial | omega | assumption)) | refine wp_ltw ?_ | refine wp_lt ?_))
        refine wp_lv ?_
        rw [if_pos h]
        exact rdk_close x (A := { A with left := -1 }) hs
      · refine wp_lv ?_
        rw [if_neg h]
        exact rdk_close x (A := { A with left := n }) hs
    clear hs
    rintro _ w hs
    refine wp_on ?_
    obtain ⟨x, hs⟩ := rdk_open hs
    refine wp_mid (fun _ w' => Sat w' (rdk q { A with left := if n < 0 then -1 else n, gone := decide (n = 0) } :: r)) ?_ ?_
    · refine wp_if (fun h => ?_) fun h => ?_
      · (repeat (first | with_reducible (first | refine wp_on ?_ | refine wp_nn ?_ | refine wp_nng ?_ | refine wp_ldO hs ?_ | refine wp_ldG hs ?_ | refine wp_untick ?_ | refine wp_tk hs fun _ hs => ?_ | refine wp_newO hs fun _ _ hs => ?_ | refine wp_boxO hs fun _ _ hs => ?_ | refine wp_stO hs fun _ hs => ?_ | refine wp_stG hs fun _ hs => ?_) | (apply wp_must; (focus first | trivial | omega | assumption)) | refine wp_ltw ?_ | refine wp_lt ?_))
        refine wp_lv ?_
        rw [decide_eq_true h]
        exact rdk_close x (A := { A with left := if n < 0 then -1 else n, gone := true }) hs
      · refine wp_lv ?_
        rw [decide_eq_false h]
        dsimp only at hs
        rw [hg] at hs
        exact rdk_close x (A := { A with left := if n < 0 then -1 else n, gone := false }) hs
    rintro _ w' hs
    refine wp_on ?_
    exact ⟨rfl, rfl, hs⟩

theorem set_upd {fs : List FileA} {n : ByteArray} {g : FileA → FileA} (hnd : (fs.map (·.name)).Nodup) {i : Nat} (hi : i < fs.length) (hn : fs[i].name = n) : fs.set i (g fs[i]) = fs.map (updF n g) := by
  apply List.ext_getElem?
  intro j
  rw [List.getElem?_set, List.getElem?_map]
  by_cases hij : i = j
  · subst hij
    rw [if_pos rfl, if_pos hi, List.getElem?_eq_getElem hi, Option.map_some, updF, if_pos hn]
  · rw [if_neg hij]
    by_cases hj : j < fs.length
    · rw [List.getElem?_eq_getElem hj, Option.map_some, updF, if_neg]
      intro e
      have h := hnd
      rw [List.Nodup, List.pairwise_iff_getElem] at h
      rcases Nat.lt_or_gt_of_ne hij with h1 | h1
      · have := h i j (by simpa using hi) (by simpa using hj) h1
        simp only [List.getElem_map] at this
        exact this (by rw [hn, e])
      · have := h j i (by simpa using hj) (by simpa using hi) h1
        simp only [List.getElem_map] at this
        exact this (by rw [hn, e])
    · rw [List.getElem?_eq_none (by omega)]; rfl

theorem bytesOf_append (a b : List UInt8) : bytesOf (a ++ b) = bytesOf a ++ bytesOf b := bytes_ext (by simp [bytesOf])

theorem rappend_c (n : ByteArray) (bs : List UInt8) (hb : bs.length ≤ 1000000) (hn1 : n.size ≤ 1000000) (hok : okA A) [hf : Fo l rdk q A r] (hs : Sat w l) :
    Ret P F.towpathref04_Disk_Append #[.pointer (some ⟨q, 0, none⟩), .string n, .string (bytesOf bs)] w fun vs w' => vs = [.int .i64 (appendA A n bs).1] ∧ Sat w' (rdk q (appendA A n bs).2 :: r) :=
  towpathref04_Disk_Append_calls _ n (bytesOf bs) <| by
    unfold towpathref04_Disk_Append appendA
    rw [bytesOf_size]
    obtain ⟨x, hs⟩ := rdk_open (hs.perm hf.perm)
    have hm := hok.many
    have hu := hok.used
    (repeat (first | with_reducible (first | refine wp_on ?_ | refine wp_nn ?_ | refine wp_nng ?_ | refine wp_ldO hs ?_ | refine wp_ldG hs ?_ | refine wp_untick ?_ | refine wp_tk hs fun _ hs => ?_ | refine wp_newO hs fun _ _ hs => ?_ | refine wp_boxO hs fun _ _ hs => ?_ | refine wp_stO hs fun _ hs => ?_ | refine wp_stG hs fun _ hs => ?_) | (apply wp_must; (focus first | trivial | omega | assumption)) | refine wp_ltw ?_ | refine wp_lt ?_))
    have hs : Sat w (rdk q A :: r) := rdk_close x hs
    refine wp_if (fun hg => ?_) fun hg => ?_
    · rw [if_pos hg]; exact ⟨rfl, rfl, hs⟩
    have hg : A.gone = false := by simpa using hg
    rw [if_neg (by rw [hg]; simp)]
    refine wp_call (rname_c n hn1 hs) fun _ _ hs => ?_
    obtain ⟨rfl, hs⟩ := hs
    refine ret_of ?_
    refine wp_if (fun h => ?_) fun h => ?_
    · have h : nameF n = false := by simpa using h
      rw [if_pos h]; exact ⟨rfl, rfl, hs⟩
    have hnm : nameF n = true := by simpa using h
    rw [if_neg (by rw [hnm]; simp)]
    refine wp_call (rat_c n hok hs) fun _ w' h => ?_
    obtain ⟨hat, hs⟩ := h
    obtain ⟨k, rfl, hk⟩ : ∃ k : Int, ‹List Value› = [.int .i64 k] ∧ ((∃ (i : Nat) (hi : i < A.fs.length), k = i ∧ A.fs[i].name = n) ∨ (k = -1 ∧ ∀ f ∈ A.fs, f.name ≠ n)) := by
      rcases hat with ⟨i, hi, hv, hin⟩ | ⟨hv, hno⟩
      · exact ⟨_, hv, .inl ⟨i, hi, rfl, hin⟩⟩
      · exact ⟨_, hv, .inr ⟨rfl, hno⟩⟩
    refine ret_of ?_
    refine wp_lt ?_
    refine wp_call (rfree_c hok hs) fun _ _ hs => ?_
    obtain ⟨rfl, hs⟩ := hs
    refine ret_of ?_
    obtain ⟨x, hs⟩ := rdk_open hs
    have hl := hs.slen x (xs := A.fs) (enc := encF)
    (repeat (first | with_reducible (first | refine wp_on ?_ | refine wp_nn ?_ | refine wp_nng ?_ | refine wp_ldO hs ?_ | refine wp_ldG hs ?_ | refine wp_untick ?_ | refine wp_tk hs fun _ hs => ?_ | refine wp_newO hs fun _ _ hs => ?_ | refine wp_boxO hs fun _ _ hs => ?_ | refine wp_stO hs fun _ hs => ?_ | refine wp_stG hs fun _ hs => ?_) | (apply wp_must; (focus first | trivial | omega | assumption)) | refine wp_ltw ?_ | refine wp_lt ?_))
    have hlt : k < 0 ↔ hasF A.fs n = false := by
      rcases hk with ⟨i, hi, rfl, hin⟩ | ⟨rfl, hno⟩
      · rw [has_of hi hin]; simp
      · rw [hasF_not.2 hno]; simp
    refine wp_if (fun h => ?_) fun h => ?_
    · rw [if_pos (by
        rcases h with h | ⟨h1, h2⟩
        · left; omega
        · right; exact ⟨hlt.1 h1, by omega⟩)]
      exact ⟨rfl, rfl, rdk_close x hs⟩
    have hno2 : ¬ (bs.length > A.free ∨ (hasF A.fs n = false ∧ A.fs.length ≥ 128)) := by
      rintro (h1 | ⟨h1, h2⟩)
      · exact h (.inl (by omega))
      · exact h (.inr ⟨hlt.2 h1, by omega⟩)
    rw [if_neg hno2]
    have hfit : bs.length ≤ A.free := Nat.le_of_not_lt fun h1 => hno2 (.inl h1)
    have hok' := okA_append hok hnm hfit fun h1 => hno2 (.inr h1)
    refine wp_mid (fun _ w' => Sat w' (rdk q { A with fs := if hasF A.fs n then A.fs.map (updF n fun f => { f with b := f.b ++ bs }) else insF ⟨n, bs, 0⟩ A.fs } :: r)) ?_ ?_
    · refine wp_if (fun h3 => ?_) fun h3 => ?_
      · have hs : Sat _ (rdk q A :: r) := rdk_close x hs
        rw [if_neg (by rw [hlt.1 h3]; simp)]
        refine wp_call (with_c ⟨n, bs, 0⟩ (by omega) hs) fun _ _ hs => ?_
        obtain ⟨rfl, hs⟩ := hs
        refine ret_of ?_
        exact wp_lv hs
      · obtain ⟨i, hi, rfl, hin⟩ : ∃ (i : Nat) (hi : i < A.fs.length), k = i ∧ A.fs[i].name = n := hk.resolve_right fun h4 => h3 (by omega)
        have hbi := used_mem (List.getElem_mem hi)
        (repeat (first | with_reducible (first | refine wp_on ?_ | refine wp_nn ?_ | refine wp_nng ?_ | refine wp_ldO hs ?_ | refine wp_ldG hs ?_ | refine wp_untick ?_ | refine wp_tk hs fun _ hs => ?_ | refine wp_newO hs fun _ _ hs => ?_ | refine wp_boxO hs fun _ _ hs => ?_ | refine wp_stO hs fun _ hs => ?_ | refine wp_stG hs fun _ hs => ?_) | (apply wp_must; (focus first | trivial | omega | assumption)) | refine wp_ltw ?_ | refine wp_lt ?_))
        refine wp_ixF hs i hi ?_
        refine wp_must (by rw [bytesOf_size]; omega) ?_
        refine wp_ixSF hs i hi { A.fs[i] with b := A.fs[i].b ++ bs } (fun w' hs => ?_) rfl rfl (by simp [encF, bytesOf_append])
        refine wp_lv ?_
        rw [if_pos (has_of hi hin), ← set_upd (g := fun f => { f with b := f.b ++ bs }) (names_nodup hok.sorted) hi hin]
        exact rdk_close x (A := { A with fs := A.fs.set i { A.fs[i] with b := A.fs[i].b ++ bs } }) hs
    clear hs
    rintro _ w hs
    refine wp_on ?_
    refine wp_call (rdone_c hok' hg hs) fun _ _ hs => ?_
    obtain ⟨rfl, hs⟩ := hs
    refine ret_of ?_
    (repeat (first | with_reducible (first | refine wp_on ?_ | refine wp_nn ?_ | refine wp_nng ?_ | refine wp_ldO hs ?_ | refine wp_ldG hs ?_ | refine wp_untick ?_ | refine wp_tk hs fun _ hs => ?_ | refine wp_newO hs fun _ _ hs => ?_ | refine wp_boxO hs fun _ _ hs => ?_ | refine wp_stO hs fun _ hs => ?_ | refine wp_stG hs fun _ hs => ?_) | (apply wp_must; (focus first | trivial | omega | assumption)) | refine wp_ltw ?_ | refine wp_lt ?_))
    exact ⟨rfl, rfl, hs⟩

theorem rcut_c (n : ByteArray) (k : Int) (hok : okA A) [hf : Fo l rdk q A r] (hs : Sat w l) : Ret P F.towpathref04_Disk_Cut #[.pointer (some ⟨q, 0, none⟩), .string n, .int .i64 k] w fun vs w' => vs = [.int .i64 (cutA' A n k).1] ∧ Sat w' (rdk q (cutA' A n k).2 :: r) :=
  towpathref04_Disk_Cut_calls _ n k <| by
    unfold towpathref04_Disk_Cut cutA'
    obtain ⟨x, hs⟩ := rdk_open (hs.perm hf.perm)
    have hm := hok.many
    have hu := hok.used
    (repeat (first | with_reducible (first | refine wp_on ?_ | refine wp_nn ?_ | refine wp_nng ?_ | refine wp_ldO hs ?_ | refine wp_ldG hs ?_ | refine wp_untick ?_ | refine wp_tk hs fun _ hs => ?_ | refine wp_newO hs fun _ _ hs => ?_ | refine wp_boxO hs fun _ _ hs => ?_ | refine wp_stO hs fun _ hs => ?_ | refine wp_stG hs fun _ hs => ?_) | (apply wp_must; (focus first | trivial | omega | assumption)) | refine wp_ltw ?_ | refine wp_lt ?_))
    have hs : Sat w (rdk q A :: r) := rdk_close x hs
    refine wp_if (fun hg => ?_) fun hg => ?_
    · rw [if_pos hg]; exact ⟨rfl, rfl, hs⟩
    have hg : A.gone = false := by simpa using hg
    rw [if_neg (by rw [hg]; simp)]
    refine wp_call (rat_c n hok hs) fun _ w' h => ?_
    obtain ⟨⟨i, hi, rfl, hin⟩ | ⟨rfl, hno⟩, hs⟩ := h
    all_goals refine ret_of ?_
    all_goals refine wp_lt ?_
    rotate_left
    · refine wp_ifT ?_
      rw [if_pos (hasF_not.2 hno)]
      exact ⟨rfl, rfl, hs⟩
    refine wp_ifF ?_
    rw [if_neg (by rw [has_of hi hin]; simp), lenF_eq (names_nodup hok.sorted) (List.getElem_mem hi) hin]
    obtain ⟨x, hs⟩ := rdk_open hs
    have hl := hs.slen x (xs := A.fs) (enc := encF)
    have hbi := used_mem (List.getElem_mem hi)
    have hki := hok.kept _ (List.getElem_mem hi)
    (repeat (first | with_reducible (first | refine wp_on ?_ | refine wp_nn ?_ | refine wp_nng ?_ | refine wp_ldO hs ?_ | refine wp_ldG hs ?_ | refine wp_untick ?_ | refine wp_tk hs fun _ hs => ?_ | refine wp_newO hs fun _ _ hs => ?_ | refine wp_boxO hs fun _ _ hs => ?_ | refine wp_stO hs fun _ hs => ?_ | refine wp_stG hs fun _ hs => ?_) | (apply wp_must; (focus first | trivial | omega | assumption)) | refine wp_ltw ?_ | refine wp_lt ?_))
    refine wp_ixFg hs i hi ?_
    rw [bytesOf_size]
    refine wp_if (fun h => ?_) fun h => ?_
    · rw [if_pos h]
      exact ⟨rfl, rfl, rdk_close x hs⟩
    rw [if_neg h]
    obtain ⟨k, rfl⟩ : ∃ j : Nat, k = j := ⟨k.toNat, by omega⟩
    have ek : Int.toNat (k : Int) = k := Int.toNat_natCast k
    rw [ek]
    refine wp_tk hs fun w' hs => ?_
    refine wp_nn ?_
    refine wp_ldO hs ?_
    refine wp_nn ?_
    refine wp_ldO hs ?_
    refine wp_ixF hs i hi ?_
    refine wp_must (by rw [bytesOf_size]; omega) ?_
    have hcut : ByteArray.extract (bytesOf A.fs[i].b) 0 k = bytesOf (A.fs[i].b.take k) := bytes_ext (by simp [bytesOf, ByteArray.data_extract])
    rw [hcut]
    refine wp_ixSF hs i hi { A.fs[i] with b := A.fs[i].b.take k } (fun w' hs => ?_) rfl rfl (by simp [encF])
    have hi2 : i < (A.fs.set i { A.fs[i] with b := A.fs[i].b.take k }).length := by rw [List.length_set]; exact hi
    (repeat (first | with_reducible (first | refine wp_on ?_ | refine wp_nn ?_ | refine wp_nng ?_ | refine wp_ldO hs ?_ | refine wp_ldG hs ?_ | refine wp_untick ?_ | refine wp_tk hs fun _ hs => ?_ | refine wp_newO hs fun _ _ hs => ?_ | refine wp_boxO hs fun _ _ hs => ?_ | refine wp_stO hs fun _ hs => ?_ | refine wp_stG hs fun _ hs => ?_) | (apply wp_must; (focus first | trivial | omega | assumption)) | refine wp_ltw ?_ | refine wp_lt ?_))
    refine wp_ixF hs i hi2 ?_
    rw [List.getElem_set_self]
    have hset := set_upd (g := fun f => { f with b := f.b.take k, kept := min f.kept k }) (names_nodup hok.sorted) hi hin
    refine wp_mid (fun _ w' => Sat w' (rdk q { A with fs := A.fs.map (updF n fun f => { f with b := f.b.take k, kept := min f.kept k }) } :: r)) ?_ ?_
    · rw [← hset]
      refine wp_if (fun h3 => ?_) fun h3 => ?_
      · (repeat (first | with_reducible (first | refine wp_on ?_ | refine wp_nn ?_ | refine wp_nng ?_ | refine wp_ldO hs ?_ | refine wp_ldG hs ?_ | refine wp_untick ?_ | refine wp_tk hs fun _ hs => ?_ | refine wp_newO hs fun _ _ hs => ?_ | refine wp_boxO hs fun _ _ hs => ?_ | refine wp_stO hs fun _ hs => ?_ | refine wp_stG hs fun _ hs => ?_) | (apply wp_must; (focus first | trivial | omega | assumption)) | refine wp_ltw ?_ | refine wp_lt ?_))
        refine wp_ixSF hs i hi2 { A.fs[i] with b := A.fs[i].b.take k, kept := k } (fun w' hs => ?_) rfl rfl (by simp [encF])
        refine wp_lv ?_
        rw [List.set_set] at hs
        have e : min A.fs[i].kept k = k := by dsimp only at h3; omega
        rw [e]
        exact rdk_close x (A := { A with fs := A.fs.set i { A.fs[i] with b := A.fs[i].b.take k, kept := k } }) hs
      · refine wp_lv ?_
        have e : min A.fs[i].kept k = A.fs[i].kept := by dsimp only at h3; omega
        rw [e]
        exact rdk_close x (A := { A with fs := A.fs.set i { A.fs[i] with b := A.fs[i].b.take k } }) hs
    clear hs
    rintro _ w hs
    refine wp_on ?_
    have hok' : okA { A with fs := A.fs.map (updF n fun f => { f with b := f.b.take k, kept := min f.kept k }) } := by
      have h1 : ∀ fs : List FileA, used (fs.map (updF n fun f => { f with b := f.b.take k, kept := min f.kept k })) ≤ used fs := fun fs => by
        induction fs with
        | nil => exact Nat.le_refl _
        | cons f r ih =>
          rw [List.map_cons, used_cons, used_cons]
          have : (updF n (fun f => { f with b := f.b.take k, kept := min f.kept k }) f).b.length ≤ f.b.length := by
            unfold updF; split
            · show (f.b.take k).length ≤ _; rw [List.length_take]; omega
            · exact Nat.le_refl _
          omega
      refine ⟨hok.room, Nat.le_trans (h1 _) hok.used, by show (A.fs.map _).length ≤ _; rw [List.length_map]; exact hok.many, hok.left, sorted_map (updF_name fun _ => rfl) hok.sorted, fun f hf => ?_, fun f hf => ?_⟩
      · obtain ⟨g, hg', rfl⟩ := List.mem_map.1 hf
        have := hok.kept g hg'
        unfold updF
        split
        · show min g.kept k ≤ (g.b.take k).length; rw [List.length_take]; omega
        · exact this
      · obtain ⟨g, hg', rfl⟩ := List.mem_map.1 hf
        rw [updF_name (by intro _; rfl)]; exact hok.names g hg'
    refine wp_call (rdone_c hok' hg hs) fun _ _ hs => ?_
    obtain ⟨rfl, hs⟩ := hs
    refine ret_of ?_
    (repeat (first | with_reducible (first | refine wp_on ?_ | refine wp_nn ?_ | refine wp_nng ?_ | refine wp_ldO hs ?_ | refine wp_ldG hs ?_ | refine wp_untick ?_ | refine wp_tk hs fun _ hs => ?_ | refine wp_newO hs fun _ _ hs => ?_ | refine wp_boxO hs fun _ _ hs => ?_ | refine wp_stO hs fun _ hs => ?_ | refine wp_stG hs fun _ hs => ?_) | (apply wp_must; (focus first | trivial | omega | assumption)) | refine wp_ltw ?_ | refine wp_lt ?_))
    exact ⟨rfl, rfl, hs⟩

theorem rrename_c (a b : ByteArray) (hb1 : b.size ≤ 1000000) (hok : okA A) [hf : Fo l rdk q A r] (hs : Sat w l) : Ret P F.towpathref04_Disk_Rename #[.pointer (some ⟨q, 0, none⟩), .string a, .string b] w fun vs w' => vs = [.int .i64 (renA A a b).1] ∧ Sat w' (rdk q (renA A a b).2 :: r) :=
  towpathref04_Disk_Rename_calls _ a b <| by
    unfold towpathref04_Disk_Rename renA
    obtain ⟨x, hs⟩ := rdk_open (hs.perm hf.perm)
    have hm := hok.many
    (repeat (first | with_reducible (first | refine wp_on ?_ | refine wp_nn ?_ | refine wp_nng ?_ | refine wp_ldO hs ?_ | refine wp_ldG hs ?_ | refine wp_untick ?_ | refine wp_tk hs fun _ hs => ?_ | refine wp_newO hs fun _ _ hs => ?_ | refine wp_boxO hs fun _ _ hs => ?_ | refine wp_stO hs fun _ hs => ?_ | refine wp_stG hs fun _ hs => ?_) | (apply wp_must; (focus first | trivial | omega | assumption)) | refine wp_ltw ?_ | refine wp_lt ?_))
    have hs : Sat w (rdk q A :: r) := rdk_close x hs
    refine wp_if (fun hg => ?_) fun hg => ?_
    · rw [if_pos hg]; exact ⟨rfl, rfl, hs⟩
    have hg : A.gone = false := by simpa using hg
    rw [if_neg (by rw [hg]; simp)]
    refine wp_call (rat_c a hok hs) fun _ w' h => ?_
    obtain ⟨⟨i, hi, rfl, hin⟩ | ⟨rfl, hno⟩, hs⟩ := h
    all_goals refine ret_of ?_
    all_goals refine wp_lt ?_
    rotate_left
    · refine wp_ifT ?_
      rw [find_none hno]
      exact ⟨rfl, rfl, hs⟩
    refine wp_ifF ?_
    rw [find_name (names_nodup hok.sorted) (List.getElem_mem hi) hin]
    dsimp only
    refine wp_call (rname_c b hb1 hs) fun _ _ hs => ?_
    obtain ⟨rfl, hs⟩ := hs
    refine ret_of ?_
    refine wp_if (fun h => ?_) fun h => ?_
    · have h : nameF b = false := by simpa using h
      rw [if_pos h]; exact ⟨rfl, rfl, hs⟩
    have hnm : nameF b = true := by simpa using h
    rw [if_neg (by rw [hnm]; simp)]
    have hok' : okA (if a = b then A else { A with fs := insF { A.fs[i] with name := b } (dropF b (dropF a A.fs)) }) := by
      split
      · exact hok
      · rename_i hab
        rw [← hin]
        exact okA_ren hok (List.getElem_mem hi) b (by rw [hin]; exact hab) (nameF_size hnm)
    have hg' : (if a = b then A else { A with fs := insF { A.fs[i] with name := b } (dropF b (dropF a A.fs)) }).gone = false := by split <;> exact hg
    refine wp_mid (fun _ w' => Sat w' (rdk q (if a = b then A else { A with fs := insF { A.fs[i] with name := b } (dropF b (dropF a A.fs)) }) :: r)) ?_ ?_
    · refine wp_if (fun hab => ?_) fun hab => ?_
      · rw [if_neg hab]
        obtain ⟨x, hs⟩ := rdk_open hs
        have hl := hs.slen x (xs := A.fs) (enc := encF)
        (repeat (first | with_reducible (first | refine wp_on ?_ | refine wp_nn ?_ | refine wp_nng ?_ | refine wp_ldO hs ?_ | refine wp_ldG hs ?_ | refine wp_untick ?_ | refine wp_tk hs fun _ hs => ?_ | refine wp_newO hs fun _ _ hs => ?_ | refine wp_boxO hs fun _ _ hs => ?_ | refine wp_stO hs fun _ hs => ?_ | refine wp_stG hs fun _ hs => ?_) | (apply wp_must; (focus first | trivial | omega | assumption)) | refine wp_ltw ?_ | refine wp_lt ?_))
        refine wp_ixA hs i hi ?_
        refine wp_newO hs fun c w' hs => ?_
        refine wp_stG hs fun w' hs => ?_
        refine wp_stO hs fun w' hs => ?_
        have hs : Sat w' (rdk q A :: pt c (.cells #[.string b, .string (bytesOf A.fs[i].b), .int .i64 A.fs[i].kept] T.towpathref04_File) :: r) := rdk_close x hs
        have hd1 := dropF_len a A.fs
        have hd2 := dropF_len b (dropF a A.fs)
        refine wp_call (without_c a (by omega) hs) fun _ _ hs => ?_
        obtain ⟨rfl, hs⟩ := hs
        refine ret_of ?_
        refine wp_call (without_c (A := { A with fs := dropF a A.fs }) b (Nat.le_trans hd1 (by omega)) hs) fun _ _ hs => ?_
        obtain ⟨rfl, hs⟩ := hs
        refine ret_of ?_
        refine wp_ldG hs ?_
        refine wp_call (with_c (A := { A with fs := dropF b (dropF a A.fs) }) { A.fs[i] with name := b } (Nat.le_trans hd2 (Nat.le_trans hd1 (by omega))) hs) fun _ _ hs => ?_
        obtain ⟨rfl, hs⟩ := hs
        refine ret_of ?_
        exact wp_lv hs.sub
      · rw [if_pos (Decidable.not_not.1 hab)]
        exact wp_lv hs
    clear hs
    rintro _ w hs
    refine wp_on ?_
    refine wp_call (rdone_c hok' hg' hs) fun _ _ hs => ?_
    obtain ⟨rfl, hs⟩ := hs
    refine ret_of ?_
    (repeat (first | with_reducible (first | refine wp_on ?_ | refine wp_nn ?_ | refine wp_nng ?_ | refine wp_ldO hs ?_ | refine wp_ldG hs ?_ | refine wp_untick ?_ | refine wp_tk hs fun _ hs => ?_ | refine wp_newO hs fun _ _ hs => ?_ | refine wp_boxO hs fun _ _ hs => ?_ | refine wp_stO hs fun _ hs => ?_ | refine wp_stG hs fun _ hs => ?_) | (apply wp_must; (focus first | trivial | omega | assumption)) | refine wp_ltw ?_ | refine wp_lt ?_))
    exact ⟨rfl, rfl, hs⟩

end
end Go.Dec
