/- Disks: the document's: with, without, Remove, Append, Fuse, Copy. -/
import Derived.Test.YtnfaklmndojeaaaD9
namespace Go.Dec
set_option linter.unusedVariables false
set_option linter.unusedSimpArgs false

theorem insF_app (x : FileA) (l2 : List FileA) : ∀ pre : List FileA, insF x (pre ++ l2) = if pre.any (fun f => ltS x.name f.name) then insF x pre ++ l2 else pre ++ insF x l2
  | [] => rfl
  | f :: r => by
    rw [List.cons_append, insF, insF, List.any_cons]
    by_cases h : ltS x.name f.name = true
    · rw [if_pos h, if_pos h, h]; rfl
    · rw [if_neg h, if_neg h, insF_app x l2 r]
      have h : ltS x.name f.name = false := by simpa using h
      rw [h, Bool.false_or]
      split <;> rfl
def inF (x : FileA) (fs : List FileA) : Bool := fs.any fun f => ltS x.name f.name
theorem insF_in {x : FileA} {fs : List FileA} (h : inF x fs = false) : insF x fs = fs ++ [x] := by
  have := insF_app x [] fs
  rw [List.append_nil] at this
  rw [this]
  unfold inF at h
  rw [if_neg (by rw [h]; simp)]; rfl
theorem insF_length (x : FileA) (fs : List FileA) : (insF x fs).length = fs.length + 1 := (insF_perm x fs).length_eq
theorem ltS_not (a b : ByteArray) : ¬ (Op.bytesLess (ByteArray.toList a) (ByteArray.toList b) = true ∨ a = b) ↔ ltS b a = true := by
  constructor
  · intro h
    rcases ltS_total b a with h1 | h1 | h1
    · exact h1
    · exact absurd (.inr h1.symm) h
    · exact absurd (.inl h1) h
  · rintro h (h1 | rfl)
    · have := ltS_asymm h; rw [show ltS a b = true from h1] at this; cases this
    · rw [ltS_irrefl] at h; cases h

section
variable {w : World} {l r : List HP} {q : Nat} {A : DiskA}

theorem with_c (y : FileA) (hm : A.fs.length ≤ 200) [hf : Fo l rdk q A r] (hs : Sat w l) : Ret P F.towpathref04_Disk_with #[.pointer (some ⟨q, 0, none⟩), .agg #[.string y.name, .string (bytesOf y.b), .int .i64 y.kept]] w fun vs w' =>
    vs = [] ∧ Sat w' (rdk q { A with fs := insF y A.fs } :: r) :=
  towpathref04_Disk_with_calls _ y.name (bytesOf y.b) y.kept <| by
    unfold towpathref04_Disk_with
    obtain ⟨x, hs⟩ := rdk_open (hs.perm hf.perm)
    have hl := hs.slen x (xs := A.fs) (enc := encF)
    refine wp_boxO hs fun c w' hs => ?_
    (repeat (first | with_reducible (first | refine wp_on ?_ | refine wp_nn ?_ | refine wp_nng ?_ | refine wp_ldO hs ?_ | refine wp_ldG hs ?_ | refine wp_untick ?_ | refine wp_tk hs fun _ hs => ?_ | refine wp_newO hs fun _ _ hs => ?_ | refine wp_boxO hs fun _ _ hs => ?_ | refine wp_stO hs fun _ hs => ?_ | refine wp_stG hs fun _ hs => ?_) | (apply wp_must; (focus first | trivial | omega | assumption)) | refine wp_ltw ?_ | refine wp_lt ?_))
    refine wp_mid (fun v w' => ∃ z : Sl, v = (z, inF y A.fs, ()) ∧ Sat w' (slc T.towpathref04_File 3 z ((if inF y A.fs then insF y A.fs else A.fs).flatMap encF) :: pt c (.cells #[.string y.name, .string (bytesOf y.b), .int .i64 y.kept] T.towpathref04_File) :: pt q (.cells #[.int .i64 A.room, x.v, .int .i64 A.left, .bool A.gone] T.towpathref04_Disk) :: r)) ?_ ?_
    · refine wp_loop (fun k v w => ∃ (i : Nat) (z : Sl), v = (z, inF y (A.fs.take i), (i : Int), ()) ∧ i ≤ A.fs.length ∧ A.fs.length - i = k ∧
          Sat w (slc T.towpathref04_File 3 z ((if inF y (A.fs.take i) then insF y (A.fs.take i) else A.fs.take i).flatMap encF) :: pt c (.cells #[.string y.name, .string (bytesOf y.b), .int .i64 y.kept] T.towpathref04_File) :: pt q (.cells #[.int .i64 A.room, x.v, .int .i64 A.left, .bool A.gone] T.towpathref04_Disk) :: slc T.towpathref04_File 3 x (A.fs.flatMap encF) :: r)) A.fs.length
        ⟨0, ⟨none, 0, 0⟩, rfl, by omega, rfl, hs.slc_nil⟩ ?_
      clear hs
      rintro k _ w ⟨i, z, rfl, hi, hk, hs⟩
      refine wp_on ?_
      refine wp_if (fun hc => ?_) fun hc => ?_
      · have hil : i < A.fs.length := by omega
        refine wp_ixA hs i hil ?_
        refine wp_newO hs fun b w' hs => ?_
        refine wp_stG hs fun w' hs => ?_
        refine wp_ldO hs ?_
        refine wp_ldO hs ?_
        have hin : inF y (A.fs.take (i + 1)) = (inF y (A.fs.take i) || ltS y.name A.fs[i].name) := by
          unfold inF
          rw [List.take_add_one, List.getElem?_eq_getElem hil, List.any_append]; simp
        have hto : A.fs.take (i + 1) = A.fs.take i ++ [A.fs[i]] := by rw [List.take_add_one, List.getElem?_eq_getElem hil]; rfl
        have hln : (A.fs.take i).length ≤ 200 := by rw [List.length_take]; omega
        have hln2 := insF_length y (A.fs.take i)
        have hins := insF_app y [A.fs[i]] (A.fs.take i)
        have hins : insF y (A.fs.take (i + 1)) = if inF y (A.fs.take i) then insF y (A.fs.take i) ++ [A.fs[i]] else A.fs.take i ++ insF y [A.fs[i]] := by rw [hto]; exact hins
        refine wp_mid (fun v w' => ∃ z : Sl, v = (z, inF y (A.fs.take (i + 1)), ()) ∧
          Sat w' (slc T.towpathref04_File 3 z ((if inF y (A.fs.take i) then insF y (A.fs.take i) else if ltS y.name A.fs[i].name then A.fs.take i ++ [y] else A.fs.take i).flatMap encF) :: pt b (.cells #[.string A.fs[i].name, .string (bytesOf A.fs[i].b), .int .i64 A.fs[i].kept] T.towpathref04_File) :: pt c (.cells #[.string y.name, .string (bytesOf y.b), .int .i64 y.kept] T.towpathref04_File) :: pt q (.cells #[.int .i64 A.room, x.v, .int .i64 A.left, .bool A.gone] T.towpathref04_Disk) :: slc T.towpathref04_File 3 x (A.fs.flatMap encF) :: r)) ?_ ?_
        · refine wp_if (fun h => ?_) fun h => ?_
          · obtain ⟨h1, h2⟩ := h
            have h1 : inF y (A.fs.take i) = false := by simpa using h1
            have h2 := (ltS_not _ _).1 h2
            rw [h1] at hs hin ⊢
            rw [h2] at hin ⊢
            refine wp_ldG hs ?_
            refine wp_ap0 hs (xs := A.fs.take i) (enc := encF) y (fun z w' hs => ?_)
            refine wp_lv ⟨z, by rw [hin]; rfl, ?_⟩
            rw [if_neg (by simp), if_pos rfl]
            exact hs.sub
          · refine wp_lv ⟨z, ?_, ?_⟩
            · rw [hin]
              by_cases h1 : inF y (A.fs.take i) = true
              · rw [h1]; rfl
              · have h1 : inF y (A.fs.take i) = false := by simpa using h1
                have h2 : ltS y.name A.fs[i].name = false := by
                  cases h3 : ltS y.name A.fs[i].name with
                  | false => rfl
                  | true => exact absurd ⟨by rw [h1]; simp, (ltS_not _ _).2 h3⟩ h
                rw [h1, h2]; rfl
            · by_cases h1 : inF y (A.fs.take i) = true
              · rw [if_pos h1] at hs ⊢; exact hs.sub
              · have h1' : inF y (A.fs.take i) = false := by simpa using h1
                have h2 : ¬ ltS y.name A.fs[i].name = true := fun h3 => h ⟨by rw [h1']; simp, (ltS_not _ _).2 h3⟩
                rw [if_neg h1] at hs
                rw [if_neg h1, if_neg h2]; exact hs.sub
        clear hs
        rintro _ w ⟨z, rfl, hs⟩
        refine wp_on ?_
        refine wp_ldG hs ?_
        refine wp_ap0 hs (enc := encF) A.fs[i] (fun z w' hs => ?_) rfl (by
          constructor
          · split
            · omega
            · split
              · rw [List.length_append]; simp; omega
              · omega
          · split
            · omega
            · split
              · rw [List.length_append]; simp; omega
              · omega)
        refine wp_dn (us' := [z.v, .bool (inF y (A.fs.take (i + 1))), .int .i64 ((i + 1 : Nat) : Int)]) (by (try simp (disch := omega) only [w64]); first | rfl | (congr; omega)) ?_
        refine wp_lp (A.fs.length - (i + 1)) ?_
        refine ⟨i + 1, z, rfl, by omega, rfl, ?_⟩
        have e : ((if inF y (A.fs.take i) then insF y (A.fs.take i) else if ltS y.name A.fs[i].name then A.fs.take i ++ [y] else A.fs.take i) ++ [A.fs[i]]) = (if inF y (A.fs.take (i + 1)) then insF y (A.fs.take (i + 1)) else A.fs.take (i + 1)) := by
          rw [hin]
          by_cases h1 : inF y (A.fs.take i) = true
          · rw [if_pos h1, h1, Bool.true_or, if_pos rfl, hins, if_pos h1]
          · have h1' : inF y (A.fs.take i) = false := by simpa using h1
            rw [if_neg h1, h1', Bool.false_or]
            by_cases h2 : ltS y.name A.fs[i].name = true
            · rw [if_pos h2, if_pos h2, hins, if_neg h1]
              simp [insF, h2]
            · rw [if_neg h2, if_neg h2, hto]
        rw [e] at hs
        exact hs.sub
      · refine wp_pass (wp_lv ⟨z, ?_, ?_⟩)
        · rw [List.take_of_length_le (by omega)]
        · rw [List.take_of_length_le (by omega)] at hs
          exact hs.sub
    clear hs
    rintro _ w ⟨z, rfl, hs⟩
    refine wp_on ?_
    refine wp_mid (fun v w' => ∃ z : Sl, v = (z, ()) ∧ Sat w' (slc T.towpathref04_File 3 z ((insF y A.fs).flatMap encF) :: pt q (.cells #[.int .i64 A.room, x.v, .int .i64 A.left, .bool A.gone] T.towpathref04_Disk) :: r)) ?_ ?_
    · refine wp_if (fun h => ?_) fun h => ?_
      · have h : inF y A.fs = false := by simpa using h
        rw [if_neg (by rw [h]; simp)] at hs
        refine wp_ldG hs ?_
        refine wp_ap0 hs (xs := A.fs) (enc := encF) y (fun z w' hs => ?_)
        refine wp_lv ⟨z, rfl, ?_⟩
        rw [insF_in h]
        exact hs.sub
      · have h : inF y A.fs = true := by simpa using h
        rw [if_pos h] at hs
        exact wp_lv ⟨z, rfl, hs.sub⟩
    clear hs
    rintro _ w ⟨z, rfl, hs⟩
    refine wp_on ?_
    (repeat (first | with_reducible (first | refine wp_on ?_ | refine wp_nn ?_ | refine wp_nng ?_ | refine wp_ldO hs ?_ | refine wp_ldG hs ?_ | refine wp_untick ?_ | refine wp_tk hs fun _ hs => ?_ | refine wp_newO hs fun _ _ hs => ?_ | refine wp_boxO hs fun _ _ hs => ?_ | refine wp_stO hs fun _ hs => ?_ | refine wp_stG hs fun _ hs => ?_) | (apply wp_must; (focus first | trivial | omega | assumption)) | refine wp_ltw ?_ | refine wp_lt ?_))
    exact ⟨rfl, rfl, rdk_close z (A := { A with fs := insF y A.fs }) hs⟩

theorem without_c (n : ByteArray) (hm : A.fs.length ≤ 200) [hf : Fo l rdk q A r] (hs : Sat w l) : Ret P F.towpathref04_Disk_without #[.pointer (some ⟨q, 0, none⟩), .string n] w fun vs w' => vs = [] ∧ Sat w' (rdk q { A with fs := dropF n A.fs } :: r) :=
  towpathref04_Disk_without_calls _ n <| by
    unfold towpathref04_Disk_without
    obtain ⟨x, hs⟩ := rdk_open (hs.perm hf.perm)
    have hl := hs.slen x (xs := A.fs) (enc := encF)
    (repeat (first | with_reducible (first | refine wp_on ?_ | refine wp_nn ?_ | refine wp_nng ?_ | refine wp_ldO hs ?_ | refine wp_ldG hs ?_ | refine wp_untick ?_ | refine wp_tk hs fun _ hs => ?_ | refine wp_newO hs fun _ _ hs => ?_ | refine wp_boxO hs fun _ _ hs => ?_ | refine wp_stO hs fun _ hs => ?_ | refine wp_stG hs fun _ hs => ?_) | (apply wp_must; (focus first | trivial | omega | assumption)) | refine wp_ltw ?_ | refine wp_lt ?_))
    refine wp_mid (fun v w' => ∃ z : Sl, v = (z, ()) ∧ Sat w' (slc T.towpathref04_File 3 z ((dropF n A.fs).flatMap encF) :: pt q (.cells #[.int .i64 A.room, x.v, .int .i64 A.left, .bool A.gone] T.towpathref04_Disk) :: r)) ?_ ?_
    · refine wp_loop (fun k v w => ∃ (i : Nat) (z : Sl), v = (z, (i : Int), ()) ∧ i ≤ A.fs.length ∧ A.fs.length - i = k ∧
          Sat w (slc T.towpathref04_File 3 z ((dropF n (A.fs.take i)).flatMap encF) :: pt q (.cells #[.int .i64 A.room, x.v, .int .i64 A.left, .bool A.gone] T.towpathref04_Disk) :: slc T.towpathref04_File 3 x (A.fs.flatMap encF) :: r)) A.fs.length
        ⟨0, ⟨none, 0, 0⟩, rfl, by omega, rfl, hs.slc_nil⟩ ?_
      clear hs
      rintro k _ w ⟨i, z, rfl, hi, hk, hs⟩
      refine wp_on ?_
      refine wp_if (fun hc => ?_) fun hc => ?_
      · have hil : i < A.fs.length := by omega
        refine wp_ixA hs i hil ?_
        refine wp_newO hs fun b w' hs => ?_
        refine wp_stG hs fun w' hs => ?_
        refine wp_ldO hs ?_
        have hdl := dropF_len n (A.fs.take i)
        have hto : dropF n (A.fs.take (i + 1)) = dropF n (A.fs.take i) ++ (if A.fs[i].name = n then [] else [A.fs[i]]) := by
          rw [List.take_add_one, List.getElem?_eq_getElem hil]
          unfold dropF
          rw [List.filter_append]
          congr 1
          by_cases h : A.fs[i].name = n
          · rw [if_pos h]; simp [h]
          · rw [if_neg h]; simp [h]
        rw [List.length_take] at hdl
        refine wp_mid (fun v w' => ∃ z : Sl, v = (z, ()) ∧ Sat w' (slc T.towpathref04_File 3 z ((dropF n (A.fs.take (i + 1))).flatMap encF) :: pt q (.cells #[.int .i64 A.room, x.v, .int .i64 A.left, .bool A.gone] T.towpathref04_Disk) :: slc T.towpathref04_File 3 x (A.fs.flatMap encF) :: r)) ?_ ?_
        · refine wp_if (fun h => ?_) fun h => ?_
          · refine wp_ldG hs ?_
            refine wp_ap0 hs (enc := encF) A.fs[i] (fun z w' hs => ?_)
            refine wp_lv ⟨z, rfl, ?_⟩
            rw [hto, if_neg h]
            exact hs.sub
          · refine wp_lv ⟨z, rfl, ?_⟩
            rw [hto, if_pos (Decidable.not_not.1 h), List.append_nil]
            exact hs.sub
        clear hs
        rintro _ w ⟨z, rfl, hs⟩
        refine wp_on ?_
        refine wp_dn (us' := [z.v, .int .i64 ((i + 1 : Nat) : Int)]) (by (try simp (disch := omega) only [w64]); first | rfl | (congr; omega)) ?_
        refine wp_lp (A.fs.length - (i + 1)) ?_
        exact ⟨i + 1, z, rfl, by omega, rfl, hs⟩
      · refine wp_pass (wp_lv ⟨z, rfl, ?_⟩)
        rw [List.take_of_length_le (by omega)] at hs
        exact hs.sub
    clear hs
    rintro _ w ⟨z, rfl, hs⟩
    refine wp_on ?_
    (repeat (first | with_reducible (first | refine wp_on ?_ | refine wp_nn ?_ | refine wp_nng ?_ | refine wp_ldO hs ?_ | refine wp_ldG hs ?_ | refine wp_untick ?_ | refine wp_tk hs fun _ hs => ?_ | refine wp_newO hs fun _ _ hs => ?_ | refine wp_boxO hs fun _ _ hs => ?_ | refine wp_stO hs fun _ hs => ?_ | refine wp_stG hs fun _ hs => ?_) | (apply wp_must; (focus first | trivial | omega | assumption)) | refine wp_ltw ?_ | refine wp_lt ?_))
    exact ⟨rfl, rfl, rdk_close z (A := { A with fs := dropF n A.fs }) hs⟩

end
end Go.Dec
