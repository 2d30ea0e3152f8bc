/- Isolation: Copy; IsoApart. -/
import Derived.Test.YtpjfebedfejmgaaGreatP1
import Derived.Test.YtpjfebedfejmgaaGreatM3
namespace Go.Dec
set_option linter.unusedVariables false
set_option linter.unusedSimpArgs false

section
variable {w : World} {l r : List HP} {v q : Nat} {A : ViewA}
theorem icopy_c [hf : Fo l vw v A r] (hs : Sat w l) : Ret P F.iso_View_Copy #[.pointer (some ⟨v, 0, none⟩)] w fun vs w' => ∃ u : Nat, vs = [.pointer (some ⟨u, 0, none⟩)] ∧ Sat w' (vw u A :: vw v A :: r) :=
  iso_View_Copy_calls _ <| by
    unfold iso_View_Copy
    obtain ⟨m1, m2, hok, hs⟩ := vw_open (hs.perm hf.perm)
    refine wp_ifF ?_ (by simp)
    refine wp_mid (fun x w' => ∃ u : Nat, x = (some ⟨u, 0, none⟩, ()) ∧ Sat w' (vw u A :: vw v A :: r)) ?_ (by rintro _ w' ⟨u, rfl, hs⟩; refine wp_on ?_; exact ⟨rfl, u, rfl, hs⟩)
    refine wp_tk hs fun w' hs => ?_
    refine wp_nn ?_
    refine wp_hdO hs ?_
    refine wp_nn ?_
    refine wp_ldO hs ?_
    refine wp_nn ?_
    refine wp_hdO hs ?_
    refine wp_call (clone1_c m1 (opK A) (hs.pick [1])) fun _ w' h => ?_
    obtain ⟨n1, rfl, hs⟩ := h
    refine ret_of ?_ ⟨⟨trivial, fun _ => run_ldO hs⟩, fun _ => run_ldO hs⟩
    have hs : Sat w' (mapP ekK evX m2 (faK A) :: mapP ekI evX n1 (opK A) :: mapP ekI evX m1 (opK A) :: pt v (.cells #[.int .i64 A.next, .map (some m1), .map (some m2)] T.iso_View) :: r) := hs.sub
    refine wp_call (clone2_c m2 (faK A) hs) fun _ w' h => ?_
    obtain ⟨n2, rfl, hs⟩ := h
    refine ret_of ?_ ⟨⟨trivial, fun _ => run_ldO hs⟩, fun _ => run_ldO hs⟩
    refine wp_untick ?_
    refine wp_boxO hs fun u w' hs => ?_
    refine wp_untick ?_
    refine wp_lv ⟨u, rfl, ?_⟩
    have hs : Sat w' (pt u (.cells #[.int .i64 A.next, .map (some n1), .map (some n2)] T.iso_View) :: mapP ekI evX n1 (opK A) :: mapP ekK evX n2 (faK A) :: pt v (.cells #[.int .i64 A.next, .map (some m1), .map (some m2)] T.iso_View) :: mapP ekI evX m1 (opK A) :: mapP ekK evX m2 (faK A) :: r) := hs.sub
    have hs := vw_mk n1 n2 A hok (.refl _) (.refl _) hs
    have hs := vw_mk m1 m2 A hok (.refl _) (.refl _) (hs.pick [1, 1, 1])
    exact hs.pick [1]

theorem dcopy_c (hok : okV A) [hf : Fo l dwP q A r] (hs : Sat w l) : Ret P F.towpathref08_View_Copy #[.pointer (some ⟨q, 0, none⟩)] w fun vs w' => ∃ u : Nat, vs = [.pointer (some ⟨u, 0, none⟩)] ∧ Sat w' (dwP u A :: dwP q A :: r) :=
  towpathref08_View_Copy_calls _ <| by
    unfold towpathref08_View_Copy
    obtain ⟨x, y, hs⟩ := dw_open (hs.perm hf.perm)
    have hmany := hok.many
    refine wp_nn ?_
    refine wp_ldO hs ?_
    refine wp_boxO hs fun u w' hs => ?_
    refine wp_mid (fun _ w' => ∃ z : Sl, Sat w' (pt u (.cells #[.int .i64 A.next, .slice z.a z.len z.cap, .slice none 0 0] T.towpathref08_View) :: slc T.towpathref08_Txn 4 z (A.op.flatMap encX) :: pt q (.cells #[.int .i64 A.next, .slice x.a x.len x.cap, .slice y.a y.len y.cap] T.towpathref08_View) :: slc T.towpathref08_Txn 4 x (A.op.flatMap encX) :: slc T.towpathref08_Txn 4 y (A.fa.flatMap encX) :: r)) ?_ ?_
    · have hs : Sat w' (slc T.towpathref08_Txn 4 ⟨none, 0, 0⟩ (([] : List TxnA).flatMap encX) :: pt u (.cells #[.int .i64 A.next, .slice none 0 0, .slice none 0 0] T.towpathref08_View) :: pt q (.cells #[.int .i64 A.next, .slice x.a x.len x.cap, .slice y.a y.len y.cap] T.towpathref08_View) :: slc T.towpathref08_Txn 4 x (A.op.flatMap encX) :: slc T.towpathref08_Txn 4 y (A.fa.flatMap encX) :: r) := hs.slc_nil
      refine wp_tk hs fun w' hs => ?_
      refine wp_ldO (x := (⟨none, 0, 0⟩ : Sl)) hs ?_
      refine wp_nn ?_
      refine wp_ldO hs ?_
      refine wp_app' (x := ⟨none, 0, 0⟩) (xs := []) (ys := A.op) (enc := encX) (y := x) hs (fun z w' hs => ?_) (by simp; omega)
      rw [List.nil_append] at hs
      refine wp_stO hs fun w' hs => ?_
      refine wp_untick ?_
      exact wp_lv ⟨z, hs⟩
    clear hs
    rintro _ w ⟨z, hs⟩
    refine wp_on ?_
    have hs : Sat w (slc T.towpathref08_Txn 4 ⟨none, 0, 0⟩ (([] : List TxnA).flatMap encX) :: pt u (.cells #[.int .i64 A.next, .slice z.a z.len z.cap, .slice none 0 0] T.towpathref08_View) :: slc T.towpathref08_Txn 4 z (A.op.flatMap encX) :: pt q (.cells #[.int .i64 A.next, .slice x.a x.len x.cap, .slice y.a y.len y.cap] T.towpathref08_View) :: slc T.towpathref08_Txn 4 x (A.op.flatMap encX) :: slc T.towpathref08_Txn 4 y (A.fa.flatMap encX) :: r) := hs.slc_nil
    refine wp_mid (fun _ w' => Sat w' (dwP u A :: dwP q A :: r)) ?_ (by rintro _ w' hs; refine wp_on ?_; exact ⟨rfl, u, rfl, hs⟩)
    refine wp_tk hs fun w' hs => ?_
    refine wp_ldO (x := (⟨none, 0, 0⟩ : Sl)) hs ?_
    refine wp_nn ?_
    refine wp_ldO hs ?_
    refine wp_app' (x := ⟨none, 0, 0⟩) (xs := []) (ys := A.fa) (enc := encX) (y := y) hs (fun z2 w' hs => ?_) (by simp; omega)
    rw [List.nil_append] at hs
    refine wp_stO hs fun w' hs => ?_
    refine wp_untick ?_
    refine wp_lv ?_
    have hs : Sat w' (pt u (.cells #[.int .i64 A.next, .slice z.a z.len z.cap, .slice z2.a z2.len z2.cap] T.towpathref08_View) :: slc T.towpathref08_Txn 4 z2 (A.fa.flatMap encX) :: slc T.towpathref08_Txn 4 z (A.op.flatMap encX) :: pt q (.cells #[.int .i64 A.next, .slice x.a x.len x.cap, .slice y.a y.len y.cap] T.towpathref08_View) :: slc T.towpathref08_Txn 4 x (A.op.flatMap encX) :: slc T.towpathref08_Txn 4 y (A.fa.flatMap encX) :: r) := hs
    have hs := dw_close A (hs.pick [0, 1])
    exact (dw_close A (hs.pick [1, 1, 1])).pick [1]

theorem apart8_law (x y z : Sl) (ops on off : List OpI) [hx : FocR l x 10 (ops.flatMap encO)] [hy : FocR l y 10 (on.flatMap encO)] [hz : FocR l z 10 (off.flatMap encO)]
    (hlen : ops.length ≤ 9223372036854775807) (hlen2 : on.length ≤ 9223372036854775807) (hlen3 : off.length ≤ 9223372036854775807) (hops : ∀ o ∈ ops, OpJ l o) (hon : ∀ o ∈ on, OpJ l o) (hoff : ∀ o ∈ off, OpJ l o) (hs : Sat w l) :
    Ret P F.towpathlaw08_IsoApart #[x.v, y.v, z.v] w fun vs w' => vs = [.bool true] ∧ Sat w' l :=
  towpathlaw08_IsoApart_calls x y z <| by
    unfold towpathlaw08_IsoApart
    have hl := hs.slen x (xs := ops) (enc := encO)
    have hl2 := hs.slen y (xs := on) (enc := encO)
    have hl3 := hs.slen z (xs := off) (enc := encO)
    refine wp_call (inew_c hs) fun _ _ hs => ?_
    obtain ⟨t, rfl, hs⟩ := hs
    refine ret_of ?_
    refine wp_boxO hs fun q w' hs => ?_
    have hs : Sat w' (vw t ⟨0, [], []⟩ :: dwP q ⟨0, [], []⟩ :: l) := by
      have h1 := ((hs.slc_nil (T := T.towpathref08_Txn) (sz := 4)).slc_nil (T := T.towpathref08_Txn) (sz := 4)).pick [2, 0, 0]
      exact (dw_close (q := q) ⟨0, [], []⟩ (x := ⟨none, 0, 0⟩) (y := ⟨none, 0, 0⟩) h1).pick [1]
    refine wp_lt ?_
    refine wp_mid (fun u w' => ∃ (t : Nat) (A : ViewA), u = (some ⟨t, 0, none⟩, true, ()) ∧ Sat w' (vw t A :: dwP q A :: l)) ?_ ?_
    · refine wp_loop (fun k u w => ∃ (i t : Nat) (A : ViewA), u = (some ⟨t, 0, none⟩, true, (i : Int), ()) ∧ i ≤ ops.length ∧ ops.length - i = k ∧ Sat w (vw t A :: dwP q A :: l)) ops.length
        ⟨0, t, _, rfl, by omega, rfl, hs⟩ ?_
      clear hs
      rintro k _ w ⟨i, t, A, rfl, hi, hk, hs⟩
      refine wp_on ?_
      refine wp_if (fun hc => ?_) fun hc => ?_
      rotate_left
      · exact wp_pass (wp_lv ⟨t, A, rfl, hs⟩)
      have hil : i < ops.length := by omega
      have hin := hops _ (List.getElem_mem hil)
      have hR : FocR l ops[i].b.x 4 (ops[i].b.rs.flatMap encR) := ⟨hin.rd⟩
      refine wp_ixA hs (xs := ops) (enc := encO) i hil ?_
      refine wp_call (step_c ops[i] hs) fun _ w' h => ?_
      obtain ⟨t', A', rfl, hs⟩ := h
      refine ret_of ?_
      refine wp_lt ?_
      refine wp_ltx (y := ((i + 1 : Nat) : Int)) ?_ (by rw [w64 (by omega) (by omega)]; omega)
      refine wp_lp (ops.length - (i + 1)) ?_
      exact ⟨i + 1, t', A', rfl, by omega, rfl, hs⟩
    clear hs
    rintro _ w ⟨t, A, rfl, hs⟩
    refine wp_on ?_
    have hok := vw_ok hs
    refine wp_ifF ?_ (by simp)
    refine wp_call (icopy_c (v := t) hs) fun _ w' h => ?_
    obtain ⟨t2, rfl, hs⟩ := h
    refine ret_of ?_
    refine wp_call (dcopy_c (q := q) hok hs) fun _ w' h => ?_
    obtain ⟨q2, rfl, hs⟩ := h
    refine ret_of ?_
    have hs : Sat w' (vw t A :: dwP q A :: vw t2 A :: dwP q2 A :: l) := hs.sub
    refine wp_mid (fun u w' => u = (true, ()) ∧ Sat w' l) ?_ ?_
    rotate_left
    · rintro _ w' ⟨rfl, hs⟩
      refine wp_on ?_
      refine wp_mid (fun u w' => u = (true, ()) ∧ Sat w' l) ?_ (by rintro _ w' ⟨rfl, hs⟩; refine wp_on ?_; exact ⟨rfl, rfl, hs⟩)
      refine wp_ifT ?_ trivial
      refine wp_call (awake8 hs) fun _ _ hs => ?_
      obtain ⟨rfl, hs⟩ := hs
      refine ret_of ?_
      refine wp_lt ?_
      exact wp_lv ⟨rfl, hs⟩
    refine wp_loop (fun k u w => ∃ (i t t2 : Nat) (A B : ViewA), u = (some ⟨t, 0, none⟩, true, some ⟨t2, 0, none⟩, (i : Int), ()) ∧ i ≤ 20 ∧ 20 - i = k ∧ Sat w (vw t A :: dwP q A :: vw t2 B :: dwP q2 B :: l)) 20
      ⟨0, t, t2, A, A, rfl, by omega, rfl, hs⟩ ?_
    clear hs hok
    rintro k _ w ⟨i, t, t2, A, B, rfl, hi, hk, hs⟩
    refine wp_on ?_
    refine wp_if (fun hc => ?_) fun hc => ?_
    rotate_left
    · exact wp_pass (wp_lv ⟨rfl, hs.tail.tail.tail.tail⟩)
    refine wp_mid (fun u w' => ∃ (t : Nat) (A : ViewA), u = (some ⟨t, 0, none⟩, true, ()) ∧ Sat w' (vw t A :: dwP q A :: vw t2 B :: dwP q2 B :: l)) ?_ ?_
    · refine wp_if (fun h => ?_) fun h => ?_
      · have hil : i < on.length := by omega
        have hin := hon _ (List.getElem_mem hil)
        have hR : FocR l on[i].b.x 4 (on[i].b.rs.flatMap encR) := ⟨hin.rd⟩
        refine wp_ixA hs (xs := on) (enc := encO) i hil ?_
        refine wp_call (step_c on[i] hs) fun _ w' h => ?_
        obtain ⟨t', A', rfl, hs⟩ := h
        refine ret_of ?_
        refine wp_lt ?_
        exact wp_lv ⟨t', A', rfl, hs⟩
      · exact wp_lv ⟨t, A, rfl, hs⟩
    clear hs
    rintro _ w ⟨t, A, rfl, hs⟩
    refine wp_on ?_
    refine wp_mid (fun u w' => ∃ (t2 : Nat) (B : ViewA), u = (true, some ⟨t2, 0, none⟩, ()) ∧ Sat w' (vw t A :: dwP q A :: vw t2 B :: dwP q2 B :: l)) ?_ ?_
    · refine wp_if (fun h => ?_) fun h => ?_
      · have hil : i < off.length := by omega
        have hin := hoff _ (List.getElem_mem hil)
        have hR : FocR l off[i].b.x 4 (off[i].b.rs.flatMap encR) := ⟨hin.rd⟩
        refine wp_ixA hs (xs := off) (enc := encO) i hil ?_
        have hs : Sat w (vw t2 B :: dwP q2 B :: vw t A :: dwP q A :: l) := hs.pick [2, 2]
        refine wp_call (step_c off[i] hs) fun _ w' h => ?_
        obtain ⟨t', B', rfl, hs⟩ := h
        refine ret_of ?_
        refine wp_lt ?_
        exact wp_lv ⟨t', B', rfl, hs.pick [2, 2]⟩
      · exact wp_lv ⟨t2, B, rfl, hs⟩
    clear hs
    rintro _ w ⟨t2, B, rfl, hs⟩
    refine wp_on ?_
    refine wp_mid (fun u w' => u = (true, ()) ∧ Sat w' (vw t A :: dwP q A :: vw t2 B :: dwP q2 B :: l)) ?_ ?_
    · refine wp_ifT ?_ trivial
      refine wp_call (same_c ⟨none, 0, 0⟩ ([] : List BatM) hs (hx := .nil' 7) (by simp) (by simp) (by simp)) fun _ _ hs => ?_
      obtain ⟨rfl, hs⟩ := hs
      refine ret_of ?_
      refine wp_ifT ?_ trivial
      have hs : Sat _ (vw t2 B :: dwP q2 B :: vw t A :: dwP q A :: l) := hs.pick [2, 2]
      refine wp_call (same_c ⟨none, 0, 0⟩ ([] : List BatM) hs (hx := .nil' 7) (by simp) (by simp) (by simp)) fun _ _ hs => ?_
      obtain ⟨rfl, hs⟩ := hs
      refine ret_of ?_
      refine wp_lt ?_
      exact wp_lv ⟨rfl, hs.pick [2, 2]⟩
    clear hs
    rintro _ w ⟨rfl, hs⟩
    refine wp_on ?_
    refine wp_ltx (y := ((i + 1 : Nat) : Int)) ?_ (by rw [w64 (by omega) (by omega)]; omega)
    refine wp_lp (20 - (i + 1)) ?_
    exact ⟨i + 1, t, t2, A, B, rfl, by omega, rfl, hs⟩
end
end Go.Dec
