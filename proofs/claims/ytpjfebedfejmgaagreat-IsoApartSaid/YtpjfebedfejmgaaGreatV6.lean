/- Isolation: views as bytes, the program's and the document's. -/
import Derived.Test.YtpjfebedfejmgaaGreatV5
import Derived.Test.YtpjfebedfejmgaaGreatWr3
namespace Go.Dec
set_option linter.unusedVariables false
set_option linter.unusedSimpArgs false

def enc3 (t : TxnA) : List UInt8 := uI t.pid ++ (uI t.epoch ++ uI t.first)
def enc4 (t : TxnA) : List UInt8 := uI t.pid ++ (uI t.epoch ++ (uI t.first ++ uI t.last))
def bodyA (A : ViewA) : List UInt8 := uI A.next ++ (uintL A.op.length ++ (A.op.flatMap enc3 ++ (uintL A.fa.length ++ A.fa.flatMap enc4)))
def bytesA (A : ViewA) : List UInt8 := sealL (bodyA A)
theorem enc3_len (t : TxnA) : (enc3 t).length ≤ 30 := by
  have h1 := uI_len t.pid
  have h2 := uI_len t.epoch
  have h3 := uI_len t.first
  unfold enc3
  simp only [List.length_append]; omega
theorem enc4_len (t : TxnA) : (enc4 t).length ≤ 40 := by
  have h1 := uI_len t.pid
  have h2 := uI_len t.epoch
  have h3 := uI_len t.first
  have h4 := uI_len t.last
  unfold enc4
  simp only [List.length_append]; omega
theorem op_len {ts : List TxnA} (h : ts.length ≤ 1024) : (ts.flatMap enc3).length ≤ 30720 := by
  have := flat_le (f := enc3) (n := 30) fun t (_ : t ∈ ts) => enc3_len t
  omega
theorem fa_len {ts : List TxnA} (h : ts.length ≤ 4096) : (ts.flatMap enc4).length ≤ 163840 := by
  have := flat_le (f := enc4) (n := 40) fun t (_ : t ∈ ts) => enc4_len t
  omega
theorem body_len {A : ViewA} (hok : okV A) : (bodyA A).length ≤ 200000 := by
  have h1 := op_len hok.many.1
  have h2 := fa_len hok.many.2
  have h3 := uI_len A.next
  have h4 := uintL_len A.op.length
  have h5 := uintL_len A.fa.length
  unfold bodyA
  simp only [List.length_append]; omega
theorem flat_take {f : TxnA → List UInt8} {ts : List TxnA} {i : Nat} (h : i < ts.length) : (ts.take (i + 1)).flatMap f = (ts.take i).flatMap f ++ f ts[i] := by
  rw [List.take_add_one, List.getElem?_eq_getElem h, Option.toList_some, List.flatMap_append, List.flatMap_singleton]
theorem lenI (n : Nat) (h : n < 9223372036854775808) : uI ((n : Nat) : Int) = uintL n := by unfold uI; rw [Int.toNat_natCast]

section
variable {w : World} {l r : List HP} {v q : Nat} {A : ViewA}

theorem ibytes_c [hf : Fo l vw v A r] (hs : Sat w l) : Ret P F.iso_View_Bytes #[.pointer (some ⟨v, 0, none⟩)] w fun vs w' => ∃ z : Sl, vs = [z.v] ∧ Sat w' (slc T.uint8 1 z ((bytesA A).flatMap encU) :: vw v A :: r) :=
  iso_View_Bytes_calls _ <| by
    unfold iso_View_Bytes
    refine wp_ifF ?_ (by simp)
    refine wp_call (iopen_c (v := v) hs) fun _ _ hs => ?_
    obtain ⟨x, rfl, hs⟩ := hs
    refine ret_of ?_
    refine wp_call (ifallen_c (v := v) hs) fun _ _ hs => ?_
    obtain ⟨y, rfl, hs⟩ := hs
    refine ret_of ?_
    have hxl := hs.slen x (xs := A.op) (enc := encX)
    have hyl := hs.slen y (xs := A.fa) (enc := encX)
    obtain ⟨m1, m2, hok, hs⟩ := vw_open (hs.pick [1])
    have hmany := hok.many
    have hnx := hok.next
    refine wp_nn ?_
    refine wp_ldO hs ?_
    have hs : Sat _ (vw v A :: slc T.iso_Txn 4 y (A.fa.flatMap encX) :: slc T.iso_Txn 4 x (A.op.flatMap encX) :: r) := vw_close m1 m2 hok hs
    refine wp_call (wint_c A.next (by omega) hs) fun _ _ hs => ?_
    obtain ⟨z1, rfl, hs⟩ := hs
    refine ret_of ?_
    refine wp_call (wint_c (x.len : Int) (by omega) hs) fun _ _ hs => ?_
    obtain ⟨z2, rfl, hs⟩ := hs
    refine ret_of ?_
    rw [lenI _ (by omega), hxl] at hs
    refine wp_litx hs (enc := encSl) [z1, z2] fun z3 w' hs => ?_
    have hl1 := uI_len A.next
    have hl2 := uintL_len A.op.length
    refine wp_call (wjoin2_c z3 z1 z2 (uI A.next) (uintL A.op.length) (by omega) hs) fun _ _ hs => ?_
    obtain ⟨z4, rfl, hs⟩ := hs
    refine ret_of ?_
    have hs : Sat _ (slc T.uint8 1 z4 ((uI A.next ++ uintL A.op.length).flatMap encU) :: vw v A :: slc T.iso_Txn 4 y (A.fa.flatMap encX) :: slc T.iso_Txn 4 x (A.op.flatMap encX) :: r) := hs.sub
    refine wp_mid (fun u w' => ∃ z : Sl, u = (z, ()) ∧ Sat w' (slc T.uint8 1 z ((uI A.next ++ uintL A.op.length ++ A.op.flatMap enc3).flatMap encU) :: vw v A :: slc T.iso_Txn 4 y (A.fa.flatMap encX) :: slc T.iso_Txn 4 x (A.op.flatMap encX) :: r)) ?_ ?_
    · refine wp_loop (fun k u w => ∃ (i : Nat) (z : Sl), u = (z, (i : Int), ()) ∧ i ≤ A.op.length ∧ A.op.length - i = k ∧ Sat w (slc T.uint8 1 z ((uI A.next ++ uintL A.op.length ++ (A.op.take i).flatMap enc3).flatMap encU) :: vw v A :: slc T.iso_Txn 4 y (A.fa.flatMap encX) :: slc T.iso_Txn 4 x (A.op.flatMap encX) :: r)) A.op.length
        ⟨0, z4, rfl, by omega, rfl, by simpa using hs⟩ ?_
      clear hs
      rintro k _ w ⟨i, z, rfl, hi, hk, hs⟩
      refine wp_on ?_
      refine wp_if (fun hc => ?_) fun hc => ?_
      rotate_left
      · refine wp_pass (wp_lv ⟨z, rfl, ?_⟩)
        rw [List.take_of_length_le (by omega)] at hs
        exact hs
      have hil : i < A.op.length := by omega
      have hok1 := hok.op _ (List.getElem_mem hil)
      have hp := hok1.1.pid
      have he := hok1.1.epoch
      have hf1 := hok1.1.first
      refine wp_ixA hs (xs := A.op) (enc := encX) i hil ?_
      refine wp_newO hs fun c w' hs => ?_
      refine wp_stG hs fun w' hs => ?_
      refine wp_mid (fun u w' => ∃ z : Sl, u = (z, ()) ∧ Sat w' (slc T.uint8 1 z ((uI A.next ++ uintL A.op.length ++ (A.op.take (i + 1)).flatMap enc3).flatMap encU) :: vw v A :: slc T.iso_Txn 4 y (A.fa.flatMap encX) :: slc T.iso_Txn 4 x (A.op.flatMap encX) :: r)) ?_ ?_
      rotate_left
      · rintro _ w' ⟨z, rfl, hs⟩
        refine wp_on ?_
        refine wp_dn (us' := [z.v, .int .i64 ((i + 1 : Nat) : Int)]) (by (try simp (disch := omega) only [w64]); first | rfl | (congr; omega)) ?_
        refine wp_lp (A.op.length - (i + 1)) ?_
        exact ⟨i + 1, z, rfl, by omega, rfl, hs⟩
      rw [flat_take hil]
      have hb1 : ((A.op.take i).flatMap enc3).length ≤ 30720 := op_len (by rw [List.length_take]; omega)
      generalize A.op[i] = t at *
      refine wp_tk hs fun w' hs => ?_
      refine wp_ldO hs ?_
      refine wp_hdO hs ?_
      refine wp_hdO hs ?_
      refine wp_call (wint_c t.pid (by omega) hs) fun _ w' hs => ?_
      obtain ⟨u1, rfl, hs⟩ := hs
      refine ret_of ?_ ⟨⟨trivial, fun _ => run_ldO hs⟩, fun _ => run_ldO hs⟩
      refine wp_call (wint_c t.epoch (by omega) hs) fun _ w' hs => ?_
      obtain ⟨u2, rfl, hs⟩ := hs
      refine ret_of ?_ ⟨⟨trivial, fun _ => run_ldO hs⟩, fun _ => run_ldO hs⟩
      refine wp_untick ?_
      refine wp_call (wint_c t.first (by omega) hs) fun _ _ hs => ?_
      obtain ⟨u3, rfl, hs⟩ := hs
      refine ret_of ?_
      refine wp_litx hs (enc := encSl) [u1, u2, u3] fun u4 w' hs => ?_
      have g1 := uI_len t.pid
      have g2 := uI_len t.epoch
      have g3 := uI_len t.first
      refine wp_call (wjoin3_c u4 u1 u2 u3 (uI t.pid) (uI t.epoch) (uI t.first) (by omega) hs) fun _ _ hs => ?_
      obtain ⟨u5, rfl, hs⟩ := hs
      refine ret_of ?_
      refine wp_app' (xs := uI A.next ++ uintL A.op.length ++ (A.op.take i).flatMap enc3) (ys := enc3 t) (enc := encU) (y := u5) hs (fun z w' hs => ?_) (by have := enc3_len t; simp only [List.length_append]; omega)
      refine wp_untick ?_
      rw [List.append_assoc] at hs
      exact wp_lv ⟨z, rfl, hs.sub⟩
    clear hs
    rintro _ w ⟨z, rfl, hs⟩
    refine wp_on ?_
    have hb1 := op_len hmany.1
    refine wp_call (wint_c (y.len : Int) (by omega) hs) fun _ _ hs => ?_
    obtain ⟨z5, rfl, hs⟩ := hs
    refine ret_of ?_
    rw [lenI _ (by omega), hyl] at hs
    have hl3 := uintL_len A.fa.length
    refine wp_app' (xs := uI A.next ++ uintL A.op.length ++ A.op.flatMap enc3) (ys := uintL A.fa.length) (enc := encU) hs (fun z w' hs => ?_) (by simp only [List.length_append]; omega)
    have hpl : (uI A.next ++ uintL A.op.length ++ A.op.flatMap enc3 ++ uintL A.fa.length).length ≤ 40000 := by simp only [List.length_append]; omega
    generalize hpre : uI A.next ++ uintL A.op.length ++ A.op.flatMap enc3 ++ uintL A.fa.length = pre at hs hpl
    have hs : Sat _ (slc T.uint8 1 z (pre.flatMap encU) :: vw v A :: slc T.iso_Txn 4 y (A.fa.flatMap encX) :: r) := hs.sub
    refine wp_mid (fun u w' => ∃ z : Sl, u = (z, ()) ∧ Sat w' (slc T.uint8 1 z ((pre ++ A.fa.flatMap enc4).flatMap encU) :: vw v A :: r)) ?_ ?_
    · refine wp_loop (fun k u w => ∃ (i : Nat) (z : Sl), u = (z, (i : Int), ()) ∧ i ≤ A.fa.length ∧ A.fa.length - i = k ∧ Sat w (slc T.uint8 1 z ((pre ++ (A.fa.take i).flatMap enc4).flatMap encU) :: vw v A :: slc T.iso_Txn 4 y (A.fa.flatMap encX) :: r)) A.fa.length
        ⟨0, z, rfl, by omega, rfl, by simpa using hs⟩ ?_
      clear hs
      rintro k _ w ⟨i, z, rfl, hi, hk, hs⟩
      refine wp_on ?_
      refine wp_if (fun hc => ?_) fun hc => ?_
      rotate_left
      · refine wp_pass (wp_lv ⟨z, rfl, ?_⟩)
        rw [List.take_of_length_le (by omega)] at hs
        exact hs.sub
      have hil : i < A.fa.length := by omega
      have hok1 := hok.fa _ (List.getElem_mem hil)
      have hp := hok1.1.pid
      have he := hok1.1.epoch
      have hf1 := hok1.1.first
      have hla := hok1.2
      refine wp_ixA hs (xs := A.fa) (enc := encX) i hil ?_
      refine wp_newO hs fun c w' hs => ?_
      refine wp_stG hs fun w' hs => ?_
      refine wp_mid (fun u w' => ∃ z : Sl, u = (z, ()) ∧ Sat w' (slc T.uint8 1 z ((pre ++ (A.fa.take (i + 1)).flatMap enc4).flatMap encU) :: vw v A :: slc T.iso_Txn 4 y (A.fa.flatMap encX) :: r)) ?_ ?_
      rotate_left
      · rintro _ w' ⟨z, rfl, hs⟩
        refine wp_on ?_
        refine wp_dn (us' := [z.v, .int .i64 ((i + 1 : Nat) : Int)]) (by (try simp (disch := omega) only [w64]); first | rfl | (congr; omega)) ?_
        refine wp_lp (A.fa.length - (i + 1)) ?_
        exact ⟨i + 1, z, rfl, by omega, rfl, hs⟩
      rw [flat_take hil]
      have hb2 : ((A.fa.take i).flatMap enc4).length ≤ 163840 := fa_len (by rw [List.length_take]; omega)
      generalize A.fa[i] = t at *
      refine wp_tk hs fun w' hs => ?_
      refine wp_ldO hs ?_
      refine wp_hdO hs ?_
      refine wp_hdO hs ?_
      refine wp_hdO hs ?_
      refine wp_call (wint_c t.pid (by omega) hs) fun _ w' hs => ?_
      obtain ⟨u1, rfl, hs⟩ := hs
      refine ret_of ?_ ⟨⟨⟨trivial, fun _ => run_ldO hs⟩, fun _ => run_ldO hs⟩, fun _ => run_ldO hs⟩
      refine wp_call (wint_c t.epoch (by omega) hs) fun _ w' hs => ?_
      obtain ⟨u2, rfl, hs⟩ := hs
      refine ret_of ?_ ⟨⟨⟨trivial, fun _ => run_ldO hs⟩, fun _ => run_ldO hs⟩, fun _ => run_ldO hs⟩
      refine wp_call (wint_c t.first (by omega) hs) fun _ w' hs => ?_
      obtain ⟨u3, rfl, hs⟩ := hs
      refine ret_of ?_ ⟨⟨⟨trivial, fun _ => run_ldO hs⟩, fun _ => run_ldO hs⟩, fun _ => run_ldO hs⟩
      refine wp_untick ?_
      refine wp_call (wint_c t.last (by omega) hs) fun _ _ hs => ?_
      obtain ⟨u4, rfl, hs⟩ := hs
      refine ret_of ?_
      refine wp_litx hs (enc := encSl) [u1, u2, u3, u4] fun u5 w' hs => ?_
      have g1 := uI_len t.pid
      have g2 := uI_len t.epoch
      have g3 := uI_len t.first
      have g4 := uI_len t.last
      refine wp_call (wjoin4_c u5 u1 u2 u3 u4 (uI t.pid) (uI t.epoch) (uI t.first) (uI t.last) (by omega) hs) fun _ _ hs => ?_
      obtain ⟨u6, rfl, hs⟩ := hs
      refine ret_of ?_
      refine wp_app' (xs := pre ++ (A.fa.take i).flatMap enc4) (ys := enc4 t) (enc := encU) (y := u6) hs (fun z w' hs => ?_) (by have := enc4_len t; simp only [List.length_append]; omega)
      refine wp_untick ?_
      rw [List.append_assoc] at hs
      exact wp_lv ⟨z, rfl, hs.sub⟩
    clear hs
    rintro _ w ⟨z, rfl, hs⟩
    refine wp_on ?_
    have hb2 := fa_len hmany.2
    have hbody : pre ++ A.fa.flatMap enc4 = bodyA A := by
      rw [← hpre]; unfold bodyA; simp only [List.append_assoc]
    rw [hbody] at hs
    have hbl := body_len hok
    refine wp_slit1 hs (enc := encSl) z fun u w' hs => ?_
    refine wp_call (fseal1_c u z (bodyA A) (by omega) hs) fun _ _ hs => ?_
    obtain ⟨o, rfl, hs⟩ := hs
    refine ret_of ?_
    have hs : Sat _ (slc T.uint8 1 o ((bytesA A).flatMap encU) :: _) := hs
    exact ⟨rfl, o, rfl, hs.sub⟩

theorem dbytes_c (hok : okV A) [hf : Fo l dwP q A r] (hs : Sat w l) : Ret P F.towpathref08_View_Bytes #[.pointer (some ⟨q, 0, none⟩)] w fun vs w' => ∃ z : Sl, vs = [z.v] ∧ Sat w' (slc T.uint8 1 z ((bytesA A).flatMap encU) :: dwP q A :: r) :=
  towpathref08_View_Bytes_calls _ <| by
    unfold towpathref08_View_Bytes
    obtain ⟨x, y, hs⟩ := dw_open (hs.perm hf.perm)
    have hxl := hs.slen x (xs := A.op) (enc := encX)
    have hyl := hs.slen y (xs := A.fa) (enc := encX)
    have hmany := hok.many
    have hnx := hok.next
    refine wp_nn ?_
    refine wp_ldO hs ?_
    refine wp_call (dint_c A.next (by omega) hs) fun _ _ hs => ?_
    obtain ⟨z1, rfl, hs⟩ := hs
    refine ret_of ?_
    refine wp_nn ?_
    refine wp_ldO hs ?_
    rw [hxl]
    refine wp_call (dint_c (A.op.length : Int) (by omega) hs) fun _ _ hs => ?_
    obtain ⟨z2, rfl, hs⟩ := hs
    refine ret_of ?_
    rw [lenI _ (by omega)] at hs
    have hl1 := uI_len A.next
    have hl2 := uintL_len A.op.length
    refine wp_app' (xs := uI A.next) (ys := uintL A.op.length) (enc := encU) hs (fun z4 w' hs => ?_) (by omega)
    refine wp_nn ?_
    refine wp_ldO hs ?_
    have hs : Sat _ (slc T.uint8 1 z4 ((uI A.next ++ uintL A.op.length).flatMap encU) :: pt q (.cells #[.int .i64 A.next, .slice x.a x.len x.cap, .slice y.a y.len y.cap] T.towpathref08_View) :: slc T.towpathref08_Txn 4 x (A.op.flatMap encX) :: slc T.towpathref08_Txn 4 y (A.fa.flatMap encX) :: r) := hs.sub
    refine wp_mid (fun u w' => ∃ z : Sl, u = (z, ()) ∧ Sat w' (slc T.uint8 1 z ((uI A.next ++ uintL A.op.length ++ A.op.flatMap enc3).flatMap encU) :: pt q (.cells #[.int .i64 A.next, .slice x.a x.len x.cap, .slice y.a y.len y.cap] T.towpathref08_View) :: slc T.towpathref08_Txn 4 x (A.op.flatMap encX) :: slc T.towpathref08_Txn 4 y (A.fa.flatMap encX) :: r)) ?_ ?_
    · refine wp_loop (fun k u w => ∃ (i : Nat) (z : Sl), u = (z, (i : Int), ()) ∧ i ≤ A.op.length ∧ A.op.length - i = k ∧ Sat w (slc T.uint8 1 z ((uI A.next ++ uintL A.op.length ++ (A.op.take i).flatMap enc3).flatMap encU) :: pt q (.cells #[.int .i64 A.next, .slice x.a x.len x.cap, .slice y.a y.len y.cap] T.towpathref08_View) :: slc T.towpathref08_Txn 4 x (A.op.flatMap encX) :: slc T.towpathref08_Txn 4 y (A.fa.flatMap encX) :: r)) A.op.length
        ⟨0, z4, rfl, by omega, rfl, by simpa using hs⟩ ?_
      clear hs
      rintro k _ w ⟨i, z, rfl, hi, hk, hs⟩
      refine wp_on ?_
      refine wp_if (fun hc => ?_) fun hc => ?_
      rotate_left
      · refine wp_pass (wp_lv ⟨z, rfl, ?_⟩)
        rw [List.take_of_length_le (by omega)] at hs
        exact hs
      have hil : i < A.op.length := by omega
      have hok1 := hok.op _ (List.getElem_mem hil)
      have hp := hok1.1.pid
      have he := hok1.1.epoch
      have hf1 := hok1.1.first
      have hft := flat_take (f := enc3) hil
      have hb1 : ((A.op.take i).flatMap enc3).length ≤ 30720 := op_len (by rw [List.length_take]; omega)
      refine wp_ixA hs (xs := A.op) (enc := encX) i hil ?_
      generalize A.op[i] = t at *
      refine wp_newO hs fun c w' hs => ?_
      refine wp_stG hs fun w' hs => ?_
      have g1 := uI_len t.pid
      have g2 := uI_len t.epoch
      have g3 := uI_len t.first
      refine wp_ldO hs ?_
      refine wp_call (dint_c t.pid (by omega) hs) fun _ _ hs => ?_
      obtain ⟨u1, rfl, hs⟩ := hs
      refine ret_of ?_
      refine wp_app' (xs := uI A.next ++ uintL A.op.length ++ (A.op.take i).flatMap enc3) (ys := uI t.pid) (enc := encU) hs (fun z w' hs => ?_) (by simp only [List.length_append]; omega)
      refine wp_ldO hs ?_
      refine wp_call (dint_c t.epoch (by omega) hs) fun _ _ hs => ?_
      obtain ⟨u2, rfl, hs⟩ := hs
      refine ret_of ?_
      refine wp_app' (xs := uI A.next ++ uintL A.op.length ++ (A.op.take i).flatMap enc3 ++ uI t.pid) (ys := uI t.epoch) (enc := encU) hs (fun z w' hs => ?_) (by simp only [List.length_append]; omega)
      refine wp_ldO hs ?_
      refine wp_call (dint_c t.first (by omega) hs) fun _ _ hs => ?_
      obtain ⟨u3, rfl, hs⟩ := hs
      refine ret_of ?_
      refine wp_app' (xs := uI A.next ++ uintL A.op.length ++ (A.op.take i).flatMap enc3 ++ uI t.pid ++ uI t.epoch) (ys := uI t.first) (enc := encU) hs (fun z w' hs => ?_) (by simp only [List.length_append]; omega)
      have e : uI A.next ++ uintL A.op.length ++ (A.op.take i).flatMap enc3 ++ uI t.pid ++ uI t.epoch ++ uI t.first = uI A.next ++ uintL A.op.length ++ (A.op.take (i + 1)).flatMap enc3 := by
        rw [hft]; unfold enc3; simp only [List.append_assoc]
      rw [e] at hs
      refine wp_dn (us' := [z.v, .int .i64 ((i + 1 : Nat) : Int)]) (by (try simp (disch := omega) only [w64]); first | rfl | (congr; omega)) ?_
      refine wp_lp (A.op.length - (i + 1)) ?_
      exact ⟨i + 1, z, rfl, by omega, rfl, hs.sub⟩
    clear hs
    rintro _ w ⟨z, rfl, hs⟩
    refine wp_on ?_
    have hb1 := op_len hmany.1
    refine wp_nn ?_
    refine wp_ldO hs ?_
    rw [hyl]
    refine wp_call (dint_c (A.fa.length : Int) (by omega) hs) fun _ _ hs => ?_
    obtain ⟨z5, rfl, hs⟩ := hs
    refine ret_of ?_
    rw [lenI _ (by omega)] at hs
    have hl3 := uintL_len A.fa.length
    refine wp_app' (xs := uI A.next ++ uintL A.op.length ++ A.op.flatMap enc3) (ys := uintL A.fa.length) (enc := encU) hs (fun z w' hs => ?_) (by simp only [List.length_append]; omega)
    have hpl : (uI A.next ++ uintL A.op.length ++ A.op.flatMap enc3 ++ uintL A.fa.length).length ≤ 40000 := by simp only [List.length_append]; omega
    generalize hpre : uI A.next ++ uintL A.op.length ++ A.op.flatMap enc3 ++ uintL A.fa.length = pre at hs hpl
    refine wp_nn ?_
    refine wp_ldO hs ?_
    have hs : Sat _ (slc T.uint8 1 z (pre.flatMap encU) :: pt q (.cells #[.int .i64 A.next, .slice x.a x.len x.cap, .slice y.a y.len y.cap] T.towpathref08_View) :: slc T.towpathref08_Txn 4 x (A.op.flatMap encX) :: slc T.towpathref08_Txn 4 y (A.fa.flatMap encX) :: r) := hs.sub
    refine wp_mid (fun u w' => ∃ z : Sl, u = (z, ()) ∧ Sat w' (slc T.uint8 1 z ((pre ++ A.fa.flatMap enc4).flatMap encU) :: dwP q A :: r)) ?_ ?_
    · refine wp_loop (fun k u w => ∃ (i : Nat) (z : Sl), u = (z, (i : Int), ()) ∧ i ≤ A.fa.length ∧ A.fa.length - i = k ∧ Sat w (slc T.uint8 1 z ((pre ++ (A.fa.take i).flatMap enc4).flatMap encU) :: pt q (.cells #[.int .i64 A.next, .slice x.a x.len x.cap, .slice y.a y.len y.cap] T.towpathref08_View) :: slc T.towpathref08_Txn 4 x (A.op.flatMap encX) :: slc T.towpathref08_Txn 4 y (A.fa.flatMap encX) :: r)) A.fa.length
        ⟨0, z, rfl, by omega, rfl, by simpa using hs⟩ ?_
      clear hs
      rintro k _ w ⟨i, z, rfl, hi, hk, hs⟩
      refine wp_on ?_
      refine wp_if (fun hc => ?_) fun hc => ?_
      rotate_left
      · refine wp_pass (wp_lv ⟨z, rfl, ?_⟩)
        rw [List.take_of_length_le (by omega)] at hs
        have hs := dw_close A (hs.pick [1, 1, 1])
        exact hs.pick [1]
      have hil : i < A.fa.length := by omega
      have hok1 := hok.fa _ (List.getElem_mem hil)
      have hp := hok1.1.pid
      have he := hok1.1.epoch
      have hf1 := hok1.1.first
      have hla := hok1.2
      have hft := flat_take (f := enc4) hil
      have hb2 : ((A.fa.take i).flatMap enc4).length ≤ 163840 := fa_len (by rw [List.length_take]; omega)
      refine wp_ixA hs (xs := A.fa) (enc := encX) i hil ?_
      generalize A.fa[i] = t at *
      refine wp_newO hs fun c w' hs => ?_
      refine wp_stG hs fun w' hs => ?_
      have g1 := uI_len t.pid
      have g2 := uI_len t.epoch
      have g3 := uI_len t.first
      have g4 := uI_len t.last
      refine wp_ldO hs ?_
      refine wp_call (dint_c t.pid (by omega) hs) fun _ _ hs => ?_
      obtain ⟨u1, rfl, hs⟩ := hs
      refine ret_of ?_
      refine wp_app' (xs := pre ++ (A.fa.take i).flatMap enc4) (ys := uI t.pid) (enc := encU) hs (fun z w' hs => ?_) (by simp only [List.length_append]; omega)
      refine wp_ldO hs ?_
      refine wp_call (dint_c t.epoch (by omega) hs) fun _ _ hs => ?_
      obtain ⟨u2, rfl, hs⟩ := hs
      refine ret_of ?_
      refine wp_app' (xs := pre ++ (A.fa.take i).flatMap enc4 ++ uI t.pid) (ys := uI t.epoch) (enc := encU) hs (fun z w' hs => ?_) (by simp only [List.length_append]; omega)
      refine wp_ldO hs ?_
      refine wp_call (dint_c t.first (by omega) hs) fun _ _ hs => ?_
      obtain ⟨u3, rfl, hs⟩ := hs
      refine ret_of ?_
      refine wp_app' (xs := pre ++ (A.fa.take i).flatMap enc4 ++ uI t.pid ++ uI t.epoch) (ys := uI t.first) (enc := encU) hs (fun z w' hs => ?_) (by simp only [List.length_append]; omega)
      refine wp_ldO hs ?_
      refine wp_call (dint_c t.last (by omega) hs) fun _ _ hs => ?_
      obtain ⟨u4, rfl, hs⟩ := hs
      refine ret_of ?_
      refine wp_app' (xs := pre ++ (A.fa.take i).flatMap enc4 ++ uI t.pid ++ uI t.epoch ++ uI t.first) (ys := uI t.last) (enc := encU) hs (fun z w' hs => ?_) (by simp only [List.length_append]; omega)
      have e : pre ++ (A.fa.take i).flatMap enc4 ++ uI t.pid ++ uI t.epoch ++ uI t.first ++ uI t.last = pre ++ (A.fa.take (i + 1)).flatMap enc4 := by
        rw [hft]; unfold enc4; simp only [List.append_assoc]
      rw [e] at hs
      refine wp_dn (us' := [z.v, .int .i64 ((i + 1 : Nat) : Int)]) (by (try simp (disch := omega) only [w64]); first | rfl | (congr; omega)) ?_
      refine wp_lp (A.fa.length - (i + 1)) ?_
      exact ⟨i + 1, z, rfl, by omega, rfl, hs.sub⟩
    clear hs
    rintro _ w ⟨z, rfl, hs⟩
    refine wp_on ?_
    have hbody : pre ++ A.fa.flatMap enc4 = bodyA A := by
      rw [← hpre]; unfold bodyA; simp only [List.append_assoc]
    rw [hbody] at hs
    have hbl := body_len hok
    refine wp_call (dseal_c z (bodyA A) (by omega) hs) fun _ _ hs => ?_
    obtain ⟨o, rfl, hs⟩ := hs
    refine ret_of ?_
    have hs : Sat _ (slc T.uint8 1 o ((bytesA A).flatMap encU) :: _) := hs
    exact ⟨rfl, o, rfl, hs.sub⟩
end
end Go.Dec
