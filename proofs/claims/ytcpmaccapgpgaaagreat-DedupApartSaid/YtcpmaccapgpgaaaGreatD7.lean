/- Dedup: tables as bytes, the program's and the document's. -/
import Derived.Test.YtcpmaccapgpgaaaGreatD6
namespace Go.Dec
set_option linter.unusedVariables false
set_option linter.unusedSimpArgs false

def five (r : RowA) : List UInt8 := uI r.pid ++ (uI r.epoch ++ (uI r.seq ++ (uI r.count ++ uI r.base)))
def enc7 (r : RowA) : List UInt8 := five r ++ (sintL r.frm ++ uI r.time)
def bodyT (A : TabA) : List UInt8 := uI A.next ++ (uintL A.rows.length ++ A.rows.flatMap enc7)
def bytesT (A : TabA) : List UInt8 := sealL (bodyT A)
theorem five_len (r : RowA) : (five r).length ≤ 50 := by
  have h1 := uI_len r.pid
  have h2 := uI_len r.epoch
  have h3 := uI_len r.seq
  have h4 := uI_len r.count
  have h5 := uI_len r.base
  unfold five
  simp only [List.length_append]; omega
theorem enc7_len (r : RowA) : (enc7 r).length ≤ 70 := by
  have h1 := five_len r
  have h2 := sintL_len r.frm
  have h3 := uI_len r.time
  unfold enc7
  simp only [List.length_append]; omega
theorem rows_len {rs : List RowA} (h : rs.length ≤ 100) : (rs.flatMap enc7).length ≤ 7000 := by
  have := flat_le (f := enc7) (n := 70) fun r (_ : r ∈ rs) => enc7_len r
  omega
theorem body_len {A : TabA} (h : A.rows.length ≤ 100) : (bodyT A).length ≤ 8000 := by
  have h1 := rows_len h
  have h3 := uI_len A.next
  have h4 := uintL_len A.rows.length
  unfold bodyT
  simp only [List.length_append]; omega
theorem flat_take {f : RowA → List UInt8} {ts : List RowA} {i : Nat} (h : i < ts.length) : (ts.take (i + 1)).flatMap f = (ts.take i).flatMap f ++ f ts[i] := by
  rw [List.take_add_one, List.getElem?_eq_getElem h, Option.toList_some, List.flatMap_append, List.flatMap_singleton]
theorem lenI (n : Nat) : uI ((n : Nat) : Int) = uintL n := by unfold uI; rw [Int.toNat_natCast]

section
variable {w : World} {l r : List HP} {t q : Nat} {A : TabA}

theorem ld_map {m : Nat} [hb : FocB l t (.cells [.int .i64 A.most, .int .i64 A.next, .map (some m)].toArray T.dedup_Table) r] (hs : Sat w l) : (ld T.m_int64_dedup_Row (Addr.add ⟨t, 0, none⟩ 2)).run P w = .ok ((Sh.one (.one .map)).mk ((some m, ()) : Option Nat × Unit)) w := run_ldO hs

theorem tbytes_c (h100 : A.rows.length ≤ 100) [hf : Fo l tb t A r] (hs : Sat w l) : Ret P F.dedup_Table_Bytes #[.pointer (some ⟨t, 0, none⟩)] w fun vs w' => ∃ z : Sl, vs = [z.v] ∧ Sat w' (slc T.uint8 1 z ((bytesT A).flatMap encU) :: tb t A :: r) :=
  dedup_Table_Bytes_calls _ <| by
    unfold dedup_Table_Bytes
    have hs : Sat w (tb t A :: r) := hs.perm hf.perm
    have hok := tb_ok hs
    have hnx := hok.next
    have hl1 := uI_len A.next
    have hl2 := uintL_len A.rows.length
    refine wp_ifF ?_ (by simp)
    refine wp_mid (fun u w' => ∃ z : Sl, u = (z, ()) ∧ Sat w' (slc T.uint8 1 z ((uI A.next ++ uintL A.rows.length).flatMap encU) :: tb t A :: r)) ?_ ?_
    · obtain ⟨m, -, hs⟩ := tb_open hs
      refine wp_tk hs fun w' hs => ?_
      refine wp_nn ?_
      refine wp_ldO hs ?_
      refine wp_nn ?_
      refine wp_hdO hs ?_
      refine wp_call (wint_c A.next (by omega) hs) fun _ w' hs => ?_
      obtain ⟨z1, rfl, hs⟩ := hs
      refine ret_of ?_ ⟨trivial, fun _ => run_ldO hs⟩
      refine wp_mlen hs ?_
      refine wp_untick ?_
      have hkl : (keyed A.rows).length = A.rows.length := by unfold keyed; rw [List.length_map]
      rw [hkl]
      refine wp_call (wint_c (A.rows.length : Int) (by omega) hs) fun _ _ hs => ?_
      obtain ⟨z2, rfl, hs⟩ := hs
      refine ret_of ?_
      rw [lenI] at hs
      refine wp_litx hs (enc := encSl) [z1, z2] fun z3 w' hs => ?_
      refine wp_call (wjoin2_c z3 z1 z2 (uI A.next) (uintL A.rows.length) (by omega) hs) fun _ _ hs => ?_
      obtain ⟨z4, rfl, hs⟩ := hs
      refine ret_of ?_
      refine wp_untick ?_
      refine wp_lv ⟨z4, rfl, ?_⟩
      have hs : Sat _ (pt t (.cells #[.int .i64 A.most, .int .i64 A.next, .map (some m)] T.dedup_Table) :: mapP ekI evW m (keyed A.rows) :: slc T.uint8 1 z4 ((uI A.next ++ uintL A.rows.length).flatMap encU) :: r) := hs.sub
      exact (tb_mk m hok hs).pick [1]
    clear hs
    rintro _ w ⟨z4, rfl, hs⟩
    refine wp_on ?_
    refine wp_call (trows_c (t := t) hs) fun _ w' h => ?_
    obtain ⟨x, rfl, hs⟩ := h
    refine ret_of ?_
    have hxl := hs.slen x (xs := A.rows) (enc := encW)
    have hs : Sat _ (slc T.uint8 1 z4 ((uI A.next ++ uintL A.rows.length).flatMap encU) :: slc T.dedup_Row 7 x (A.rows.flatMap encW) :: tb t A :: r) := hs.sub
    refine wp_mid (fun u w' => ∃ z : Sl, u = (z, ()) ∧ Sat w' (slc T.uint8 1 z ((bodyT A).flatMap encU) :: tb t A :: r)) ?_ ?_
    · refine wp_loop (fun k u w => ∃ (i : Nat) (z : Sl), u = (z, (i : Int), ()) ∧ i ≤ A.rows.length ∧ A.rows.length - i = k ∧ Sat w (slc T.uint8 1 z ((uI A.next ++ uintL A.rows.length ++ (A.rows.take i).flatMap enc7).flatMap encU) :: slc T.dedup_Row 7 x (A.rows.flatMap encW) :: tb t A :: r)) A.rows.length
        ⟨0, z4, rfl, by omega, rfl, by simpa using hs⟩ ?_
      clear hs
      rintro k _ w ⟨i, z, rfl, hi, hk, hs⟩
      refine wp_on ?_
      refine wp_if (fun hc => ?_) fun hc => ?_
      rotate_left
      · refine wp_pass (wp_lv ⟨z, rfl, ?_⟩)
        rw [List.take_of_length_le (by omega), List.append_assoc] at hs
        have hs : Sat w (slc T.uint8 1 z ((bodyT A).flatMap encU) :: _) := hs
        exact hs.sub
      have hil : i < A.rows.length := by omega
      have hok1 := hok.row _ (List.getElem_mem hil)
      refine wp_mid (fun u w' => ∃ z : Sl, u = (z, ()) ∧ Sat w' (slc T.uint8 1 z ((uI A.next ++ uintL A.rows.length ++ (A.rows.take (i + 1)).flatMap enc7).flatMap encU) :: slc T.dedup_Row 7 x (A.rows.flatMap encW) :: tb t A :: r)) ?_ ?_
      rotate_left
      · rintro _ w' ⟨z, rfl, hs⟩
        refine wp_on ?_
        refine wp_dn (us' := [z.v, .int .i64 ((i + 1 : Nat) : Int)]) (by (try simp (disch := omega) only [w64]); first | rfl | (congr; omega)) ?_
        refine wp_lp (A.rows.length - (i + 1)) ?_
        exact ⟨i + 1, z, rfl, by omega, rfl, hs⟩
      refine wp_ixA hs (xs := A.rows) (enc := encW) i hil ?_
      rw [flat_take hil]
      have hb1 : ((A.rows.take i).flatMap enc7).length ≤ 7000 := rows_len (by rw [List.length_take]; omega)
      have hpl : (uI A.next ++ uintL A.rows.length ++ (A.rows.take i).flatMap enc7).length ≤ 7100 := by simp only [List.length_append]; omega
      generalize hy : A.rows[i] = y at *
      rw [← List.append_assoc]
      generalize uI A.next ++ uintL A.rows.length ++ (A.rows.take i).flatMap enc7 = pre at hs hpl ⊢
      have e1 := hok1.pid
      have e2 := hok1.epoch
      have e3 := hok1.seqs
      have e4 := hok1.seq
      have e5 := hok1.count
      have e6 := hok1.base
      have e7 := hok1.frm
      have e8 := hok1.time
      have e9 : y.base ≤ 1099511627777 ∧ y.frm ≤ 1099511627777 := by
        rcases Int.lt_or_le 0 y.count with hc | hc
        · have := hok1.some_ hc; omega
        · have := hok1.none_ (by omega); omega
      refine wp_newO hs fun c w' hs => ?_
      refine wp_stG hs fun w' hs => ?_
      refine wp_ldO hs ?_
      refine wp_ldO hs ?_
      refine wp_ldO hs ?_
      refine wp_ldO hs ?_
      refine wp_ldO hs ?_
      refine wp_litx hs (enc := encI) [y.pid, y.epoch, y.seq, y.count, y.base] fun u w' hs => ?_
      have hul := hs.slen u (xs := [y.pid, y.epoch, y.seq, y.count, y.base]) (enc := encI)
      have hul : u.len = 5 := hul
      have hs : Sat w' (slc T.uint8 1 z (pre.flatMap encU) :: slc T.int64 1 u ([y.pid, y.epoch, y.seq, y.count, y.base].flatMap encI) :: pt c (.cells #[.int .i64 y.pid, .int .i64 y.epoch, .int .i64 y.seq, .int .i64 y.count, .int .i64 y.base, .int .i64 y.frm, .int .i64 y.time] T.dedup_Row) :: slc T.dedup_Row 7 x (A.rows.flatMap encW) :: tb t A :: r) := hs.sub
      refine wp_mid (fun v w' => ∃ z : Sl, v = (z, ()) ∧ Sat w' (slc T.uint8 1 z ((pre ++ five y).flatMap encU) :: pt c (.cells #[.int .i64 y.pid, .int .i64 y.epoch, .int .i64 y.seq, .int .i64 y.count, .int .i64 y.base, .int .i64 y.frm, .int .i64 y.time] T.dedup_Row) :: slc T.dedup_Row 7 x (A.rows.flatMap encW) :: tb t A :: r)) ?_ ?_
      · refine wp_loop (fun k v w => ∃ (j : Nat) (z : Sl), v = (z, (j : Int), ()) ∧ j ≤ 5 ∧ 5 - j = k ∧ Sat w (slc T.uint8 1 z ((pre ++ ([y.pid, y.epoch, y.seq, y.count, y.base].take j).flatMap uI).flatMap encU) :: slc T.int64 1 u ([y.pid, y.epoch, y.seq, y.count, y.base].flatMap encI) :: pt c (.cells #[.int .i64 y.pid, .int .i64 y.epoch, .int .i64 y.seq, .int .i64 y.count, .int .i64 y.base, .int .i64 y.frm, .int .i64 y.time] T.dedup_Row) :: slc T.dedup_Row 7 x (A.rows.flatMap encW) :: tb t A :: r)) 5
          ⟨0, z, rfl, by omega, rfl, by simpa using hs⟩ ?_
        clear hs hk
        rintro k _ w ⟨j, z, rfl, hj, hk, hs⟩
        refine wp_on ?_
        refine wp_if (fun hc => ?_) fun hc => ?_
        rotate_left
        · obtain rfl : j = 5 := by omega
          refine wp_pass (wp_lv ⟨z, rfl, ?_⟩)
          have e : ([y.pid, y.epoch, y.seq, y.count, y.base].take 5).flatMap uI = five y := by simp [five]
          rw [e] at hs
          exact hs.sub
        have hjl : j < [y.pid, y.epoch, y.seq, y.count, y.base].length := by show j < 5; omega
        refine wp_ix1 hs (xs := [y.pid, y.epoch, y.seq, y.count, y.base]) (enc := encI) j hjl ?_
        have hrange : ∀ n ∈ [y.pid, y.epoch, y.seq, y.count, y.base], 0 ≤ n ∧ n < 9223372036854775808 := fun n hn => by
          simp only [List.mem_cons, List.not_mem_nil, or_false] at hn
          rcases hn with rfl | rfl | rfl | rfl | rfl <;> omega
        have hr := hrange _ (List.getElem_mem hjl)
        have htk : ([y.pid, y.epoch, y.seq, y.count, y.base].take (j + 1)).flatMap uI = ([y.pid, y.epoch, y.seq, y.count, y.base].take j).flatMap uI ++ uI [y.pid, y.epoch, y.seq, y.count, y.base][j] := by
          rw [List.take_succ_eq_append_getElem hjl, List.flatMap_append, List.flatMap_singleton]
        have hsl : (([y.pid, y.epoch, y.seq, y.count, y.base].take j).flatMap uI).length ≤ 50 := by
          have := flat_le (f := uI) (n := 10) (ts := [y.pid, y.epoch, y.seq, y.count, y.base].take j) fun n _ => (uI_len n).2
          rw [List.length_take] at this; omega
        generalize [y.pid, y.epoch, y.seq, y.count, y.base][j] = n at *
        have hnl := uI_len n
        refine wp_lt ?_
        refine wp_call (wint_c n hr hs) fun _ _ hs => ?_
        obtain ⟨z5, rfl, hs⟩ := hs
        refine ret_of ?_
        refine wp_app' (xs := pre ++ ([y.pid, y.epoch, y.seq, y.count, y.base].take j).flatMap uI) (ys := uI n) (enc := encU) hs (fun z w' hs => ?_) (by simp only [List.length_append]; omega)
        refine wp_dn (us' := [z.v, .int .i64 ((j + 1 : Nat) : Int)]) (by (try simp (disch := omega) only [w64]); first | rfl | (congr; omega)) ?_
        refine wp_lp (5 - (j + 1)) ?_
        rw [List.append_assoc, ← htk] at hs
        exact ⟨j + 1, z, rfl, by omega, rfl, hs.sub⟩
      clear hs
      rintro _ w ⟨z, rfl, hs⟩
      refine wp_on ?_
      have g1 := sintL_len y.frm
      have g2 := uI_len y.time
      have g3 := five_len y
      refine wp_mid (fun v w' => ∃ z : Sl, v = (z, ()) ∧ Sat w' (slc T.uint8 1 z ((pre ++ enc7 y).flatMap encU) :: slc T.dedup_Row 7 x (A.rows.flatMap encW) :: tb t A :: r)) ?_ (by rintro _ w' ⟨z, rfl, hs⟩; refine wp_on ?_; exact wp_lv ⟨z, rfl, hs⟩)
      refine wp_tk hs fun w' hs => ?_
      refine wp_ldO hs ?_
      refine wp_hdO hs ?_
      refine wp_call (wsint_c y.frm (by omega) hs) fun _ w' hs => ?_
      obtain ⟨u1, rfl, hs⟩ := hs
      refine ret_of ?_ ⟨trivial, fun _ => run_ldO hs⟩
      refine wp_untick ?_
      refine wp_call (wint_c y.time (by omega) hs) fun _ _ hs => ?_
      obtain ⟨u2, rfl, hs⟩ := hs
      refine ret_of ?_
      refine wp_litx hs (enc := encSl) [u1, u2] fun u3 w' hs => ?_
      refine wp_call (wjoin2_c u3 u1 u2 (sintL y.frm) (uI y.time) (by omega) hs) fun _ _ hs => ?_
      obtain ⟨u4, rfl, hs⟩ := hs
      refine ret_of ?_
      refine wp_app' (xs := pre ++ five y) (ys := sintL y.frm ++ uI y.time) (enc := encU) (y := u4) hs (fun z w' hs => ?_) (by simp only [List.length_append]; omega)
      refine wp_untick ?_
      rw [List.append_assoc] at hs
      have hs : Sat w' (slc T.uint8 1 z ((pre ++ enc7 y).flatMap encU) :: _) := hs
      exact wp_lv ⟨z, rfl, hs.sub⟩
    clear hs
    rintro _ w ⟨z, rfl, hs⟩
    refine wp_on ?_
    have hbl := body_len h100
    refine wp_slit1 hs (enc := encSl) z fun u w' hs => ?_
    refine wp_call (fseal1_c u z (bodyT A) (by omega) hs) fun _ _ hs => ?_
    obtain ⟨o, rfl, hs⟩ := hs
    refine ret_of ?_
    have hs : Sat _ (slc T.uint8 1 o ((bytesT A).flatMap encU) :: _) := hs
    exact ⟨rfl, o, rfl, hs.sub⟩

theorem dbytes_c (hok : okTb A) (h100 : A.rows.length ≤ 100) [hf : Fo l dtP q A r] (hs : Sat w l) : Ret P F.towpathref07_Table_Bytes #[.pointer (some ⟨q, 0, none⟩)] w fun vs w' => ∃ z : Sl, vs = [z.v] ∧ Sat w' (slc T.uint8 1 z ((bytesT A).flatMap encU) :: dtP q A :: r) :=
  towpathref07_Table_Bytes_calls _ <| by
    unfold towpathref07_Table_Bytes
    obtain ⟨x, hs⟩ := dt_open (hs.perm hf.perm)
    have hxl := hs.slen x (xs := A.rows) (enc := encW)
    have hnx := hok.next
    have hl1 := uI_len A.next
    have hl2 := uintL_len A.rows.length
    refine wp_nn ?_
    refine wp_ldO hs ?_
    refine wp_call (dint_c A.next (by omega) hs) fun _ _ hs => ?_
    obtain ⟨z1, rfl, hs⟩ := hs
    refine ret_of ?_
    refine wp_nn ?_
    refine wp_ldO hs ?_
    rw [hxl]
    refine wp_call (dint_c (A.rows.length : Int) (by omega) hs) fun _ _ hs => ?_
    obtain ⟨z2, rfl, hs⟩ := hs
    refine ret_of ?_
    rw [lenI] at hs
    refine wp_app' (xs := uI A.next) (ys := uintL A.rows.length) (enc := encU) hs (fun z4 w' hs => ?_) (by omega)
    refine wp_nn ?_
    refine wp_ldO hs ?_
    have hs : Sat _ (slc T.uint8 1 z4 ((uI A.next ++ uintL A.rows.length).flatMap encU) :: pt q (.cells #[.int .i64 A.most, .int .i64 A.next, .slice x.a x.len x.cap] T.towpathref07_Table) :: slc T.towpathref07_Row 7 x (A.rows.flatMap encW) :: r) := hs.sub
    refine wp_mid (fun u w' => ∃ z : Sl, u = (z, ()) ∧ Sat w' (slc T.uint8 1 z ((bodyT A).flatMap encU) :: dtP q A :: r)) ?_ ?_
    · refine wp_loop (fun k u w => ∃ (i : Nat) (z : Sl), u = (z, (i : Int), ()) ∧ i ≤ A.rows.length ∧ A.rows.length - i = k ∧ Sat w (slc T.uint8 1 z ((uI A.next ++ uintL A.rows.length ++ (A.rows.take i).flatMap enc7).flatMap encU) :: pt q (.cells #[.int .i64 A.most, .int .i64 A.next, .slice x.a x.len x.cap] T.towpathref07_Table) :: slc T.towpathref07_Row 7 x (A.rows.flatMap encW) :: r)) A.rows.length
        ⟨0, z4, rfl, by omega, rfl, by simpa using hs⟩ ?_
      clear hs
      rintro k _ w ⟨i, z, rfl, hi, hk, hs⟩
      refine wp_on ?_
      refine wp_if (fun hc => ?_) fun hc => ?_
      rotate_left
      · refine wp_pass (wp_lv ⟨z, rfl, ?_⟩)
        rw [List.take_of_length_le (by omega), List.append_assoc] at hs
        have hs := dt_mk A (hs.pick [1, 1])
        exact hs.pick [1]
      have hil : i < A.rows.length := by omega
      have hok1 := hok.row _ (List.getElem_mem hil)
      have hft := flat_take (f := enc7) hil
      have hb1 : ((A.rows.take i).flatMap enc7).length ≤ 7000 := rows_len (by rw [List.length_take]; omega)
      have hpl : (uI A.next ++ uintL A.rows.length ++ (A.rows.take i).flatMap enc7).length ≤ 7100 := by simp only [List.length_append]; omega
      refine wp_ixA hs (xs := A.rows) (enc := encW) i hil ?_
      generalize A.rows[i] = y at *
      have hpre : uI A.next ++ uintL A.rows.length ++ (A.rows.take (i + 1)).flatMap enc7 = uI A.next ++ uintL A.rows.length ++ (A.rows.take i).flatMap enc7 ++ enc7 y := by rw [hft]; simp only [List.append_assoc]
      generalize uI A.next ++ uintL A.rows.length ++ (A.rows.take i).flatMap enc7 = pre at hs hpl hpre
      have e1 := hok1.pid
      have e2 := hok1.epoch
      have e3 := hok1.seqs
      have e4 := hok1.seq
      have e5 := hok1.count
      have e6 := hok1.base
      have e7 := hok1.frm
      have e8 := hok1.time
      have e9 : y.base ≤ 1099511627777 ∧ y.frm ≤ 1099511627777 := by
        rcases Int.lt_or_le 0 y.count with hc | hc
        · have := hok1.some_ hc; omega
        · have := hok1.none_ (by omega); omega
      have f1 := uI_len y.pid
      have f2 := uI_len y.epoch
      have f3 := uI_len y.seq
      have f4 := uI_len y.count
      have f5 := uI_len y.base
      have f6 := sintL_len y.frm
      have f7 := uI_len y.time
      refine wp_newO hs fun c w' hs => ?_
      refine wp_stG hs fun w' hs => ?_
      refine wp_ldO hs ?_
      refine wp_call (dint_c y.pid (by omega) hs) fun _ _ hs => ?_
      obtain ⟨u1, rfl, hs⟩ := hs
      refine ret_of ?_
      refine wp_app' (xs := pre) (ys := uI y.pid) (enc := encU) hs (fun z w' hs => ?_) (by omega)
      refine wp_ldO hs ?_
      refine wp_call (dint_c y.epoch (by omega) hs) fun _ _ hs => ?_
      obtain ⟨u1, rfl, hs⟩ := hs
      refine ret_of ?_
      refine wp_app' (xs := pre ++ uI y.pid) (ys := uI y.epoch) (enc := encU) hs (fun z w' hs => ?_) (by simp only [List.length_append]; omega)
      refine wp_ldO hs ?_
      refine wp_call (dint_c y.seq (by omega) hs) fun _ _ hs => ?_
      obtain ⟨u1, rfl, hs⟩ := hs
      refine ret_of ?_
      refine wp_app' (xs := pre ++ uI y.pid ++ uI y.epoch) (ys := uI y.seq) (enc := encU) hs (fun z w' hs => ?_) (by simp only [List.length_append]; omega)
      refine wp_ldO hs ?_
      refine wp_call (dint_c y.count (by omega) hs) fun _ _ hs => ?_
      obtain ⟨u1, rfl, hs⟩ := hs
      refine ret_of ?_
      refine wp_app' (xs := pre ++ uI y.pid ++ uI y.epoch ++ uI y.seq) (ys := uI y.count) (enc := encU) hs (fun z w' hs => ?_) (by simp only [List.length_append]; omega)
      refine wp_ldO hs ?_
      refine wp_call (dint_c y.base (by omega) hs) fun _ _ hs => ?_
      obtain ⟨u1, rfl, hs⟩ := hs
      refine ret_of ?_
      refine wp_app' (xs := pre ++ uI y.pid ++ uI y.epoch ++ uI y.seq ++ uI y.count) (ys := uI y.base) (enc := encU) hs (fun z w' hs => ?_) (by simp only [List.length_append]; omega)
      refine wp_ldO hs ?_
      refine wp_call (dsint_c y.frm (by omega) hs) fun _ _ hs => ?_
      obtain ⟨u1, rfl, hs⟩ := hs
      refine ret_of ?_
      refine wp_app' (xs := pre ++ uI y.pid ++ uI y.epoch ++ uI y.seq ++ uI y.count ++ uI y.base) (ys := sintL y.frm) (enc := encU) hs (fun z w' hs => ?_) (by simp only [List.length_append]; omega)
      refine wp_ldO hs ?_
      refine wp_call (dint_c y.time (by omega) hs) fun _ _ hs => ?_
      obtain ⟨u1, rfl, hs⟩ := hs
      refine ret_of ?_
      refine wp_app' (xs := pre ++ uI y.pid ++ uI y.epoch ++ uI y.seq ++ uI y.count ++ uI y.base ++ sintL y.frm) (ys := uI y.time) (enc := encU) hs (fun z w' hs => ?_) (by simp only [List.length_append]; omega)
      have e : pre ++ uI y.pid ++ uI y.epoch ++ uI y.seq ++ uI y.count ++ uI y.base ++ sintL y.frm ++ uI y.time = pre ++ enc7 y := by unfold enc7 five; simp only [List.append_assoc]
      rw [e, ← hpre] at hs
      refine wp_dn (us' := [z.v, .int .i64 ((i + 1 : Nat) : Int)]) (by (try simp (disch := omega) only [w64]); first | rfl | (congr; omega)) ?_
      refine wp_lp (A.rows.length - (i + 1)) ?_
      exact ⟨i + 1, z, rfl, by omega, rfl, hs.sub⟩
    clear hs
    rintro _ w ⟨z, rfl, hs⟩
    refine wp_on ?_
    have hbl := body_len h100
    refine wp_call (dseal_c z (bodyT A) (by omega) hs) fun _ _ hs => ?_
    obtain ⟨o, rfl, hs⟩ := hs
    refine ret_of ?_
    have hs : Sat _ (slc T.uint8 1 o ((bytesT A).flatMap encU) :: _) := hs
    exact ⟨rfl, o, rfl, hs.sub⟩
end
end Go.Dec
