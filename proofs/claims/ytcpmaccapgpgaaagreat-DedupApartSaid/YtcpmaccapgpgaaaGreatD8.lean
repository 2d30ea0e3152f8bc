/- Dedup: a table out of its bytes. -/
import Derived.Test.YtcpmaccapgpgaaaGreatD7
namespace Go.Dec
set_option linter.unusedVariables false
set_option linter.unusedSimpArgs false

theorem open_seal {body : List UInt8} (h : body.length ≤ 262144) : openL (sealL body) = some body := by
  have h1 := first_seal h []
  rw [List.append_nil] at h1
  unfold openL
  rw [h1]
  dsimp only
  obtain ⟨h2, -, -, h4⟩ := first_inv h1
  have hl : (sealL body).length = body.length + 8 := by
    unfold sealL
    rw [if_neg (by omega)]
    unfold headL
    simp only [List.length_append, four_len]; omega
  rw [if_pos hl.symm]
theorem uint_read {R : RdM} {n : Nat} {z : List UInt8} (hb : R.at_ ≤ R.bs.length) (h0 : R.e = 0) (hn : n < 18446744073709551616) (h : Rest R = uintL n ++ z) : R.uint.1 = n ∧ R.uint.2.e = 0 ∧ Rest R.uint.2 = z := by
  rcases uint_cases hb with ⟨-, a2, a3, -, -, a6⟩ | ⟨-, -, -, a4⟩
  · rw [a6] at h
    obtain ⟨h1, h2⟩ := uintL_inj a2 hn h
    exact ⟨h1, a3, h2⟩
  · exact absurd h (a4 h0 n z hn)

section
variable {w : World} {l r : List HP} {t p : Nat} {A : TabA} {R : RdM}

theorem tupto_c (n : Int) (z : List UInt8) (most : Nat) (hm : most ≤ 1099511627777) (h0 : R.e = 0) (hn : 0 ≤ n ∧ n ≤ most) (h : Rest R = uI n ++ z) [hf : Fo l (rdP T.wire_Reader) p R r] (hs : Sat w l) :
    Ret P F.dedup_upto #[.pointer (some ⟨p, 0, none⟩), .int .i64 (most : Int)] w fun vs w' => vs = [.int .i64 n] ∧ ∃ R' : RdM, R'.e = 0 ∧ Rest R' = z ∧ Sat w' (rdP T.wire_Reader p R' :: r) :=
  dedup_upto_calls _ _ <| by
    unfold dedup_upto
    have hb := (rd_bound (hs.perm hf.perm)).1
    obtain ⟨h1, h2, h3⟩ := uint_read hb h0 (n := n.toNat) (z := z) (by omega) h
    refine wp_call (ruint_c (p := p) hs) fun _ _ hs => ?_
    obtain ⟨rfl, hs⟩ := hs
    refine ret_of ?_
    rw [h1]
    refine wp_lt ?_
    rw [wu64m, Nat.mod_eq_of_lt (by omega)]
    refine wp_ifF ?_ (by omega)
    have e : IntKind.wrap .i64 ((n.toNat : Nat) : Int) = n := by rw [w64 (by omega) (by omega)]; omega
    rw [e]
    refine wp_lt ?_
    exact ⟨rfl, rfl, R.uint.2, h2, h3, hs⟩
theorem within_r (n lo hi : Int) (z : List UInt8) (h0 : R.e = 0) (hn : lo ≤ n ∧ n ≤ hi) (hn2 : -9223372036854775808 ≤ n ∧ n < 9223372036854775808) (h : Rest R = sintL n ++ z) [hf : Fo l (rdP T.wire_Reader) p R r] (hs : Sat w l) :
    Ret P F.wire_Reader_Within #[.pointer (some ⟨p, 0, none⟩), .int .i64 lo, .int .i64 hi] w fun vs w' => vs = [.int .i64 n] ∧ ∃ R' : RdM, R'.e = 0 ∧ Rest R' = z ∧ Sat w' (rdP T.wire_Reader p R' :: r) := by
  have hb := (rd_bound (hs.perm hf.perm)).1
  obtain ⟨h1, h2, h3⟩ := uint_read hb h0 (zig_lt hn2) h
  have e : R.within lo hi = (n, R.uint.2) := by
    unfold RdM.within
    rw [if_neg (by rw [h2]; simp), h1, zag_zig, if_neg (by omega)]
  have := rwithin_c (p := p) lo hi hs
  rw [e] at this
  exact Calls.mono this fun e w' ⟨vs, he, hv, hs⟩ => ⟨vs, he, hv, R.uint.2, h2, h3, hs⟩

theorem tmay_c (y : RowA) (nx : Int) (hy : okR y nx) (hnx : nx ≤ 1099511627777) (hs : Sat w l) : Ret P F.dedup_may #[.agg (encW y).toArray, .int .i64 nx] w fun vs w' => vs = [.bool true] ∧ Sat w' l :=
  dedup_may_calls y.pid y.epoch y.seq y.count y.base y.frm y.time nx <| by
    unfold dedup_may
    have e1 := hy.pid
    have e2 := hy.epoch
    have e3 := hy.seqs
    have e4 := hy.seq
    have e5 := hy.count
    have e6 := hy.base
    have e7 := hy.frm
    have e8 := hy.time
    refine wp_boxO hs fun a0 w' hs => ?_
    refine wp_ldO hs ?_
    refine wp_ldO hs ?_
    refine wp_ldO hs ?_
    refine wp_ldO hs ?_
    refine wp_ldO hs ?_
    refine wp_ifF ?_ (by omega)
    refine wp_ldO hs ?_
    refine wp_if (fun h => ?_) fun h => ?_
    · obtain ⟨g1, g2, g3⟩ := hy.none_ h
      refine wp_ldO hs ?_
      refine wp_ldO hs ?_
      refine wp_ldO hs ?_
      refine wp_lt ?_
      refine ⟨rfl, ?_, hs.tail⟩
      rw [g1, g2, g3]; rfl
    · obtain ⟨g1, g2, g3, g4⟩ := hy.some_ (by omega)
      refine wp_mid (fun v w' => v = (true, ()) ∧ Sat w' l) ?_ (by rintro _ w' ⟨rfl, hs⟩; refine wp_on ?_; exact ⟨rfl, rfl, hs⟩)
      refine wp_ldO hs ?_
      refine wp_ldG hs ?_
      refine wp_ifT ?_ g1
      refine wp_call (rnext_c y ⟨by omega, by omega⟩ hs) fun _ _ hs => ?_
      obtain ⟨rfl, hs⟩ := hs
      refine ret_of ?_
      refine wp_ldO hs ?_
      refine wp_ldO hs ?_
      refine wp_ldO hs ?_
      refine wp_ldO hs ?_
      refine wp_lt ?_
      refine wp_lv ⟨?_, hs.tail⟩
      rw [w64 (by omega) (by omega), decide_eq_true g2, decide_eq_true g3, decide_eq_true g4]; rfl

theorem tload_c (x : Sl) (hok : okTb A) (h100 : A.rows.length ≤ 100) [hx : FocR l x 1 ((bytesT A).flatMap encU)] (hcap : x.len ≤ x.cap) (hs : Sat w l) :
    Ret P F.dedup_Load #[x.v, .int .i64 A.most] w fun vs w' => ∃ t, vs = [.pointer (some ⟨t, 0, none⟩), .int .i64 0] ∧ Sat w' (tb t A :: l) :=
  dedup_Load_calls x _ <| by
    unfold dedup_Load
    have hbl := body_len h100
    have hnx := hok.next
    have hmost := hok.most
    have hmany := hok.many
    have hbl2 : (bytesT A).length ≤ 1000000000 := by
      unfold bytesT sealL
      rw [if_neg (by omega)]
      unfold headL
      simp only [List.length_append, four_len]; omega
    refine wp_call (tnew_c A.most hs) fun _ w' h => ?_
    obtain ⟨-, -, t, rfl, hs⟩ := h.resolve_right (fun h => by have := h.1; omega)
    refine ret_of ?_
    refine wp_lt ?_
    refine wp_ifF ?_ (by simp)
    refine wp_call (fopen_c x (bytesT A) hcap hbl2 hs) fun _ _ hs => ?_
    obtain ⟨z, rfl, hs⟩ := hs
    refine ret_of ?_
    have ho : openL (bytesT A) = some (bodyT A) := open_seal (by omega)
    rw [ho] at hs ⊢
    have hs : Sat _ (slc T.uint8 1 z ((bodyT A).flatMap encU) :: tb t ⟨A.most, 0, []⟩ :: l) := hs
    refine wp_lt ?_
    refine wp_ifF ?_ (by simp)
    refine wp_call (newreader_c z (bodyT A) (by omega) hs) fun _ _ hs => ?_
    obtain ⟨p, rfl, hs⟩ := hs
    refine ret_of ?_
    have hs : Sat _ (rdP T.wire_Reader p ⟨bodyT A, 0, 0⟩ :: tb t ⟨A.most, 0, []⟩ :: l) := hs.sub
    have hR : Rest ⟨bodyT A, 0, 0⟩ = uI A.next ++ (uI (A.rows.length : Int) ++ A.rows.flatMap enc7) := by rw [lenI]; rfl
    refine wp_call (tupto_c (p := p) A.next _ 1099511627777 (by omega) rfl (by omega) hR hs) fun _ w' h => ?_
    obtain ⟨rfl, R1, h1, hR1, hs⟩ := h
    refine ret_of ?_
    obtain ⟨m, -, hs⟩ := tb_open (hs.pick [1])
    refine wp_nn ?_
    refine wp_stO hs fun w' hs => ?_
    refine wp_call (tupto_c (p := p) (A.rows.length : Int) _ 4096 (by omega) h1 (by omega) hR1 hs) fun _ w' h => ?_
    obtain ⟨rfl, R2, h2, hR2, hs⟩ := h
    refine ret_of ?_
    refine wp_lt ?_
    refine wp_nn ?_
    refine wp_ldO hs ?_
    refine wp_ifF ?_ (by omega)
    have hs : Sat _ (rdP T.wire_Reader p R2 :: pt t (.cells #[.int .i64 A.most, .int .i64 A.next, .map (some m)] T.dedup_Table) :: mapP ekI evW m (keyed (A.rows.take 0)) :: l) := hs
    refine wp_mid (fun _ w' => ∃ R : RdM, R.e = 0 ∧ Rest R = [] ∧ Sat w' (rdP T.wire_Reader p R :: tb t A :: l)) ?_ ?_
    · refine wp_loop (fun k u w => ∃ (i : Nat) (last : Int) (R : RdM), u = (last, (i : Int), ()) ∧ i ≤ A.rows.length ∧ A.rows.length - i = k ∧ (∀ y ∈ A.rows.drop i, last < y.pid) ∧ R.e = 0 ∧ Rest R = (A.rows.drop i).flatMap enc7 ∧
        Sat w (rdP T.wire_Reader p R :: pt t (.cells #[.int .i64 A.most, .int .i64 A.next, .map (some m)] T.dedup_Table) :: mapP ekI evW m (keyed (A.rows.take i)) :: l)) A.rows.length
        ⟨0, 0, R2, rfl, by omega, rfl, fun y hy => by have := (hok.row y hy).pid; omega, h2, hR2, hs⟩ ?_
      clear hs hR hR1 hR2 h1 h2
      rintro k _ w ⟨i, last, R, rfl, hi, hk, hlast, h0, hR, hs⟩
      refine wp_on ?_
      refine wp_if (fun hc => ?_) fun hc => ?_
      rotate_left
      · obtain rfl : i = A.rows.length := by omega
        rw [List.drop_length] at hR
        rw [List.take_length] at hs
        exact wp_pass (wp_lv ⟨R, h0, hR, (tb_mk m hok (hs.pick [1, 1])).pick [1]⟩)
      have hil : i < A.rows.length := by omega
      have hdr : A.rows.drop i = A.rows[i] :: A.rows.drop (i + 1) := List.drop_eq_getElem_cons hil
      have hok1 := hok.row _ (List.getElem_mem hil)
      have hsort : ∀ y ∈ A.rows.drop (i + 1), A.rows[i].pid < y.pid := fun y hy => by
        have h := hok.byPid.sublist (List.drop_sublist i A.rows)
        rw [hdr, List.pairwise_cons] at h
        exact h.1 y hy
      have hpre : ∀ y ∈ A.rows.take i, y.pid < A.rows[i].pid := fun y hy => by
        have h := hok.byPid
        rw [← List.take_append_drop i A.rows, List.pairwise_append] at h
        exact h.2.2 y hy _ (by rw [hdr]; exact List.mem_cons_self ..)
      have htk : A.rows.take (i + 1) = A.rows.take i ++ [A.rows[i]] := List.take_succ_eq_append_getElem hil
      rw [hdr] at hR hlast
      have hlt := hlast _ (List.mem_cons_self ..)
      generalize A.rows[i] = y at *
      have e1 := hok1.pid
      have e2 := hok1.epoch
      have e3 := hok1.seqs
      have e4 := hok1.seq
      have e5 := hok1.count
      have e6 := hok1.base
      have e7 := hok1.frm
      have e8 := hok1.time
      have e9 : y.base ≤ 1099511627776 ∧ y.frm ≤ 1099511627776 ∧ y.seq ≤ 2147483647 := by
        rcases Int.lt_or_le 0 y.count with hc | hc
        · have := hok1.some_ hc; omega
        · have := hok1.none_ (by omega); omega
      have hR : Rest R = uI y.pid ++ (uI y.epoch ++ (uI y.seq ++ (uI y.count ++ (uI y.base ++ (sintL y.frm ++ (uI y.time ++ (A.rows.drop (i + 1)).flatMap enc7)))))) := by
        rw [hR, List.flatMap_cons]; unfold enc7 five; simp only [List.append_assoc]
      refine wp_call (tupto_c (p := p) y.pid _ 1048576 (by omega) h0 (by omega) hR hs) fun _ w' h => ?_
      obtain ⟨rfl, R1, h1, hR1, hs⟩ := h
      refine ret_of ?_
      refine wp_call (tupto_c (p := p) y.epoch _ 32768 (by omega) h1 (by omega) hR1 hs) fun _ w' h => ?_
      obtain ⟨rfl, R2, h2, hR2, hs⟩ := h
      refine ret_of ?_
      refine wp_call (tupto_c (p := p) y.seq _ 2147483647 (by omega) h2 (by omega) hR2 hs) fun _ w' h => ?_
      obtain ⟨rfl, R3, h3, hR3, hs⟩ := h
      refine ret_of ?_
      refine wp_call (tupto_c (p := p) y.count _ 64 (by omega) h3 (by omega) hR3 hs) fun _ w' h => ?_
      obtain ⟨rfl, R4, h4, hR4, hs⟩ := h
      refine ret_of ?_
      refine wp_call (tupto_c (p := p) y.base _ 1099511627776 (by omega) h4 (by omega) hR4 hs) fun _ w' h => ?_
      obtain ⟨rfl, R5, h5, hR5, hs⟩ := h
      refine ret_of ?_
      refine wp_call (within_r (p := p) y.frm (-1) 1099511627776 _ h5 (by omega) (by omega) hR5 hs) fun _ w' h => ?_
      obtain ⟨rfl, R6, h6, hR6, hs⟩ := h
      refine ret_of ?_
      refine wp_call (tupto_c (p := p) y.time _ 1099511627776 (by omega) h6 (by omega) hR6 hs) fun _ w' h => ?_
      obtain ⟨rfl, R7, h7, hR7, hs⟩ := h
      refine ret_of ?_
      refine wp_newO hs fun c w' hs => ?_
      refine wp_stG hs fun w' hs => ?_
      have hs : Sat w' (pt c (.cells #[.int .i64 y.pid, .int .i64 y.epoch, .int .i64 y.seq, .int .i64 y.count, .int .i64 y.base, .int .i64 y.frm, .int .i64 y.time] T.dedup_Row) :: rdP T.wire_Reader p R7 :: pt t (.cells #[.int .i64 A.most, .int .i64 A.next, .map (some m)] T.dedup_Table) :: mapP ekI evW m (keyed (A.rows.take i)) :: l) := hs
      refine wp_mid (fun u w' => u = (false, ()) ∧ Sat w' (pt c (.cells #[.int .i64 y.pid, .int .i64 y.epoch, .int .i64 y.seq, .int .i64 y.count, .int .i64 y.base, .int .i64 y.frm, .int .i64 y.time] T.dedup_Row) :: rdP T.wire_Reader p R7 :: pt t (.cells #[.int .i64 A.most, .int .i64 A.next, .map (some m)] T.dedup_Table) :: mapP ekI evW m (keyed (A.rows.take i)) :: l)) ?_ ?_
      · refine wp_tk hs fun w' hs => ?_
        refine wp_call (rerr_c (p := p) hs) fun _ _ hs => ?_
        obtain ⟨rfl, hs⟩ := hs
        refine ret_of ?_
        refine wp_ldG hs ?_
        refine wp_nng ?_
        refine wp_ldO hs ?_
        refine wp_ifF ?_ (by rw [h7]; simp)
        refine wp_call (tmay_c y A.next hok1 (by omega) hs) fun _ _ hs => ?_
        obtain ⟨rfl, hs⟩ := hs
        refine ret_of ?_
        refine wp_ldO hs ?_
        refine wp_untick ?_
        refine wp_lv ⟨?_, hs.sub⟩
        rw [decide_eq_false (by omega)]; rfl
      clear hs
      rintro _ w ⟨rfl, hs⟩
      refine wp_on ?_
      refine wp_ifF ?_ (by simp)
      refine wp_tk hs fun w' hs => ?_
      refine wp_nn ?_
      refine wp_ldO hs ?_
      refine wp_ldO hs ?_
      refine wp_ldG hs ?_
      have hno : ∀ u, (y.pid, u) ∉ keyed (A.rows.take i) := fun u hu => by
        obtain ⟨v, hv, e⟩ := List.mem_map.1 hu
        simp only [Prod.mk.injEq] at e
        have := hpre v hv; omega
      refine wp_mset hs (keyed (A.rows.take i)) (.inr ⟨hno, rfl⟩) y fun w' hs => ?_
      refine wp_untick ?_
      refine wp_ldO hs ?_
      refine wp_lt ?_
      refine wp_dn (us' := [.int .i64 y.pid, .int .i64 ((i + 1 : Nat) : Int)]) (by (try simp (disch := omega) only [w64]); first | rfl | (congr; omega)) ?_
      refine wp_lp (A.rows.length - (i + 1)) ?_
      have hperm : ((y.pid, y) :: keyed (A.rows.take i)).Perm (keyed (A.rows.take (i + 1))) := by
        rw [htk]; unfold keyed; rw [List.map_append]
        exact List.perm_append_comm (l₁ := [(y.pid, y)])
      have hs := hs.mapPerm hperm
      exact ⟨i + 1, y.pid, R7, rfl, by omega, rfl, hsort, h7, hR7, hs.sub⟩
    clear hs
    rintro _ w ⟨R, h0, hR, hs⟩
    refine wp_on ?_
    have hb := (rd_bound hs).1
    refine wp_call (rend_c (p := p) hs) fun _ _ hs => ?_
    obtain ⟨rfl, hs⟩ := hs
    refine ret_of ?_
    have hd : R.done.e = 0 := (done_cases hb).2 ⟨h0, hR⟩
    rw [hd]
    refine wp_ifF ?_ (by simp)
    exact ⟨rfl, t, rfl, hs.tail⟩
theorem tload_bad (x : Sl) (most : Int) (h : most < 1 ∨ most > 4096) (hs : Sat w l) : Ret P F.dedup_Load #[x.v, .int .i64 most] w fun vs w' => vs = [.pointer none, .int .i64 2] ∧ Sat w' l :=
  dedup_Load_calls x _ <| by
    unfold dedup_Load
    refine wp_call (tnew_c most hs) fun _ w' h' => ?_
    obtain ⟨-, rfl, hs⟩ := h'.resolve_left (fun h' => by have := h'.1; have := h'.2.1; omega)
    refine ret_of ?_
    refine wp_lt ?_
    refine wp_ifT ?_ (by simp)
    refine wp_lt ?_
    exact ⟨rfl, rfl, hs⟩
end
end Go.Dec
