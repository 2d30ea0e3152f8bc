/- Isolation: IsoGrows. -/
import Derived.Test.YtpjfebedfejmgaaH1
namespace Go.Dec
set_option linter.unusedVariables false
set_option linter.unusedSimpArgs false

section
variable {w : World} {l r : List HP} {v : Nat} {A : ViewA}

theorem grows_law (x : Sl) (ops : List OpI) [hx : FocR l x 10 (ops.flatMap encO)] (hlen : ops.length ≤ 9223372036854775807) (hops : ∀ o ∈ ops, OpJ l o) (hs : Sat w l) :
    Ret P F.towpathlaw08_IsoGrows #[x.v] w fun vs w' => vs = [.bool true] ∧ Sat w' l :=
  towpathlaw08_IsoGrows_calls x <| by
    unfold towpathlaw08_IsoGrows
    have hl := hs.slen x (xs := ops) (enc := encO)
    refine wp_call (inew_c hs) fun _ _ hs => ?_
    obtain ⟨v, rfl, hs⟩ := hs
    refine ret_of ?_
    refine wp_ifF ?_ (by simp)
    refine wp_mid (fun _ w' => Sat w' l) ?_ ?_
    rotate_left
    · rintro _ w' hs
      refine wp_on ?_
      refine wp_call (awake8 hs) fun _ _ hs => ?_
      obtain ⟨rfl, hs⟩ := hs
      refine ret_of ?_
      refine wp_lt ?_
      exact ⟨rfl, rfl, hs⟩
    have hs0 : Sat _ (vw v ⟨0, [], []⟩ :: slc T.rec_At 5 ⟨none, 0, 0⟩ ((pickA ⟨0, [], []⟩ []).flatMap encAt) :: slc T.api_Batch 7 ⟨none, 0, 0⟩ (([] : List BatM).flatMap encB7) :: batsP [] :: l) := (((hs.all_nil').slc_nil (T := T.api_Batch) (sz := 7)).slc_nil (T := T.rec_At) (sz := 5)).pick [3, 0, 0]
    refine wp_loop (fun k p w => ∃ (i : Nat) (z u : Sl) (bs : List BatM) (A : ViewA), p = (z, u, stableA A, (i : Int), ()) ∧ i ≤ ops.length ∧ ops.length - i = k ∧ Hist bs A ∧ bs.length ≤ i ∧ i ≤ 50 ∧ (∀ b ∈ bs, b.rs.length ≤ 5) ∧
      Sat w (vw v A :: slc T.rec_At 5 u ((pickA A bs).flatMap encAt) :: slc T.api_Batch 7 z (bs.flatMap encB7) :: batsP bs :: l)) ops.length
      ⟨0, ⟨none, 0, 0⟩, ⟨none, 0, 0⟩, [], ⟨0, [], []⟩, rfl, by omega, rfl, .nil, by simp, by omega, by simp, hs0⟩ ?_
    clear hs hs0
    rintro k _ w ⟨i, z, u, bs, A, rfl, hi, hk, hh, hbl, hi50, hb5, hs⟩
    refine wp_on ?_
    refine wp_if (fun hc => ?_) fun hc => ?_
    rotate_left
    · exact wp_pass (wp_lv hs.tail.tail.tail.tail)
    have hil : i < ops.length := by omega
    have hin := hops _ (List.getElem_mem hil)
    have hR : FocR l ops[i].b.x 4 (ops[i].b.rs.flatMap encR) := ⟨hin.rd⟩
    refine wp_mid (fun p w' => ∃ (z u : Sl) (bs' : List BatM) (A' : ViewA), p = (z, u, stableA A', ()) ∧ Hist bs' A' ∧ bs'.length ≤ i + 1 ∧ i + 1 ≤ 50 ∧ (∀ b ∈ bs', b.rs.length ≤ 5) ∧
      Sat w' (vw v A' :: slc T.rec_At 5 u ((pickA A' bs').flatMap encAt) :: slc T.api_Batch 7 z (bs'.flatMap encB7) :: batsP bs' :: l)) ?_ ?_
    rotate_left
    · rintro _ w' ⟨z, u, bs', A', rfl, h1, h2, h2', h3, hs⟩
      refine wp_on ?_
      refine wp_dn (us' := [z.v, u.v, .int .i64 (stableA A'), .int .i64 ((i + 1 : Nat) : Int)]) (by (try simp (disch := omega) only [w64]); first | rfl | (congr; omega)) ?_
      refine wp_lp (ops.length - (i + 1)) ?_
      exact ⟨i + 1, z, u, bs', A', rfl, by omega, rfl, h1, h2, h2', h3, hs⟩
    refine wp_ixA hs i hil ?_
    refine wp_newO hs fun a15 w' hs => ?_
    refine wp_lt ?_
    refine wp_stG hs fun w' hs => ?_
    refine wp_if (fun h => ?_) fun h => ?_
    · exact wp_pass (wp_pass (wp_lv hs.tail.tail.tail.tail.tail))
    have hi49 : i < 50 := by
      apply Nat.lt_of_not_le
      intro h2
      exact h (by omega)
    refine wp_mid (fun q w' => ∃ (c : Nat) (y : Sl), q = (⟨c, 0, none⟩, ()) ∧ Sat w' (pt c (.cells (encB7 (smallB ops[i] A.next y)).toArray T.api_Batch) :: slc T.api_Record 4 y (((ops[i].b.rs.take 5).map cutR).flatMap encR) :: vw v A :: slc T.rec_At 5 u ((pickA A bs).flatMap encAt) :: slc T.api_Batch 7 z (bs.flatMap encB7) :: batsP bs :: l)) ?_ ?_
    · refine wp_tk hs fun w' hs => ?_
      refine wp_hdG hs ?_
      refine wp_both ?_ ?_
      · refine wp_call (inext_c (v := v) hs) fun _ w' hs => ?_
        obtain ⟨rfl, hs⟩ := hs
        refine ret_of ?_ ⟨trivial, fun _ => run_ldG hs⟩
        refine wp_both ?_ ?_
        · refine wp_untick ?_
          refine wp_call (small8_c ops[i] A.next hs) fun _ _ hs => ?_
          obtain ⟨y, rfl, hs⟩ := hs
          refine ret_of ?_
          refine wp_newO hs fun c w' hs => ?_
          refine wp_stG hs fun w' hs => ?_
          refine wp_untick ?_
          refine wp_lv ⟨c, y, rfl, ?_⟩
          have hs : Sat w' (pt c (.cells (encB7 (smallB ops[i] A.next y)).toArray T.api_Batch) :: _) := hs
          exact hs.sub
        · refine wp_newO hs (fun c w' hs => ?_) (fun c w' hs => ⟨trivial, fun _ => run_ldG hs⟩)
          refine wp_untick ?_
          refine wp_call (small8_c ops[i] A.next hs) fun _ _ hs => ?_
          obtain ⟨y, rfl, hs⟩ := hs
          refine ret_of ?_
          refine wp_stG hs fun w' hs => ?_
          refine wp_untick ?_
          refine wp_lv ⟨c, y, rfl, ?_⟩
          have hs : Sat w' (pt c (.cells (encB7 (smallB ops[i] A.next y)).toArray T.api_Batch) :: _) := hs
          exact hs.sub
      · refine wp_newO hs (fun c w' hs => ?_) (fun c w' hs => ⟨trivial, fun _ => run_ldG hs⟩)
        refine wp_call (inext_c (v := v) hs) fun _ w' hs => ?_
        obtain ⟨rfl, hs⟩ := hs
        refine ret_of ?_ ⟨trivial, fun _ => run_ldG hs⟩
        refine wp_untick ?_
        refine wp_call (small8_c ops[i] A.next hs) fun _ _ hs => ?_
        obtain ⟨y, rfl, hs⟩ := hs
        refine ret_of ?_
        refine wp_stG hs fun w' hs => ?_
        refine wp_untick ?_
        refine wp_lv ⟨c, y, rfl, ?_⟩
        have hs : Sat w' (pt c (.cells (encB7 (smallB ops[i] A.next y)).toArray T.api_Batch) :: _) := hs
        exact hs.sub
    clear hs
    rintro _ w ⟨c, y, rfl, hs⟩
    refine wp_on ?_
    have hy : (smallB ops[i] A.next y).x = y := rfl
    have hrs : (smallB ops[i] A.next y).rs = (ops[i].b.rs.take 5).map cutR := rfl
    have hr5 : (smallB ops[i] A.next y).rs.length ≤ 5 := by rw [hrs, List.length_map, List.length_take]; omega
    rw [← hrs] at hs
    generalize hbb : smallB ops[i] A.next y = b at *
    subst hy
    have hs : Sat w (pt c (.cells #[.int .i64 b.base, .int .i64 b.pid, .int .i64 b.epoch, .int .i64 b.seq, .int .i64 b.kind, .int .i64 b.time, .slice b.x.a b.x.len b.x.cap] T.api_Batch) :: slc T.api_Record 4 b.x (b.rs.flatMap encR) :: vw v A :: slc T.rec_At 5 u ((pickA A bs).flatMap encAt) :: slc T.api_Batch 7 z (bs.flatMap encB7) :: batsP bs :: l) := hs
    refine wp_ldG hs ?_
    refine wp_call (itake_c (v := v) b hs) fun _ _ hs => ?_
    obtain ⟨rfl, hs⟩ := hs
    refine ret_of ?_
    by_cases h0 : codeA A b = 0
    rotate_left
    · have e : takeA A b = (codeA A b, A) := by unfold takeA; rw [if_pos h0]
      rw [e] at hs ⊢
      refine wp_ifT ?_ h0
      exact wp_lv ⟨z, u, bs, A, rfl, hh, by omega, by omega, hb5, hs.sub⟩
    have e : takeA A b = (0, takeV A b) := by unfold takeA; rw [if_neg (by rw [h0]; simp)]
    rw [e] at hs ⊢
    refine wp_ifF ?_ (by simp)
    refine wp_ldG hs ?_
    refine wp_ap0 hs (xs := bs) (enc := encB7) b (fun z w' hs => ?_)
    have hh' : Hist (bs ++ [b]) (takeV A b) := .snoc hh h0
    have hb5' : ∀ c ∈ bs ++ [b], c.rs.length ≤ 5 := fun c hc => by
      rcases List.mem_append.1 hc with hc | hc
      · exact hb5 c hc
      · rw [List.mem_singleton.1 hc]; exact hr5
    have hbl' : (bs ++ [b]).length ≤ i + 1 := by rw [List.length_append]; simp; omega
    obtain ⟨more, hmore⟩ := pick_grow hh h0
    have hmono := stable_mono (hist_ok hh) h0
    have hok' := hist_ok hh'
    generalize takeV A b = A' at *
    have hs : Sat w' (slc T.api_Record 4 b.x (b.rs.flatMap encR) :: batsP bs :: slc T.api_Batch 7 z ((bs ++ [b]).flatMap encB7) :: slc T.rec_At 5 u ((pickA A bs).flatMap encAt) :: vw v A' :: l) := hs.sub
    have hs : Sat w' (vw v A' :: slc T.rec_At 5 u ((pickA A bs).flatMap encAt) :: slc T.api_Batch 7 z ((bs ++ [b]).flatMap encB7) :: batsP (bs ++ [b]) :: l) := (bats_put hs).pick [3, 2, 1]
    generalize bs ++ [b] = bs' at *
    have hwas := hs.slen u (xs := pickA A bs) (enc := encAt)
    refine wp_call (ipick_c (v := v) z bs' (fun c hc => by have := bats_rd (l := l) hc; infer_instance) (by omega) (fun c hc => by have := hb5' c hc; omega) hs) fun _ w' h => ?_
    obtain ⟨t, rfl, hs⟩ := h
    refine ret_of ?_
    have hnow := hs.slen t (xs := pickA A' bs') (enc := encAt)
    have hlm : (pickA A' bs').length = (pickA A bs).length + more.length := by rw [hmore, List.length_append]
    refine wp_mid (fun p w' => p = (false, ()) ∧ Sat w' (slc T.rec_At 5 t ((pickA A' bs').flatMap encAt) :: vw v A' :: slc T.rec_At 5 u ((pickA A bs).flatMap encAt) :: slc T.api_Batch 7 z (bs'.flatMap encB7) :: batsP bs' :: l)) ?_ ?_
    · refine wp_ifF ?_ (by omega)
      refine wp_call (istable_c (v := v) hs) fun _ _ hs => ?_
      obtain ⟨rfl, hs⟩ := hs
      refine ret_of ?_
      refine wp_ifF ?_ (by omega)
      refine wp_call (istable_c (v := v) hs) fun _ _ hs => ?_
      obtain ⟨rfl, hs⟩ := hs
      refine ret_of ?_
      refine wp_call (inext_c (v := v) hs) fun _ _ hs => ?_
      obtain ⟨rfl, hs⟩ := hs
      refine ret_of ?_
      have := (stable_le hok').1
      exact wp_lv ⟨by rw [decide_eq_false (by omega)], hs.sub⟩
    clear hs
    rintro _ w ⟨rfl, hs⟩
    refine wp_on ?_
    refine wp_ifF ?_ (by simp)
    refine wp_mid (fun _ w' => Sat w' (slc T.rec_At 5 t ((pickA A' bs').flatMap encAt) :: vw v A' :: slc T.rec_At 5 u ((pickA A bs).flatMap encAt) :: slc T.api_Batch 7 z (bs'.flatMap encB7) :: batsP bs' :: l)) ?_ ?_
    · refine wp_loop (fun k p w => ∃ j : Nat, p = ((j : Int), ()) ∧ j ≤ (pickA A bs).length ∧ (pickA A bs).length - j = k ∧ Sat w (slc T.rec_At 5 t ((pickA A' bs').flatMap encAt) :: vw v A' :: slc T.rec_At 5 u ((pickA A bs).flatMap encAt) :: slc T.api_Batch 7 z (bs'.flatMap encB7) :: batsP bs' :: l)) (pickA A bs).length ⟨0, rfl, by omega, rfl, hs⟩ ?_
      clear hs
      rintro k _ w ⟨j, rfl, hj, hk, hs⟩
      refine wp_on ?_
      refine wp_if (fun hc => ?_) fun hc => ?_
      rotate_left
      · exact wp_pass (wp_lv hs)
      have hjl : j < (pickA A bs).length := by omega
      have hjl2 : j < (pickA A' bs').length := by omega
      have hget : (pickA A' bs')[j] = (pickA A bs)[j] := by
        have h1 : (pickA A' bs')[j]? = some (pickA A bs)[j] := by rw [hmore, List.getElem?_append_left hjl, List.getElem?_eq_getElem hjl]
        rw [List.getElem?_eq_getElem hjl2] at h1
        exact Option.some.inj h1
      refine wp_lt ?_
      refine wp_tk hs fun w' hs => ?_
      refine wp_ixA hs (xs := pickA A bs) (enc := encAt) j hjl ?_
      refine wp_ixA hs (xs := pickA A' bs') (enc := encAt) j hjl2 ?_
      rw [hget]
      refine wp_untick ?_
      refine wp_ite_f ?_ ?_
      · simp [beq_bytes]
      have hpl : (j : Int) + 1 < 9223372036854775808 := by
        have h1 := pickA_len A (n := 5) bs hb5
        omega
      refine wp_dn (us' := [.int .i64 ((j + 1 : Nat) : Int)]) (by (try simp (disch := omega) only [w64]); first | rfl | (congr; omega)) ?_
      refine wp_lp ((pickA A bs).length - (j + 1)) ?_
      exact ⟨j + 1, rfl, by omega, rfl, hs⟩
    clear hs
    rintro _ w hs
    refine wp_on ?_
    refine wp_call (istable_c (v := v) hs) fun _ _ hs => ?_
    obtain ⟨rfl, hs⟩ := hs
    refine ret_of ?_
    refine wp_lt ?_
    refine wp_lv ⟨z, t, bs', A', rfl, hh', by omega, by omega, hb5', hs.sub⟩

end
end Go.Dec
