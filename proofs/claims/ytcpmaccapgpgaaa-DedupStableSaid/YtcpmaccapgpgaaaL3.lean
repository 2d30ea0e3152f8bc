/- Dedup: DedupStable, the walk. -/
import Derived.Test.YtcpmaccapgpgaaaL2
namespace Go.Dec
set_option linter.unusedVariables false
set_option linter.unusedSimpArgs false

theorem stab0 (m : Int) : stableT ⟨m, 0, []⟩ = 0 := by kernel_rfl
theorem any_take {bs : List BatM} {p : Int} {j : Nat} (hj : j < bs.length) : ((bs.take (j + 1)).any fun x => decide (x.pid = p)) = (((bs.take j).any fun x => decide (x.pid = p)) || decide (bs[j].pid = p)) := by
  rw [List.take_succ_eq_append_getElem hj, List.any_append]; simp
theorem left_take {bs : List BatM} {b : BatM} {j : Nat} (hj : j < bs.length) : leftB (bs.take (j + 1)) b = leftB (bs.take j) b ++ if bs[j].pid = b.pid ∧ markB b = true then [] else [bs[j]] := by
  unfold leftB
  rw [List.take_succ_eq_append_getElem hj, List.filter_append]
  congr 1
  by_cases h1 : bs[j].pid = b.pid <;> cases markB b <;> simp [h1]

section
variable {w : World} {l r : List HP}

theorem stable_law (x : Sl) (ops : List OpI) [hx : FocR l x 10 (ops.flatMap encO)] (hlen : ops.length ≤ 9223372036854775807) (hops : ∀ o ∈ ops, OpJ l o) (hs : Sat w l) :
    Ret P F.towpathlaw07_DedupStable #[x.v] w fun vs w' => vs = [.bool true] ∧ Sat w' l :=
  towpathlaw07_DedupStable_calls x <| by
    unfold towpathlaw07_DedupStable
    have hl := hs.slen x (xs := ops) (enc := encO)
    refine wp_call (tnew_c 4096 hs) fun _ w' h => ?_
    obtain ⟨-, -, t, rfl, hs⟩ := h.resolve_right (fun h => by have := h.1; omega)
    refine ret_of ?_
    refine wp_lt ?_
    refine wp_ifF ?_ (by simp)
    refine wp_mid (fun _ w' => Sat w' l) ?_ (by rintro _ w' hs; refine wp_on ?_; refine wp_call (awake7 hs) fun _ _ hs => ?_; obtain ⟨rfl, hs⟩ := hs; refine ret_of ?_; refine wp_lt ?_; exact ⟨rfl, rfl, hs⟩)
    have hs0 : Sat _ (tb t ⟨4096, 0, []⟩ :: slc T.api_Batch 7 ⟨none, 0, 0⟩ (([] : List BatM).flatMap encB7) :: l) := (hs.slc_nil (T := T.api_Batch) (sz := 7)).pick [1, 0]
    refine wp_loop (fun k q w => ∃ (i : Nat) (z : Sl) (bs : List BatM) (A : TabA), q = (z, stableT A, (i : Int), ()) ∧ i ≤ ops.length ∧ ops.length - i = k ∧ StabI bs A ∧ bs.length ≤ i ∧ i ≤ 60 ∧ Sat w (tb t A :: slc T.api_Batch 7 z (bs.flatMap encB7) :: l)) ops.length
      ⟨0, ⟨none, 0, 0⟩, [], ⟨4096, 0, []⟩, by rw [stab0]; rfl, by omega, rfl, .nil, by simp, by omega, hs0⟩ ?_
    clear hs hs0
    rintro k _ w ⟨i, z, bs, A, rfl, hi, hk, hI, hbl, hi60, hs⟩
    refine wp_on ?_
    refine wp_if (fun hc => ?_) fun hc => ?_
    rotate_left
    · exact wp_pass (wp_lv hs.tail.tail)
    have hil : i < ops.length := by omega
    have hin := hops _ (List.getElem_mem hil)
    have hR : FocR l ops[i].b.x 4 (ops[i].b.rs.flatMap encR) := ⟨hin.rd⟩
    have hokA := tb_ok hs
    refine wp_mid (fun q w' => ∃ (z : Sl) (bs' : List BatM) (A' : TabA), q = (z, stableT A', ()) ∧ StabI bs' A' ∧ bs'.length ≤ i + 1 ∧ i + 1 ≤ 60 ∧ Sat w' (tb t A' :: slc T.api_Batch 7 z (bs'.flatMap encB7) :: l)) ?_ ?_
    rotate_left
    · rintro _ w' ⟨z, bs', A', rfl, h1, h2, h3, hs⟩
      refine wp_on ?_
      refine wp_dn (us' := [z.v, .int .i64 (stableT A'), .int .i64 ((i + 1 : Nat) : Int)]) (by (try simp (disch := omega) only [w64]); first | rfl | (congr; omega)) ?_
      refine wp_lp (ops.length - (i + 1)) ?_
      exact ⟨i + 1, z, bs', A', rfl, by omega, rfl, h1, h2, h3, hs⟩
    refine wp_ixA hs i hil ?_
    refine wp_newO hs fun a15 w' hs => ?_
    refine wp_lt ?_
    refine wp_stG hs fun w' hs => ?_
    refine wp_if (fun h => ?_) fun h => ?_
    · exact wp_pass (wp_pass (wp_lv hs.tail.tail.tail))
    have hi59 : i < 60 := by
      apply Nat.lt_of_not_le
      intro h2
      exact h (by omega)
    refine wp_mid (fun q w' => ∃ (c : Nat) (y : Sl), q = (⟨c, 0, none⟩, ()) ∧ Sat w' (pt c (.cells (encB7 (smallB ops[i] A.next y)).toArray T.api_Batch) :: slc T.api_Record 4 y (((ops[i].b.rs.take 8).map cutR).flatMap encR) :: tb t A :: slc T.api_Batch 7 z (bs.flatMap encB7) :: l)) ?_ ?_
    · refine wp_tk hs fun w' hs => ?_
      refine wp_hdG hs ?_
      refine wp_both ?_ ?_
      · refine wp_call (tnext_c (t := t) hs) fun _ w' hs => ?_
        obtain ⟨rfl, hs⟩ := hs
        refine ret_of ?_ ⟨trivial, fun _ => run_ldG hs⟩
        refine wp_both ?_ ?_
        · refine wp_untick ?_
          refine wp_call (small8_c ops[i] A.next hs) fun _ _ hs => ?_
          obtain ⟨y, rfl, hs⟩ := hs
          refine ret_of ?_
          refine wp_newO hs fun c w' hs => ?_
          refine wp_stG hs fun w' hs => ?_
          refine wp_untick ?_
          refine wp_lv ⟨c, y, rfl, ?_⟩
          have hs : Sat w' (pt c (.cells (encB7 (smallB ops[i] A.next y)).toArray T.api_Batch) :: _) := hs
          exact hs.sub
        · refine wp_newO hs (fun c w' hs => ?_) (fun c w' hs => ⟨trivial, fun _ => run_ldG hs⟩)
          refine wp_untick ?_
          refine wp_call (small8_c ops[i] A.next hs) fun _ _ hs => ?_
          obtain ⟨y, rfl, hs⟩ := hs
          refine ret_of ?_
          refine wp_stG hs fun w' hs => ?_
          refine wp_untick ?_
          refine wp_lv ⟨c, y, rfl, ?_⟩
          have hs : Sat w' (pt c (.cells (encB7 (smallB ops[i] A.next y)).toArray T.api_Batch) :: _) := hs
          exact hs.sub
      · refine wp_newO hs (fun c w' hs => ?_) (fun c w' hs => ⟨trivial, fun _ => run_ldG hs⟩)
        refine wp_call (tnext_c (t := t) hs) fun _ w' hs => ?_
        obtain ⟨rfl, hs⟩ := hs
        refine ret_of ?_ ⟨trivial, fun _ => run_ldG hs⟩
        refine wp_untick ?_
        refine wp_call (small8_c ops[i] A.next hs) fun _ _ hs => ?_
        obtain ⟨y, rfl, hs⟩ := hs
        refine ret_of ?_
        refine wp_stG hs fun w' hs => ?_
        refine wp_untick ?_
        refine wp_lv ⟨c, y, rfl, ?_⟩
        have hs : Sat w' (pt c (.cells (encB7 (smallB ops[i] A.next y)).toArray T.api_Batch) :: _) := hs
        exact hs.sub
    clear hs
    rintro _ w ⟨c, y, rfl, hs⟩
    refine wp_on ?_
    have hy : (smallB ops[i] A.next y).x = y := rfl
    have hrs : (smallB ops[i] A.next y).rs = (ops[i].b.rs.take 8).map cutR := rfl
    rw [← hrs] at hs
    generalize smallB ops[i] A.next y = b at *
    subst hy
    have hs : Sat w (tb t A :: pt c (.cells #[.int .i64 b.base, .int .i64 b.pid, .int .i64 b.epoch, .int .i64 b.seq, .int .i64 b.kind, .int .i64 b.time, .slice b.x.a b.x.len b.x.cap] T.api_Batch) :: slc T.api_Record 4 b.x (b.rs.flatMap encR) :: slc T.api_Batch 7 z (bs.flatMap encB7) :: l) := hs.pick [2, 0, 0]
    refine wp_ldG hs ?_
    refine wp_call (ttake_c (t := t) b hs) fun _ _ hs => ?_
    obtain ⟨rfl, hs⟩ := hs
    refine ret_of ?_
    refine wp_mid (fun u w' => ∃ (z : Sl) (bs' : List BatM) (A' : TabA), u = (z, ()) ∧ StabI bs' A' ∧ bs'.length ≤ i + 1 ∧ stableT A ≤ stableT A' ∧ Sat w' (tb t A' :: slc T.api_Batch 7 z (bs'.flatMap encB7) :: l)) ?_ ?_
    · by_cases h0 : ((judgeA A b).2 = 0 ∧ (judgeA A b).1.again = false) ∧ A.next ≤ b.base
      rotate_left
      · obtain ⟨e0, he0, e⟩ : ∃ e0 : Int, e0 ≠ 0 ∧ takeT A b = (e0, A) := by
          unfold takeT
          by_cases h1 : (judgeA A b).2 = 0
          · rw [if_neg (by simp [h1])]
            cases h2 : (judgeA A b).1.again with
            | true => rw [if_pos rfl]; exact ⟨4, by decide, rfl⟩
            | false =>
              rw [if_neg (by simp), if_pos (Int.not_le.1 fun h => h0 ⟨⟨h1, h2⟩, h⟩)]
              exact ⟨8, by decide, rfl⟩
          · rw [if_pos h1]; exact ⟨_, h1, rfl⟩
        rw [e] at hs ⊢
        refine wp_ifF ?_ he0
        exact wp_lv ⟨z, bs, A, rfl, hI, by omega, Int.le_refl _, hs.sub⟩
      obtain ⟨⟨h1, h2⟩, h3⟩ := h0
      have e : takeT A b = (0, nextT A b) := by unfold takeT; rw [if_neg (by simp [h1]), if_neg (by simp [h2]), if_neg (by omega)]
      rw [e] at hs ⊢
      refine wp_ifT ?_ rfl
      have hI' := stab_step hokA hI h1 h2
      have hmono := stab_mono hokA h1 h2 h3
      generalize nextT A b = A' at *
      have hs : Sat _ (tb t A' :: pt c (.cells #[.int .i64 b.base, .int .i64 b.pid, .int .i64 b.epoch, .int .i64 b.seq, .int .i64 b.kind, .int .i64 b.time, .slice b.x.a b.x.len b.x.cap] T.api_Batch) :: slc T.api_Batch 7 z (bs.flatMap encB7) :: l) := hs.sub
      have hzl := hs.slen z (xs := bs) (enc := encB7)
      refine wp_mid (fun u w' => ∃ z2 : Sl, u = (z2, (leftB bs b).any (fun x => decide (x.pid = b.pid)), ()) ∧ Sat w' (slc T.api_Batch 7 z2 ((leftB bs b).flatMap encB7) :: tb t A' :: pt c (.cells #[.int .i64 b.base, .int .i64 b.pid, .int .i64 b.epoch, .int .i64 b.seq, .int .i64 b.kind, .int .i64 b.time, .slice b.x.a b.x.len b.x.cap] T.api_Batch) :: slc T.api_Batch 7 z (bs.flatMap encB7) :: l)) ?_ ?_
      · refine wp_loop (fun k u w' => ∃ (j : Nat) (z2 : Sl), u = (z2, (leftB (bs.take j) b).any (fun x => decide (x.pid = b.pid)), (j : Int), ()) ∧ j ≤ bs.length ∧ bs.length - j = k ∧ Sat w' (slc T.api_Batch 7 z2 ((leftB (bs.take j) b).flatMap encB7) :: tb t A' :: pt c (.cells #[.int .i64 b.base, .int .i64 b.pid, .int .i64 b.epoch, .int .i64 b.seq, .int .i64 b.kind, .int .i64 b.time, .slice b.x.a b.x.len b.x.cap] T.api_Batch) :: slc T.api_Batch 7 z (bs.flatMap encB7) :: l)) bs.length
          ⟨0, ⟨none, 0, 0⟩, rfl, by omega, rfl, hs.slc_nil⟩ ?_
        clear hs
        rintro k _ w ⟨j, z2, rfl, hj, hk, hs⟩
        refine wp_on ?_
        refine wp_if (fun hc => ?_) fun hc => ?_
        rotate_left
        · refine wp_pass (wp_lv ⟨z2, ?_, ?_⟩)
          · rw [List.take_of_length_le (by omega)]
          · rw [List.take_of_length_le (by omega)] at hs; exact hs
        have hjl : j < bs.length := by omega
        have hlt := left_take (b := b) hjl
        have hll : (leftB (bs.take j) b).length ≤ j := Nat.le_trans (List.length_filter_le _ _) (by rw [List.length_take]; omega)
        refine wp_mid (fun u w' => ∃ z2 : Sl, u = (z2, (leftB (bs.take (j + 1)) b).any (fun x => decide (x.pid = b.pid)), ()) ∧ Sat w' (slc T.api_Batch 7 z2 ((leftB (bs.take (j + 1)) b).flatMap encB7) :: tb t A' :: pt c (.cells #[.int .i64 b.base, .int .i64 b.pid, .int .i64 b.epoch, .int .i64 b.seq, .int .i64 b.kind, .int .i64 b.time, .slice b.x.a b.x.len b.x.cap] T.api_Batch) :: slc T.api_Batch 7 z (bs.flatMap encB7) :: l)) ?_ ?_
        rotate_left
        · rintro _ w' ⟨z2, rfl, hs⟩
          refine wp_on ?_
          refine wp_dn (us' := [z2.v, .bool ((leftB (bs.take (j + 1)) b).any (fun x => decide (x.pid = b.pid))), .int .i64 ((j + 1 : Nat) : Int)]) (by (try simp (disch := omega) only [w64]); first | rfl | (congr; omega)) ?_
          refine wp_lp (bs.length - (j + 1)) ?_
          exact ⟨j + 1, z2, rfl, by omega, rfl, hs⟩
        refine wp_ixA hs (xs := bs) (enc := encB7) j hjl ?_
        rw [hlt]
        generalize bs[j] = a at *
        refine wp_newO hs fun a77 w' hs => ?_
        refine wp_stG hs fun w' hs => ?_
        have hs : Sat w' (pt a77 (.cells #[.int .i64 a.base, .int .i64 a.pid, .int .i64 a.epoch, .int .i64 a.seq, .int .i64 a.kind, .int .i64 a.time, .slice a.x.a a.x.len a.x.cap] T.api_Batch) :: slc T.api_Batch 7 z2 ((leftB (bs.take j) b).flatMap encB7) :: tb t A' :: pt c (.cells #[.int .i64 b.base, .int .i64 b.pid, .int .i64 b.epoch, .int .i64 b.seq, .int .i64 b.kind, .int .i64 b.time, .slice b.x.a b.x.len b.x.cap] T.api_Batch) :: slc T.api_Batch 7 z (bs.flatMap encB7) :: l) := hs
        refine wp_mid (fun u w' => u = (decide (a.pid = b.pid ∧ markB b = true), ()) ∧ Sat w' (pt a77 (.cells #[.int .i64 a.base, .int .i64 a.pid, .int .i64 a.epoch, .int .i64 a.seq, .int .i64 a.kind, .int .i64 a.time, .slice a.x.a a.x.len a.x.cap] T.api_Batch) :: slc T.api_Batch 7 z2 ((leftB (bs.take j) b).flatMap encB7) :: tb t A' :: pt c (.cells #[.int .i64 b.base, .int .i64 b.pid, .int .i64 b.epoch, .int .i64 b.seq, .int .i64 b.kind, .int .i64 b.time, .slice b.x.a b.x.len b.x.cap] T.api_Batch) :: slc T.api_Batch 7 z (bs.flatMap encB7) :: l)) ?_ ?_
        · refine wp_ldO hs ?_
          refine wp_ldO hs ?_
          refine wp_ldG hs ?_
          refine wp_if (fun h => ?_) fun h => ?_
          · refine wp_call (dmark_c b hs) fun _ _ hs => ?_
            obtain ⟨rfl, hs⟩ := hs
            refine ret_of ?_
            refine wp_lv ⟨?_, hs⟩
            cases hm : markB b with
            | true => rw [decide_eq_true ⟨h, rfl⟩]
            | false => rw [decide_eq_false (by simp)]
          · exact wp_lv ⟨by rw [decide_eq_false (fun h2 => h h2.1)], hs⟩
        clear hs
        rintro _ w ⟨rfl, hs⟩
        refine wp_on ?_
        refine wp_if (fun h => ?_) fun h => ?_
        · rw [if_pos h, List.append_nil]
          exact wp_lv ⟨z2, rfl, hs.sub⟩
        rw [if_neg h, List.any_append]
        refine wp_ldO hs ?_
        refine wp_ldO hs ?_
        refine wp_lt ?_
        refine wp_ldG hs ?_
        refine wp_ap0 hs (xs := leftB (bs.take j) b) (enc := encB7) a (fun z2 w' hs => ?_)
        refine wp_lv ⟨z2, ?_, hs.sub⟩
        congr 2
        rw [Bool.eq_iff_iff]
        simp
      clear hs
      rintro _ w ⟨z2, rfl, hs⟩
      refine wp_on ?_
      refine wp_ldO hs ?_
      have hll : (leftB bs b).length ≤ bs.length := List.length_filter_le _ _
      refine wp_mid (fun u w' => ∃ z2 : Sl, u = (z2, ()) ∧ Sat w' (slc T.api_Batch 7 z2 ((beganB bs b).flatMap encB7) :: tb t A' :: l)) ?_ ?_
      · unfold beganB thereB
        refine wp_if (fun h => ?_) fun h => ?_
        · rw [if_pos (by simpa using h)]
          refine wp_ldG hs ?_
          refine wp_ap0 hs (xs := leftB bs b) (enc := encB7) b (fun z2 w' hs => ?_)
          exact wp_lv ⟨z2, rfl, hs.sub⟩
        · rw [if_neg (by simpa using h), List.append_nil]
          exact wp_lv ⟨z2, rfl, hs.sub⟩
      clear hs
      rintro _ w ⟨z2, rfl, hs⟩
      refine wp_on ?_
      refine wp_lv ⟨z2, beganB bs b, A', rfl, hI', ?_, hmono, hs.sub⟩
      unfold beganB
      rw [List.length_append]
      split
      · rw [List.length_singleton]; omega
      · rw [List.length_nil]; omega
    clear hs
    rintro _ w ⟨z, bs', A', rfl, hI', hbl', hmono, hs⟩
    refine wp_on ?_
    have hok' := tb_ok hs
    have hmin := minB_stab hok' hI'
    have hlen' := stab_len hI'
    clear hbl hI hokA
    generalize bs' = bs at *
    refine wp_call (tnext_c (t := t) hs) fun _ _ hs => ?_
    obtain ⟨rfl, hs⟩ := hs
    refine ret_of ?_
    refine wp_lt ?_
    have hzl := hs.slen z (xs := bs) (enc := encB7)
    refine wp_mid (fun u w' => u = (stableT A', ()) ∧ Sat w' (tb t A' :: slc T.api_Batch 7 z (bs.flatMap encB7) :: l)) ?_ ?_
    · refine wp_loop (fun k u w' => ∃ j : Nat, u = (minB A'.next (bs.take j), (j : Int), ()) ∧ j ≤ bs.length ∧ bs.length - j = k ∧ Sat w' (tb t A' :: slc T.api_Batch 7 z (bs.flatMap encB7) :: l)) bs.length
        ⟨0, rfl, by omega, rfl, hs⟩ ?_
      clear hs
      rintro k _ w ⟨j, rfl, hj, hk, hs⟩
      refine wp_on ?_
      refine wp_if (fun hc => ?_) fun hc => ?_
      rotate_left
      · refine wp_pass (wp_lv ⟨?_, hs⟩)
        rw [List.take_of_length_le (by omega), hmin]
      have hjl : j < bs.length := by omega
      have hmt := minB_take A'.next hjl
      refine wp_ixA hs (xs := bs) (enc := encB7) j hjl ?_
      generalize bs[j] = a at *
      refine wp_newO hs fun a130 w' hs => ?_
      refine wp_stG hs fun w' hs => ?_
      refine wp_ldO hs ?_
      refine wp_mid (fun u w' => u = (minB A'.next (bs.take (j + 1)), ()) ∧ Sat w' (tb t A' :: slc T.api_Batch 7 z (bs.flatMap encB7) :: l)) ?_ ?_
      · rw [hmt]
        refine wp_if (fun h => ?_) fun h => ?_
        · rw [if_pos h]
          refine wp_ldO hs ?_
          refine wp_lt ?_
          exact wp_lv ⟨rfl, hs.sub⟩
        · rw [if_neg h]
          exact wp_lv ⟨rfl, hs.sub⟩
      clear hs
      rintro _ w ⟨rfl, hs⟩
      refine wp_on ?_
      refine wp_dn (us' := [.int .i64 (minB A'.next (bs.take (j + 1))), .int .i64 ((j + 1 : Nat) : Int)]) (by (try simp (disch := omega) only [w64]); first | rfl | (congr; omega)) ?_
      refine wp_lp (bs.length - (j + 1)) ?_
      exact ⟨j + 1, rfl, by omega, rfl, hs⟩
    clear hs
    rintro _ w ⟨rfl, hs⟩
    refine wp_on ?_
    refine wp_mid (fun u w' => u = (false, ()) ∧ Sat w' (tb t A' :: slc T.api_Batch 7 z (bs.flatMap encB7) :: l)) ?_ ?_
    · refine wp_call (tstable_c (t := t) hs) fun _ _ hs => ?_
      obtain ⟨rfl, hs⟩ := hs
      refine ret_of ?_
      refine wp_ifF ?_ (by simp; omega)
      refine wp_call (topen_c (t := t) hs) fun _ _ hs => ?_
      obtain ⟨u, rfl, hs⟩ := hs
      refine ret_of ?_
      have hul := hs.slen u (xs := openS A'.rows) (enc := encW)
      refine wp_lv ⟨?_, hs.sub⟩
      rw [hul, hzl, hlen']
      simp
    clear hs
    rintro _ w ⟨rfl, hs⟩
    refine wp_on ?_
    refine wp_ifF ?_ (by simp)
    refine wp_lt ?_
    exact wp_lv ⟨z, bs, A', rfl, hI', hbl', by omega, hs⟩
end
end Go.Dec
