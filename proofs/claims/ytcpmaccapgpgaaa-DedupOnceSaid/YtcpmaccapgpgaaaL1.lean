/- Dedup: DedupOnce. -/
import Derived.Test.YtcpmaccapgpgaaaT2
namespace Go.Dec
set_option linter.unusedVariables false
set_option linter.unusedSimpArgs false

section
variable {w : World} {l r : List HP}

def opN (b : BatM) : OpI := ⟨0, b, true, 0⟩
theorem once_law (x y : Sl) (ops : List OpI) (ord : List Int) [hx : FocR l x 10 (ops.flatMap encO)] [hy : FocR l y 1 (ord.flatMap encI)] (hlen : ops.length ≤ 9223372036854775807) (hord : ∀ n ∈ ord, -9223372036854775808 ≤ n ∧ n < 9223372036854775808) (hops : ∀ o ∈ ops, OpJ l o) (hs : Sat w l) :
    Ret P F.towpathlaw07_DedupOnce #[x.v, y.v] w fun vs w' => vs = [.bool true] ∧ Sat w' l :=
  towpathlaw07_DedupOnce_calls x y <| by
    unfold towpathlaw07_DedupOnce
    have hl := hs.slen x (xs := ops) (enc := encO)
    have hl2 := hs.slen y (xs := ord) (enc := encI)
    refine wp_call (tnew_c 4096 hs) fun _ w' h => ?_
    obtain ⟨-, -, t, rfl, hs⟩ := h.resolve_right (fun h => by have := h.1; omega)
    refine ret_of ?_
    refine wp_lt ?_
    refine wp_ifF ?_ (by simp)
    refine wp_mid (fun q w' => ∃ (z : Sl) (bs : List BatM), q = (z, ()) ∧ OnceOk bs ∧ bs.length ≤ 80 ∧ (∀ b ∈ bs, b.rs.length ≤ 8) ∧ Sat w' (slc T.api_Batch 7 z (bs.flatMap encB7) :: batsP bs :: l)) ?_ ?_
    · have hs0 : Sat _ (tb t ⟨4096, 0, []⟩ :: slc T.api_Batch 7 ⟨none, 0, 0⟩ (([] : List BatM).flatMap encB7) :: batsP [] :: l) := ((hs.all_nil').slc_nil (T := T.api_Batch) (sz := 7)).pick [2, 0]
      refine wp_loop (fun k q w => ∃ (i : Nat) (z : Sl) (bs : List BatM) (A : TabA), q = (z, (i : Int), ()) ∧ i ≤ ord.length ∧ ord.length - i = k ∧ OnceOk bs ∧ OnceI bs A ∧ bs.length ≤ i ∧ i ≤ 80 ∧ (∀ b ∈ bs, b.rs.length ≤ 8) ∧ Sat w (tb t A :: slc T.api_Batch 7 z (bs.flatMap encB7) :: batsP bs :: l)) ord.length
        ⟨0, ⟨none, 0, 0⟩, [], _, rfl, by omega, rfl, fun i hi => absurd hi (by simp), once_nil 4096, by simp, by omega, by simp, hs0⟩ ?_
      clear hs hs0
      rintro k _ w ⟨i, z, bs, A, rfl, hi, hk, hok, hI, hbl, hi80, hb8, hs⟩
      refine wp_on ?_
      refine wp_if (fun hc => ?_) fun hc => ?_
      rotate_left
      · exact wp_pass (wp_lv ⟨z, bs, rfl, hok, by omega, hb8, hs.tail⟩)
      have hil : i < ord.length := by omega
      have hne : 0 < ops.length := by omega
      refine wp_ix1 hs (xs := ord) (enc := encI) i hil ?_
      have hob := hord _ (List.getElem_mem hil)
      refine wp_must (by omega) ?_
      have hlpos : (0 : Int) < ((x.len : Nat) : Int) := by omega
      have hm1 := Int.tmod_lt_of_pos ord[i] hlpos
      have hm2 : -((x.len : Nat) : Int) < Int.tmod ord[i] ((x.len : Nat) : Int) := by
        have h1 := Int.tmod_lt_of_pos (-ord[i]) hlpos
        rw [Int.neg_tmod] at h1; omega
      refine wp_lt ?_
      generalize Int.tmod ord[i] ((x.len : Nat) : Int) = m at *
      refine wp_mid (fun q w' => ∃ j : Nat, q = ((j : Int), ()) ∧ j < ops.length ∧ Sat w' (tb t A :: slc T.api_Batch 7 z (bs.flatMap encB7) :: batsP bs :: l)) ?_ ?_
      · refine wp_if (fun h => ?_) fun h => ?_
        · refine wp_ltw ?_
          refine wp_dn (us' := [.int .i64 ((0 - m).toNat : Int)]) (by rw [Int.toNat_of_nonneg (by omega)]) ?_
          exact wp_lv ⟨(0 - m).toNat, rfl, by omega, hs⟩
        · refine wp_dn (us' := [.int .i64 (m.toNat : Int)]) (by rw [Int.toNat_of_nonneg (by omega)]) ?_
          exact wp_lv ⟨m.toNat, rfl, by omega, hs⟩
      clear hs
      rintro _ w ⟨j, rfl, hj, hs⟩
      refine wp_on ?_
      have hin := hops _ (List.getElem_mem hj)
      have hR : FocR l (opN ops[j].b).b.x 4 ((opN ops[j].b).b.rs.flatMap encR) := ⟨hin.rd⟩
      refine wp_mid (fun u w' => ∃ (c : Nat) (y : Sl), u = (⟨c, 0, none⟩, ()) ∧ Sat w' (pt c (.cells (encB7 (smallB (opN ops[j].b) A.next y)).toArray T.api_Batch) :: slc T.api_Record 4 y ((((opN ops[j].b).b.rs.take 8).map cutR).flatMap encR) :: tb t A :: slc T.api_Batch 7 z (bs.flatMap encB7) :: batsP bs :: l)) ?_ ?_
      · refine wp_tk hs fun w' hs => ?_
        refine wp_ixPh hs (xs := ops) (enc := encO) j hj (ops[j].b.base, ops[j].b.pid, ops[j].b.epoch, ops[j].b.seq, ops[j].b.kind, ops[j].b.time, ops[j].b.x, ()) fun a ha => ?_
        refine wp_u7 _ _ _ _ _ _ _ ?_
        refine wp_both ?_ ?_
        · refine wp_call (tnext_c (t := t) hs) fun _ w' hs => ?_
          obtain ⟨rfl, hs⟩ := hs
          refine ret_of ?_ ⟨trivial, fun _ => run_ixP (P := P) (T := T.api_Batch) (j := 1) (q := 7) (ps := [.int .i64, .int .i64, .int .i64, .int .i64, .int .i64, .int .i64, .slc]) hs (xs := ops) (enc := encO) hj (ops[j].b.base, ops[j].b.pid, ops[j].b.epoch, ops[j].b.seq, ops[j].b.kind, ops[j].b.time, ops[j].b.x, ()) ha⟩
          refine wp_both ?_ ?_
          · refine wp_untick ?_
            refine wp_call (small8_c (opN ops[j].b) A.next hs) fun _ _ hs => ?_
            obtain ⟨y, rfl, hs⟩ := hs
            refine ret_of ?_
            refine wp_newO hs fun c w' hs => ?_
            refine wp_stG hs fun w' hs => ?_
            refine wp_untick ?_
            refine wp_lv ⟨c, y, rfl, ?_⟩
            have hs : Sat w' (pt c (.cells (encB7 (smallB (opN ops[j].b) A.next y)).toArray T.api_Batch) :: _) := hs
            exact hs.sub
          · refine wp_newO hs (fun c w' hs => ?_) (fun c w' hs => ⟨trivial, fun _ => run_ixP (P := P) (T := T.api_Batch) (j := 1) (q := 7) (ps := [.int .i64, .int .i64, .int .i64, .int .i64, .int .i64, .int .i64, .slc]) hs (xs := ops) (enc := encO) hj (ops[j].b.base, ops[j].b.pid, ops[j].b.epoch, ops[j].b.seq, ops[j].b.kind, ops[j].b.time, ops[j].b.x, ()) ha⟩)
            refine wp_untick ?_
            refine wp_call (small8_c (opN ops[j].b) A.next hs) fun _ _ hs => ?_
            obtain ⟨y, rfl, hs⟩ := hs
            refine ret_of ?_
            refine wp_stG hs fun w' hs => ?_
            refine wp_untick ?_
            refine wp_lv ⟨c, y, rfl, ?_⟩
            have hs : Sat w' (pt c (.cells (encB7 (smallB (opN ops[j].b) A.next y)).toArray T.api_Batch) :: _) := hs
            exact hs.sub
        · refine wp_newO hs (fun c w' hs => ?_) (fun c w' hs => ⟨trivial, fun _ => run_ixP (P := P) (T := T.api_Batch) (j := 1) (q := 7) (ps := [.int .i64, .int .i64, .int .i64, .int .i64, .int .i64, .int .i64, .slc]) hs (xs := ops) (enc := encO) hj (ops[j].b.base, ops[j].b.pid, ops[j].b.epoch, ops[j].b.seq, ops[j].b.kind, ops[j].b.time, ops[j].b.x, ()) ha⟩)
          refine wp_call (tnext_c (t := t) hs) fun _ w' hs => ?_
          obtain ⟨rfl, hs⟩ := hs
          refine ret_of ?_ ⟨trivial, fun _ => run_ixP (P := P) (T := T.api_Batch) (j := 1) (q := 7) (ps := [.int .i64, .int .i64, .int .i64, .int .i64, .int .i64, .int .i64, .slc]) hs (xs := ops) (enc := encO) hj (ops[j].b.base, ops[j].b.pid, ops[j].b.epoch, ops[j].b.seq, ops[j].b.kind, ops[j].b.time, ops[j].b.x, ()) ha⟩
          refine wp_untick ?_
          refine wp_call (small8_c (opN ops[j].b) A.next hs) fun _ _ hs => ?_
          obtain ⟨y, rfl, hs⟩ := hs
          refine ret_of ?_
          refine wp_stG hs fun w' hs => ?_
          refine wp_untick ?_
          refine wp_lv ⟨c, y, rfl, ?_⟩
          have hs : Sat w' (pt c (.cells (encB7 (smallB (opN ops[j].b) A.next y)).toArray T.api_Batch) :: _) := hs
          exact hs.sub
      clear hs
      rintro _ w ⟨c, y, rfl, hs⟩
      refine wp_on ?_
      have hy : (smallB (opN ops[j].b) A.next y).x = y := rfl
      have hrs : (smallB (opN ops[j].b) A.next y).rs = ((opN ops[j].b).b.rs.take 8).map cutR := rfl
      have hr8 : (smallB (opN ops[j].b) A.next y).rs.length ≤ 8 := by rw [hrs, List.length_map, List.length_take]; omega
      rw [← hrs] at hs
      generalize smallB (opN ops[j].b) A.next y = b0 at *
      subst hy
      have hs : Sat w (pt c (.cells #[.int .i64 b0.base, .int .i64 b0.pid, .int .i64 b0.epoch, .int .i64 b0.seq, .int .i64 b0.kind, .int .i64 b0.time, .slice b0.x.a b0.x.len b0.x.cap] T.api_Batch) :: slc T.api_Record 4 b0.x (b0.rs.flatMap encR) :: tb t A :: slc T.api_Batch 7 z (bs.flatMap encB7) :: batsP bs :: l) := hs
      refine wp_call (tnext_c (t := t) hs) fun _ _ hs => ?_
      obtain ⟨rfl, hs⟩ := hs
      refine ret_of ?_
      refine wp_stO hs fun w' hs => ?_
      obtain ⟨b, hb⟩ : ∃ b : BatM, b = ⟨A.next, b0.pid, b0.epoch, b0.seq, b0.kind, b0.time, b0.x, b0.rs⟩ := ⟨_, rfl⟩
      have hr8 : b.rs.length ≤ 8 := by rw [hb]; exact hr8
      have hbb : b.base = A.next := by rw [hb]
      have hs : Sat w' (tb t A :: pt c (.cells #[.int .i64 b.base, .int .i64 b.pid, .int .i64 b.epoch, .int .i64 b.seq, .int .i64 b.kind, .int .i64 b.time, .slice b.x.a b.x.len b.x.cap] T.api_Batch) :: slc T.api_Record 4 b.x (b.rs.flatMap encR) :: slc T.api_Batch 7 z (bs.flatMap encB7) :: batsP bs :: l) := by subst hb; exact hs.sub
      clear hb
      refine wp_ldG hs ?_
      refine wp_call (ttake_c (t := t) b hs) fun _ _ hs => ?_
      obtain ⟨rfl, hs⟩ := hs
      refine ret_of ?_
      refine wp_ldO hs ?_
      refine wp_mid (fun u w' => ∃ (z : Sl) (bs' : List BatM) (A' : TabA), u = (z, ()) ∧ OnceOk bs' ∧ OnceI bs' A' ∧ bs'.length ≤ i + 1 ∧ (∀ b ∈ bs', b.rs.length ≤ 8) ∧ Sat w' (tb t A' :: slc T.api_Batch 7 z (bs'.flatMap encB7) :: batsP bs' :: l)) ?_ ?_
      rotate_left
      · rintro _ w' ⟨z, bs', A', rfl, h1, h2, h3, h4, hs⟩
        refine wp_on ?_
        refine wp_ltw ?_
        refine wp_lp (ord.length - (i + 1)) ?_
        exact ⟨i + 1, z, bs', A', rfl, by omega, rfl, h1, h2, by omega, by omega, h4, hs⟩
      by_cases h0 : (judgeA A b).2 = 0 ∧ (judgeA A b).1.again = false
      · have e : takeT A b = (0, nextT A b) := by unfold takeT; rw [if_neg (by simp [h0.1]), if_neg (by simp [h0.2]), if_neg (by omega)]
        rw [e] at hs ⊢
        have hvv := judge_fresh h0.1 h0.2
        have hpp := (span_le b hvv.1).2.2.1.2.2.1.1
        refine wp_if (fun h => ?_) fun h => ?_
        · obtain ⟨-, hp⟩ := h
          obtain ⟨h5, h6⟩ := once_step hI h0.1 h0.2 hp
          refine wp_ldG hs ?_
          refine wp_ap0 hs (xs := bs) (enc := encB7) b (fun z w' hs => ?_)
          refine wp_lv ⟨z, bs ++ [b], nextT A b, rfl, once_ok_snoc hok h5, h6, by rw [List.length_append]; simp; omega, ?_, ?_⟩
          · intro u hu
            rcases List.mem_append.1 hu with hu | hu
            · exact hb8 u hu
            · rw [List.mem_singleton.1 hu]; exact hr8
          · have hs : Sat w' (slc T.api_Record 4 b.x (b.rs.flatMap encR) :: batsP bs :: slc T.api_Batch 7 z ((bs ++ [b]).flatMap encB7) :: tb t (nextT A b) :: l) := hs.sub
            exact (bats_put hs).pick [2, 1]
        · have hp : b.pid = 0 := by
            rcases Int.lt_or_le 0 b.pid with h7 | h7
            · exact absurd ⟨rfl, h7⟩ h
            · omega
          exact wp_lv ⟨z, bs, nextT A b, rfl, hok, once_step0 hI hp, by omega, hb8, hs.sub⟩
      · obtain ⟨e0, he0, e⟩ : ∃ e0 : Int, e0 ≠ 0 ∧ takeT A b = (e0, A) := by
          unfold takeT
          by_cases h1 : (judgeA A b).2 = 0
          · rw [if_neg (by simp [h1]), if_pos (by cases h2 : (judgeA A b).1.again; exact absurd ⟨h1, h2⟩ h0; rfl)]
            exact ⟨4, by decide, rfl⟩
          · rw [if_pos h1]; exact ⟨_, h1, rfl⟩
        rw [e] at hs ⊢
        refine wp_ifF ?_ (fun h => he0 h.1)
        exact wp_lv ⟨z, bs, A, rfl, hok, hI, by omega, hb8, hs.sub⟩
    clear hs
    rintro _ w ⟨z, bs, rfl, hok, hbl, hb8, hs⟩
    refine wp_on ?_
    have hzl := hs.slen z (xs := bs) (enc := encB7)
    refine wp_mid (fun _ w' => Sat w' l) ?_ (by rintro _ w' hs; refine wp_on ?_; refine wp_call (awake7 hs) fun _ _ hs => ?_; obtain ⟨rfl, hs⟩ := hs; refine ret_of ?_; refine wp_lt ?_; exact ⟨rfl, rfl, hs⟩)
    refine wp_loop (fun k q w => ∃ i : Nat, q = ((i : Int), ()) ∧ i ≤ bs.length ∧ bs.length - i = k ∧ Sat w (slc T.api_Batch 7 z (bs.flatMap encB7) :: batsP bs :: l)) bs.length ⟨0, rfl, by omega, rfl, hs⟩ ?_
    clear hs
    rintro k _ w ⟨i, rfl, hi, hk, hs⟩
    refine wp_on ?_
    refine wp_if (fun hc => ?_) fun hc => ?_
    rotate_left
    · exact wp_pass (wp_lv hs.tail.tail)
    have hil : i < bs.length := by omega
    obtain ⟨hc1, hc2⟩ := hok i hil
    refine wp_mid (fun _ w' => Sat w' (slc T.api_Batch 7 z (bs.flatMap encB7) :: batsP bs :: l)) ?_ ?_
    rotate_left
    · rintro _ w' hs
      refine wp_on ?_
      refine wp_dn (us' := [.int .i64 ((i + 1 : Nat) : Int)]) (by (try simp (disch := omega) only [w64]); first | rfl | (congr; omega)) ?_
      refine wp_lp (bs.length - (i + 1)) ?_
      exact ⟨i + 1, rfl, by omega, rfl, hs⟩
    refine wp_ixA hs (xs := bs) (enc := encB7) i hil ?_
    refine wp_newO hs fun a79 w' hs => ?_
    refine wp_lt ?_
    refine wp_stG hs fun w' hs => ?_
    generalize bs[i] = b at *
    have hs : Sat w' (pt a79 (.cells #[.int .i64 b.base, .int .i64 b.pid, .int .i64 b.epoch, .int .i64 b.seq, .int .i64 b.kind, .int .i64 b.time, .slice b.x.a b.x.len b.x.cap] T.api_Batch) :: slc T.api_Batch 7 z (bs.flatMap encB7) :: batsP bs :: l) := hs
    refine wp_mid (fun q w' => q = (sumE b.pid b.epoch (bs.take i), ()) ∧ Sat w' (pt a79 (.cells #[.int .i64 b.base, .int .i64 b.pid, .int .i64 b.epoch, .int .i64 b.seq, .int .i64 b.kind, .int .i64 b.time, .slice b.x.a b.x.len b.x.cap] T.api_Batch) :: slc T.api_Batch 7 z (bs.flatMap encB7) :: batsP bs :: l)) ?_ ?_
    · refine wp_loop (fun k q w => ∃ j : Nat, q = (sumE b.pid b.epoch (bs.take j), (j : Int), ()) ∧ j ≤ i ∧ i - j = k ∧ Sat w (pt a79 (.cells #[.int .i64 b.base, .int .i64 b.pid, .int .i64 b.epoch, .int .i64 b.seq, .int .i64 b.kind, .int .i64 b.time, .slice b.x.a b.x.len b.x.cap] T.api_Batch) :: slc T.api_Batch 7 z (bs.flatMap encB7) :: batsP bs :: l)) i
        ⟨0, by simp [sumE], by omega, rfl, hs⟩ ?_
      clear hs
      rintro k _ w ⟨j, rfl, hj, hk, hs⟩
      refine wp_on ?_
      refine wp_if (fun hc => ?_) fun hc => ?_
      rotate_left
      · obtain rfl : j = i := by omega
        exact wp_pass (wp_lv ⟨rfl, hs⟩)
      have hji : j < i := by omega
      have hjl : j < bs.length := by omega
      have htk : bs.take (j + 1) = bs.take j ++ [bs[j]] := List.take_succ_eq_append_getElem hjl
      have hchk := hc1 bs[j] (List.mem_take_iff_getElem.2 ⟨j, by omega, rfl⟩)
      have hsum := sumE_snoc b.pid b.epoch (bs.take j) bs[j]
      rw [← htk] at hsum
      have hb1 := sumE_le (p := b.pid) (e := b.epoch) (bs := bs.take j) fun c hc => hb8 c (List.mem_of_mem_take hc)
      have hb2 : (bs.take j).length ≤ 80 := by rw [List.length_take]; omega
      have ha8 : bs[j].rs.length ≤ 8 := hb8 _ (List.getElem_mem hjl)
      have hrd : FocR (batsP bs :: l) bs[j].x 4 (bs[j].rs.flatMap encR) := bats_rd (List.getElem_mem hjl)
      refine wp_mid (fun q w' => q = (sumE b.pid b.epoch (bs.take (j + 1)), ()) ∧ Sat w' (pt a79 (.cells #[.int .i64 b.base, .int .i64 b.pid, .int .i64 b.epoch, .int .i64 b.seq, .int .i64 b.kind, .int .i64 b.time, .slice b.x.a b.x.len b.x.cap] T.api_Batch) :: slc T.api_Batch 7 z (bs.flatMap encB7) :: batsP bs :: l)) ?_ ?_
      rotate_left
      · rintro _ w' ⟨rfl, hs⟩
        refine wp_on ?_
        refine wp_ltw ?_
        refine wp_lp (i - (j + 1)) ?_
        exact ⟨j + 1, rfl, by omega, rfl, hs⟩
      refine wp_ixA hs (xs := bs) (enc := encB7) j hjl ?_
      generalize bs[j] = a at *
      refine wp_newO hs fun a92 w' hs => ?_
      refine wp_stG hs fun w' hs => ?_
      refine wp_ldO hs ?_
      refine wp_ldO hs ?_
      refine wp_if (fun h => ?_) fun h => ?_
      · rw [if_neg (fun h2 => h h2.1)] at hsum
        refine wp_dn (us' := [.int .i64 (sumE b.pid b.epoch (bs.take (j + 1)))]) (by rw [hsum, Int.add_zero]) ?_
        exact wp_lv ⟨rfl, hs.sub⟩
      have hpe : a.pid = b.pid := Decidable.not_not.1 h
      have hchk := hchk hpe
      have hs : Sat w' (pt a92 (.cells #[.int .i64 a.base, .int .i64 a.pid, .int .i64 a.epoch, .int .i64 a.seq, .int .i64 a.kind, .int .i64 a.time, .slice a.x.a a.x.len a.x.cap] T.api_Batch) :: pt a79 (.cells #[.int .i64 b.base, .int .i64 b.pid, .int .i64 b.epoch, .int .i64 b.seq, .int .i64 b.kind, .int .i64 b.time, .slice b.x.a b.x.len b.x.cap] T.api_Batch) :: slc T.api_Batch 7 z (bs.flatMap encB7) :: batsP bs :: l) := hs
      refine wp_mid (fun q w' => q = (false, ()) ∧ Sat w' (pt a92 (.cells #[.int .i64 a.base, .int .i64 a.pid, .int .i64 a.epoch, .int .i64 a.seq, .int .i64 a.kind, .int .i64 a.time, .slice a.x.a a.x.len a.x.cap] T.api_Batch) :: pt a79 (.cells #[.int .i64 b.base, .int .i64 b.pid, .int .i64 b.epoch, .int .i64 b.seq, .int .i64 b.kind, .int .i64 b.time, .slice b.x.a b.x.len b.x.cap] T.api_Batch) :: slc T.api_Batch 7 z (bs.flatMap encB7) :: batsP bs :: l)) ?_ ?_
      · refine wp_ldO hs ?_
        refine wp_ldO hs ?_
        refine wp_ldG hs ?_
        refine wp_ifF ?_ (fun h => hchk (.inl h))
        refine wp_call (dmark_c a hs) fun _ _ hs => ?_
        obtain ⟨rfl, hs⟩ := hs
        refine ret_of ?_
        refine wp_ldO hs ?_
        refine wp_ldO hs ?_
        refine wp_lv ⟨?_, hs⟩
        have : ¬ (markB a = true ∧ a.epoch = b.epoch) := fun h => hchk (.inr h)
        cases hm : markB a with
        | false => rfl
        | true =>
          have h2 : ¬ a.epoch = b.epoch := fun h => this ⟨hm, h⟩
          simp [h2]
      clear hs
      rintro _ w ⟨rfl, hs⟩
      refine wp_on ?_
      refine wp_ifF ?_ (by simp)
      refine wp_ldO hs ?_
      refine wp_ldO hs ?_
      refine wp_mid (fun q w' => q = (sumE b.pid b.epoch (bs.take (j + 1)), ()) ∧ Sat w' (pt a79 (.cells #[.int .i64 b.base, .int .i64 b.pid, .int .i64 b.epoch, .int .i64 b.seq, .int .i64 b.kind, .int .i64 b.time, .slice b.x.a b.x.len b.x.cap] T.api_Batch) :: slc T.api_Batch 7 z (bs.flatMap encB7) :: batsP bs :: l)) ?_ (by rintro _ w' ⟨rfl, hs⟩; refine wp_on ?_; exact wp_lv ⟨rfl, hs⟩)
      refine wp_if (fun h => ?_) fun h => ?_
      · rw [if_pos ⟨hpe, h⟩] at hsum
        refine wp_ldO hs ?_
        have hal := hs.slen a.x (xs := a.rs) (enc := encR)
        refine wp_ltw ?_
        refine wp_dn (us' := [.int .i64 (sumE b.pid b.epoch (bs.take (j + 1)))]) (by rw [hsum, hal]) ?_
        exact wp_lv ⟨rfl, hs.sub⟩
      · rw [if_neg (fun h2 => h h2.2)] at hsum
        refine wp_dn (us' := [.int .i64 (sumE b.pid b.epoch (bs.take (j + 1)))]) (by rw [hsum, Int.add_zero]) ?_
        exact wp_lv ⟨rfl, hs.sub⟩
    clear hs
    rintro _ w ⟨rfl, hs⟩
    refine wp_on ?_
    refine wp_ldG hs ?_
    refine wp_call (dmark_c b hs) fun _ _ hs => ?_
    obtain ⟨rfl, hs⟩ := hs
    refine ret_of ?_
    refine wp_ldO hs ?_
    refine wp_ifF ?_ ?_
    · exact wp_lv hs.sub
    · rintro ⟨h1, h2⟩
      exact h2 (hc2 (by simpa using h1))
end
end Go.Dec
