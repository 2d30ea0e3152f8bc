/- Dedup: the law's judged, step; DedupPlays. -/
import Derived.Test.YtcpmaccapgpgaaaGreatE3
import Derived.Test.YtcpmaccapgpgaaaGreatD9
namespace Go.Dec
set_option linter.unusedVariables false
set_option linter.unusedSimpArgs false

theorem take_most (A : TabA) (b : BatM) : (takeT A b).2.most = A.most := by
  unfold takeT
  split
  · rfl
  · split
    · rfl
    · split <;> rfl

section
variable {w : World} {l r : List HP} {t q : Nat} {A : TabA}
instance {x : Bool} {m n : Int} : IsR (.tup [.one .bool, .one (.int .i64), .one (.int .i64)]) [.bool x, .int .i64 m, .int .i64 n] (x, m, n, ()) := ⟨rfl⟩

theorem judged_c (b : BatM) [hb : FocR l b.x 4 (b.rs.flatMap encR)] (hs : Sat w (tb t A :: dtP q A :: l)) : Ret P F.towpathlaw07_judged #[.pointer (some ⟨t, 0, none⟩), .pointer (some ⟨q, 0, none⟩), .agg (encB7 b).toArray] w fun vs w' => vs = [.bool true] ∧ Sat w' (tb t A :: dtP q A :: l) :=
  towpathlaw07_judged_calls _ _ b.base b.pid b.epoch b.seq b.kind b.time b.x <| by
    unfold towpathlaw07_judged
    have hok := tb_ok hs
    refine wp_boxO hs fun a0 w' hs => ?_
    refine wp_ldG hs ?_
    refine wp_call (tjudge_c (t := t) b hs) fun _ _ hs => ?_
    obtain ⟨rfl, hs⟩ := hs
    refine ret_of ?_
    refine wp_newO hs fun a11 w' hs => ?_
    refine wp_stG hs fun w' hs => ?_
    refine wp_lt ?_
    refine wp_ldG hs ?_
    refine wp_call (djudge_c (q := q) b hok hs) fun _ _ hs => ?_
    obtain ⟨rfl, hs⟩ := hs
    refine ret_of ?_
    refine wp_lt ?_
    refine wp_lt ?_
    refine wp_lt ?_
    refine wp_ldO hs ?_
    refine wp_ldO hs ?_
    refine wp_lt ?_
    exact ⟨rfl, by simp, hs.sub⟩

theorem step_c (o : OpI) (hm : A.most ≤ 100) [hb : FocR l o.b.x 4 (o.b.rs.flatMap encR)] (hs : Sat w (tb t A :: dtP q A :: l)) :
    Ret P F.towpathlaw07_step #[.pointer (some ⟨t, 0, none⟩), .pointer (some ⟨q, 0, none⟩), .agg (encO o).toArray] w fun vs w' =>
      ∃ (t' : Nat) (A' : TabA), vs = [.pointer (some ⟨t', 0, none⟩), .bool true] ∧ A'.most = A.most ∧ Sat w' (tb t' A' :: dtP q A' :: l) :=
  towpathlaw07_step_calls _ _ o.kind o.b.base o.b.pid o.b.epoch o.b.seq o.b.kind o.b.time o.b.x o.near o.time <| by
    unfold towpathlaw07_step
    have hok := tb_ok hs
    have hmany := hok.many
    refine wp_boxO hs fun a0 w' hs => ?_
    refine wp_ldO hs ?_
    have hs : Sat w' (pt a0 (.cells #[.int .i64 o.kind, .int .i64 o.b.base, .int .i64 o.b.pid, .int .i64 o.b.epoch, .int .i64 o.b.seq, .int .i64 o.b.kind, .int .i64 o.b.time, .slice o.b.x.a o.b.x.len o.b.x.cap, .bool o.near, .int .i64 o.time] T.towpathlaw07_Op) :: tb t A :: dtP q A :: l) := hs
    refine wp_mid (fun _ w' => ∃ A' : TabA, A'.most = A.most ∧ Sat w' (tb t A' :: dtP q A' :: l)) ?_ (by rintro _ w' ⟨A', h, hs⟩; refine wp_on ?_; exact ⟨rfl, t, A', rfl, h, hs⟩)
    refine wp_lt ?_
    refine wp_mid (fun u w' => u = (decide (o.kind = 0 ∨ o.kind = 1 ∨ o.kind = 2 ∨ o.kind = 3), ()) ∧ Sat w' (pt a0 (.cells #[.int .i64 o.kind, .int .i64 o.b.base, .int .i64 o.b.pid, .int .i64 o.b.epoch, .int .i64 o.b.seq, .int .i64 o.b.kind, .int .i64 o.b.time, .slice o.b.x.a o.b.x.len o.b.x.cap, .bool o.near, .int .i64 o.time] T.towpathlaw07_Op) :: tb t A :: dtP q A :: l)) ?_ ?_
    · refine wp_if (fun h => ?_) fun h => ?_
      · have h : o.kind = 0 := by simpa using h
        refine wp_lv ⟨?_, hs⟩
        rw [h]; rfl
      have h : ¬ o.kind = 0 := by simpa using h
      refine wp_lt ?_
      refine wp_mid (fun u w' => u = (decide (o.kind = 1 ∨ o.kind = 2 ∨ o.kind = 3), ()) ∧ Sat w' (pt a0 (.cells #[.int .i64 o.kind, .int .i64 o.b.base, .int .i64 o.b.pid, .int .i64 o.b.epoch, .int .i64 o.b.seq, .int .i64 o.b.kind, .int .i64 o.b.time, .slice o.b.x.a o.b.x.len o.b.x.cap, .bool o.near, .int .i64 o.time] T.towpathlaw07_Op) :: tb t A :: dtP q A :: l)) ?_ (by
        rintro _ w' ⟨rfl, hs⟩; refine wp_on ?_; refine wp_lv ⟨?_, hs⟩
        rw [decide_eq_decide.2 (show (o.kind = 0 ∨ o.kind = 1 ∨ o.kind = 2 ∨ o.kind = 3) ↔ (o.kind = 1 ∨ o.kind = 2 ∨ o.kind = 3) from ⟨fun g => g.resolve_left h, .inr⟩)])
      refine wp_if (fun h1 => ?_) fun h1 => ?_
      · have h1 : o.kind = 1 := by simpa using h1
        refine wp_lv ⟨?_, hs⟩
        rw [h1]; rfl
      have h1 : ¬ o.kind = 1 := by simpa using h1
      refine wp_lt ?_
      refine wp_mid (fun u w' => u = (decide (o.kind = 2 ∨ o.kind = 3), ()) ∧ Sat w' (pt a0 (.cells #[.int .i64 o.kind, .int .i64 o.b.base, .int .i64 o.b.pid, .int .i64 o.b.epoch, .int .i64 o.b.seq, .int .i64 o.b.kind, .int .i64 o.b.time, .slice o.b.x.a o.b.x.len o.b.x.cap, .bool o.near, .int .i64 o.time] T.towpathlaw07_Op) :: tb t A :: dtP q A :: l)) ?_ (by
        rintro _ w' ⟨rfl, hs⟩; refine wp_on ?_; refine wp_lv ⟨?_, hs⟩
        rw [decide_eq_decide.2 (show (o.kind = 1 ∨ o.kind = 2 ∨ o.kind = 3) ↔ (o.kind = 2 ∨ o.kind = 3) from ⟨fun g => g.resolve_left h1, .inr⟩)])
      refine wp_if (fun h2 => ?_) fun h2 => ?_
      · have h2 : o.kind = 2 := by simpa using h2
        refine wp_lv ⟨?_, hs⟩
        rw [h2]; rfl
      have h2 : ¬ o.kind = 2 := by simpa using h2
      refine wp_lt ?_
      refine wp_lv ⟨?_, hs⟩
      rw [decide_eq_decide.2 (show (o.kind = 2 ∨ o.kind = 3) ↔ o.kind = 3 from ⟨fun g => g.resolve_left h2, .inr⟩)]
      rfl
    clear hs
    rintro _ w ⟨rfl, hs⟩
    refine wp_on ?_
    refine wp_if (fun hk => ?_) fun hk => ?_
    · -- Judge and Take
      refine wp_mid (fun u w' => ∃ (c : Nat) (y : Sl), u = (⟨c, 0, none⟩, ()) ∧ Sat w' (pt c (.cells (encB7 (smallB o A.next y)).toArray T.api_Batch) :: slc T.api_Record 4 y (((o.b.rs.take 8).map cutR).flatMap encR) :: tb t A :: dtP q A :: l)) ?_ ?_
      · obtain ⟨z, hs⟩ := dt_open (hs.pick [2])
        refine wp_tk hs fun w' hs => ?_
        refine wp_hdG hs ?_
        refine wp_nn ?_
        refine wp_hdO hs ?_
        have hfin : ∀ {w' : World} {c : Nat} {y : Sl} {L : List HP}, Sat w' (pt c (.cells (encB7 (smallB o A.next y)).toArray T.api_Batch) :: slc T.api_Record 4 y (((o.b.rs.take 8).map cutR).flatMap encR) :: pt q (.cells #[.int .i64 A.most, .int .i64 A.next, .slice z.a z.len z.cap] T.towpathref07_Table) :: slc T.towpathref07_Row 7 z (A.rows.flatMap encW) :: tb t A :: l) →
            Sat w' (pt c (.cells (encB7 (smallB o A.next y)).toArray T.api_Batch) :: slc T.api_Record 4 y (((o.b.rs.take 8).map cutR).flatMap encR) :: tb t A :: dtP q A :: l) := fun hs => by
          have hs := dt_mk A (hs.pick [2, 2])
          exact hs.sub
        refine wp_both ?_ ?_
        · refine wp_untick ?_
          refine wp_call (small8_c o A.next hs) fun _ _ hs => ?_
          obtain ⟨y, rfl, hs⟩ := hs
          refine ret_of ?_
          refine wp_newO hs fun c w' hs => ?_
          refine wp_stG hs fun w' hs => ?_
          refine wp_untick ?_
          refine wp_lv ⟨c, y, rfl, hfin (L := []) ?_⟩
          have hs : Sat w' (pt c (.cells (encB7 (smallB o A.next y)).toArray T.api_Batch) :: _) := hs
          exact hs.sub
        · refine wp_newO hs (fun c w' hs => ?_) (fun c w' hs => ⟨⟨trivial, fun _ => run_ldG hs⟩, fun _ => run_ldO hs⟩)
          refine wp_untick ?_
          refine wp_call (small8_c o A.next hs) fun _ _ hs => ?_
          obtain ⟨y, rfl, hs⟩ := hs
          refine ret_of ?_
          refine wp_stG hs fun w' hs => ?_
          refine wp_untick ?_
          refine wp_lv ⟨c, y, rfl, hfin (L := []) ?_⟩
          have hs : Sat w' (pt c (.cells (encB7 (smallB o A.next y)).toArray T.api_Batch) :: _) := hs
          exact hs.sub
      clear hs
      rintro _ w ⟨c, y, rfl, hs⟩
      refine wp_on ?_
      have hy : (smallB o A.next y).x = y := rfl
      have hrs : (smallB o A.next y).rs = (o.b.rs.take 8).map cutR := rfl
      rw [← hrs] at hs
      generalize smallB o A.next y = b at *
      subst hy
      have hs : Sat w (tb t A :: dtP q A :: pt c (.cells #[.int .i64 b.base, .int .i64 b.pid, .int .i64 b.epoch, .int .i64 b.seq, .int .i64 b.kind, .int .i64 b.time, .slice b.x.a b.x.len b.x.cap] T.api_Batch) :: slc T.api_Record 4 b.x (b.rs.flatMap encR) :: l) := hs.pick [2, 2]
      refine wp_mid (fun u w' => u = (some ⟨t, 0, none⟩, true, ()) ∧ Sat w' (tb t (takeT A b).2 :: dtP q (takeT A b).2 :: l)) ?_ (by
        rintro _ w' ⟨rfl, hs⟩; refine wp_on ?_; refine wp_pass ?_
        exact ⟨rfl, t, (takeT A b).2, rfl, take_most A b, hs⟩)
      refine wp_tk hs fun w' hs => ?_
      refine wp_ldG hs ?_
      refine wp_call (judged_c b hs) fun _ w' hs => ?_
      obtain ⟨rfl, hs⟩ := hs
      refine ret_of ?_
      refine wp_ldG hs ?_
      refine wp_hdG hs ?_
      refine wp_ifT ?_ trivial
      refine wp_call (ttake_c (t := t) b hs) fun _ w' hs => ?_
      obtain ⟨rfl, hs⟩ := hs
      refine ret_of ?_ ⟨trivial, fun _ => run_ldG hs⟩
      refine wp_untick ?_
      refine wp_call (dtake_c (q := q) b hok hs) fun _ w' hs => ?_
      obtain ⟨rfl, hs⟩ := hs
      refine ret_of ?_
      refine wp_lt ?_
      refine wp_untick ?_
      exact wp_lv ⟨by simp, hs.sub⟩
    refine wp_lt ?_
    refine wp_mid (fun _ w' => ∃ A' : TabA, A'.most = A.most ∧ Sat w' (tb t A' :: dtP q A' :: l)) ?_ (by rintro _ w' h; refine wp_on ?_; exact wp_lv h)
    refine wp_if (fun h4 => ?_) fun h4 => ?_
    · -- Expire
      have hgl : (goneL o.time A.rows).length ≤ A.rows.length := by rw [gone_eq, List.length_map]; exact List.length_filter_le _ _
      refine wp_mid (fun u w' => ∃ z1 z2 : Sl, u = (z1, z2, ()) ∧ Sat w' (slc T.int64 1 z1 ((goneL o.time A.rows).flatMap encI) :: slc T.int64 1 z2 ((goneL o.time A.rows).flatMap encI) :: tb t (expireT A o.time) :: dtP q (expireT A o.time) :: l)) ?_ ?_
      · refine wp_tk hs fun w' hs => ?_
        refine wp_ldO hs ?_
        refine wp_hdO hs ?_
        refine wp_call (texpire_c (t := t) o.time hs) fun _ w' h => ?_
        obtain ⟨z1, rfl, hs⟩ := h
        refine ret_of ?_ ⟨trivial, fun _ => run_ldO hs⟩
        refine wp_untick ?_
        refine wp_call (dexpire_c (q := q) (A := A) o.time (by omega) hs) fun _ w' h => ?_
        obtain ⟨z2, rfl, hs⟩ := h
        refine ret_of ?_
        refine wp_untick ?_
        exact wp_lv ⟨z1, z2, rfl, hs.sub⟩
      clear hs
      rintro _ w ⟨z1, z2, rfl, hs⟩
      refine wp_on ?_
      have hl1 := hs.slen z1 (xs := goneL o.time A.rows) (enc := encI)
      have hl2 := hs.slen z2 (xs := goneL o.time A.rows) (enc := encI)
      refine wp_ifF ?_ (by rw [hl1, hl2]; simp)
      refine wp_mid (fun _ w' => Sat w' (tb t (expireT A o.time) :: dtP q (expireT A o.time) :: l)) ?_ (by rintro _ w' hs; refine wp_on ?_; exact wp_lv ⟨expireT A o.time, rfl, hs⟩)
      refine wp_loop (fun k u w => ∃ i : Nat, u = ((i : Int), ()) ∧ i ≤ (goneL o.time A.rows).length ∧ (goneL o.time A.rows).length - i = k ∧ Sat w (slc T.int64 1 z1 ((goneL o.time A.rows).flatMap encI) :: slc T.int64 1 z2 ((goneL o.time A.rows).flatMap encI) :: tb t (expireT A o.time) :: dtP q (expireT A o.time) :: l)) (goneL o.time A.rows).length ⟨0, rfl, by omega, rfl, hs⟩ ?_
      clear hs
      rintro k _ w ⟨i, rfl, hi, hk, hs⟩
      refine wp_on ?_
      refine wp_if (fun hc => ?_) fun hc => ?_
      rotate_left
      · exact wp_pass (wp_lv hs.tail.tail)
      have hil : i < (goneL o.time A.rows).length := by omega
      refine wp_lt ?_
      refine wp_tk hs fun w' hs => ?_
      refine wp_ix1 (x := z1) hs (xs := goneL o.time A.rows) (enc := encI) i hil ?_
      refine wp_ix1 (x := z2) hs (xs := goneL o.time A.rows) (enc := encI) i hil ?_
      refine wp_untick ?_
      refine wp_ifF ?_ (by simp)
      refine wp_dn (us' := [.int .i64 ((i + 1 : Nat) : Int)]) (by (try simp (disch := omega) only [w64]); first | rfl | (congr; omega)) ?_
      refine wp_lp ((goneL o.time A.rows).length - (i + 1)) ?_
      exact ⟨i + 1, rfl, by omega, rfl, hs⟩
    refine wp_lt ?_
    refine wp_if (fun h5 => ?_) fun h5 => ?_
    · -- to bytes and back
      refine wp_mid (fun u w' => ∃ t' : Nat, u = (some ⟨t', 0, none⟩, 0, ()) ∧ Sat w' (tb t' A :: dtP q A :: l)) ?_ (by
        rintro _ w' ⟨t', rfl, hs⟩; refine wp_on ?_; refine wp_lt ?_; refine wp_pass (wp_pass ?_)
        exact ⟨rfl, t', A, rfl, rfl, hs⟩)
      obtain ⟨z, hs⟩ := dt_open (hs.pick [2])
      refine wp_tk hs fun w' hs => ?_
      refine wp_nn ?_
      refine wp_hdO hs ?_
      refine wp_call (tbytes_c (t := t) (by omega) hs) fun _ w' h => ?_
      obtain ⟨u, rfl, hs⟩ := h
      refine ret_of ?_ ⟨trivial, fun _ => run_ldO hs⟩
      refine wp_untick ?_
      have hcap := hs.slc_cap
      refine wp_call (tload_c u hok (by omega) hcap hs) fun _ w' h => ?_
      obtain ⟨t', rfl, hs⟩ := h
      refine ret_of ?_
      refine wp_lt ?_
      refine wp_untick ?_
      have hs : Sat w' (pt q (.cells #[.int .i64 A.most, .int .i64 A.next, .slice z.a z.len z.cap] T.towpathref07_Table) :: slc T.towpathref07_Row 7 z (A.rows.flatMap encW) :: tb t' A :: l) := hs.sub
      exact wp_lv ⟨t', rfl, (dt_mk A hs).pick [1]⟩
    · exact wp_lv ⟨A, rfl, hs.sub⟩
end
end Go.Dec
