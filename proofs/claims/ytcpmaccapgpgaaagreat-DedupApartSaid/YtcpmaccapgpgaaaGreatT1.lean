/- Dedup: the law's small, awake. -/
import Derived.Test.YtcpmaccapgpgaaaGreatD5
namespace Go.Dec
set_option linter.unusedVariables false
set_option linter.unusedSimpArgs false

/-- A call, as the law is handed it. -/
structure OpI where
  kind : Int
  b : BatM
  near : Bool
  time : Int
def encO (o : OpI) : List Value := [.int .i64 o.kind, .int .i64 o.b.base, .int .i64 o.b.pid, .int .i64 o.b.epoch, .int .i64 o.b.seq, .int .i64 o.b.kind, .int .i64 o.b.time, .slice o.b.x.a o.b.x.len o.b.x.cap, .bool o.near, .int .i64 o.time]
instance : EncA encO [.int .i64, .int .i64, .int .i64, .int .i64, .int .i64, .int .i64, .int .i64, .slc, .bool, .int .i64] (fun o => (o.kind, o.b.base, o.b.pid, o.b.epoch, o.b.seq, o.b.kind, o.b.time, o.b.x, o.near, o.time, ())) := ⟨fun _ => rfl⟩
instance : EncN encO 10 := ⟨fun _ => rfl, by decide, by simp [encO, Value.oneCell']⟩
def cut8 (s : ByteArray) : ByteArray := if s.size > 8 then s.extract 0 8 else s
def cutR (r : RecM) : RecM := ⟨cut8 r.key, cut8 r.value, r.gone, r.time⟩
def nearB (base next : Int) : Int := IntKind.wrap .i64 ((if Int.tmod base 5 < 0 then 0 else Int.tmod base 5) + next)
def smallB (o : OpI) (next : Int) (x : Sl) : BatM := ⟨if o.near then nearB o.b.base next else o.b.base, o.b.pid, o.b.epoch, o.b.seq, o.b.kind, o.b.time, x, (o.b.rs.take 8).map cutR⟩
instance AddrIs.add16 {a : Addr} {b : Nat} [h : AddrIs a b 1] : AddrIs (a.add 6) b 7 := ⟨by rw [h.ok, add_mk]⟩

section
variable {w : World} {l r : List HP}

theorem small8_c (o : OpI) (next : Int) [hb : FocR l o.b.x 4 (o.b.rs.flatMap encR)] (hs : Sat w l) :
    Ret P F.towpathlaw07_small #[.agg (encO o).toArray, .int .i64 next] w fun vs w' => ∃ x : Sl, vs = [.agg (encB7 (smallB o next x)).toArray] ∧ Sat w' (slc T.api_Record 4 x (((o.b.rs.take 8).map cutR).flatMap encR) :: l) :=
  towpathlaw07_small_calls o.kind o.b.base o.b.pid o.b.epoch o.b.seq o.b.kind o.b.time o.b.x o.near o.time next <| by
    unfold towpathlaw07_small
    have hl := hs.slen o.b.x (xs := o.b.rs) (enc := encR)
    refine wp_boxO hs fun a0 w' hs => ?_
    refine wp_newO hs fun a1 w' hs => ?_
    refine wp_ldP hs (o.b.base, o.b.pid, o.b.epoch, o.b.seq, o.b.kind, o.b.time, o.b.x, ()) ?_
    refine wp_newO hs fun a9 w' hs => ?_
    refine wp_stG hs fun w' hs => ?_
    refine wp_stO hs fun w' hs => ?_
    refine wp_ldO hs ?_
    refine wp_mid (fun _ w' => ∃ x : Sl, Sat w' (slc T.api_Record 4 x (((o.b.rs.take 8).map cutR).flatMap encR) :: pt a9 (.cells #[.int .i64 o.b.base, .int .i64 o.b.pid, .int .i64 o.b.epoch, .int .i64 o.b.seq, .int .i64 o.b.kind, .int .i64 o.b.time, .slice x.a x.len x.cap] T.api_Batch) ::
      pt a1 (.cells #[.int .i64 0, .int .i64 0, .int .i64 0, .int .i64 0, .int .i64 0, .int .i64 0, .slice none 0 0] T.api_Batch) ::
      pt a0 (.cells #[.int .i64 o.kind, .int .i64 o.b.base, .int .i64 o.b.pid, .int .i64 o.b.epoch, .int .i64 o.b.seq, .int .i64 o.b.kind, .int .i64 o.b.time, .slice o.b.x.a o.b.x.len o.b.x.cap, .bool o.near, .int .i64 o.time] T.towpathlaw07_Op) :: l)) ?_ ?_
    · refine wp_loop (fun k v w => ∃ (i : Nat) (x : Sl), v = ((i : Int), ()) ∧ i ≤ o.b.rs.length ∧ i ≤ 8 ∧ o.b.rs.length - i = k ∧ Sat w (slc T.api_Record 4 x (((o.b.rs.take i).map cutR).flatMap encR) :: pt a9 (.cells #[.int .i64 o.b.base, .int .i64 o.b.pid, .int .i64 o.b.epoch, .int .i64 o.b.seq, .int .i64 o.b.kind, .int .i64 o.b.time, .slice x.a x.len x.cap] T.api_Batch) ::
        pt a1 (.cells #[.int .i64 0, .int .i64 0, .int .i64 0, .int .i64 0, .int .i64 0, .int .i64 0, .slice none 0 0] T.api_Batch) ::
        pt a0 (.cells #[.int .i64 o.kind, .int .i64 o.b.base, .int .i64 o.b.pid, .int .i64 o.b.epoch, .int .i64 o.b.seq, .int .i64 o.b.kind, .int .i64 o.b.time, .slice o.b.x.a o.b.x.len o.b.x.cap, .bool o.near, .int .i64 o.time] T.towpathlaw07_Op) :: l)) o.b.rs.length
        ⟨0, ⟨none, 0, 0⟩, rfl, by omega, by omega, rfl, hs.slc_nil⟩ ?_
      clear hs
      rintro k _ w ⟨i, x, rfl, hi, hi5, hk, hs⟩
      refine wp_on ?_
      refine wp_if (fun hc => ?_) fun hc => ?_
      rotate_left
      · refine wp_pass (wp_lv ⟨x, ?_⟩)
        rw [show o.b.rs.take i = o.b.rs.take 8 by rw [List.take_of_length_le (by omega), List.take_of_length_le (by omega)]] at hs
        exact hs
      have hil : i < o.b.rs.length := by omega
      refine wp_ixA hs i hil ?_
      refine wp_newO hs fun c w' hs => ?_
      refine wp_lt ?_
      refine wp_stG hs fun w' hs => ?_
      refine wp_if (fun h5 => ?_) fun h5 => ?_
      · refine wp_pass (wp_lv ⟨x, ?_⟩)
        have : i = 8 := by omega
        subst this
        exact hs.sub
      refine wp_ldO hs ?_
      refine wp_mid (fun _ w' => Sat w' (pt c (.cells #[.string (cut8 o.b.rs[i].key), .string o.b.rs[i].value, .bool o.b.rs[i].gone, .int .i64 o.b.rs[i].time] T.api_Record) :: slc T.api_Record 4 x (((o.b.rs.take i).map cutR).flatMap encR) :: pt a9 (.cells #[.int .i64 o.b.base, .int .i64 o.b.pid, .int .i64 o.b.epoch, .int .i64 o.b.seq, .int .i64 o.b.kind, .int .i64 o.b.time, .slice x.a x.len x.cap] T.api_Batch) ::
        pt a1 (.cells #[.int .i64 0, .int .i64 0, .int .i64 0, .int .i64 0, .int .i64 0, .int .i64 0, .slice none 0 0] T.api_Batch) ::
        pt a0 (.cells #[.int .i64 o.kind, .int .i64 o.b.base, .int .i64 o.b.pid, .int .i64 o.b.epoch, .int .i64 o.b.seq, .int .i64 o.b.kind, .int .i64 o.b.time, .slice o.b.x.a o.b.x.len o.b.x.cap, .bool o.near, .int .i64 o.time] T.towpathlaw07_Op) :: l)) ?_ ?_
      · refine wp_if (fun h => ?_) fun h => ?_
        · have e : cut8 o.b.rs[i].key = o.b.rs[i].key.extract 0 8 := by unfold cut8; rw [if_pos (by omega)]
          rw [e]
          refine wp_ldO hs ?_
          refine wp_must (by omega) ?_
          refine wp_stO hs fun w' hs => ?_
          exact wp_lv hs
        · have e : cut8 o.b.rs[i].key = o.b.rs[i].key := by unfold cut8; rw [if_neg (by omega)]
          rw [e]
          exact wp_lv hs
      clear hs
      rintro _ w hs
      refine wp_on ?_
      refine wp_ldO hs ?_
      refine wp_mid (fun _ w' => Sat w' (pt c (.cells #[.string (cut8 o.b.rs[i].key), .string (cut8 o.b.rs[i].value), .bool o.b.rs[i].gone, .int .i64 o.b.rs[i].time] T.api_Record) :: slc T.api_Record 4 x (((o.b.rs.take i).map cutR).flatMap encR) :: pt a9 (.cells #[.int .i64 o.b.base, .int .i64 o.b.pid, .int .i64 o.b.epoch, .int .i64 o.b.seq, .int .i64 o.b.kind, .int .i64 o.b.time, .slice x.a x.len x.cap] T.api_Batch) ::
        pt a1 (.cells #[.int .i64 0, .int .i64 0, .int .i64 0, .int .i64 0, .int .i64 0, .int .i64 0, .slice none 0 0] T.api_Batch) ::
        pt a0 (.cells #[.int .i64 o.kind, .int .i64 o.b.base, .int .i64 o.b.pid, .int .i64 o.b.epoch, .int .i64 o.b.seq, .int .i64 o.b.kind, .int .i64 o.b.time, .slice o.b.x.a o.b.x.len o.b.x.cap, .bool o.near, .int .i64 o.time] T.towpathlaw07_Op) :: l)) ?_ ?_
      · refine wp_if (fun h => ?_) fun h => ?_
        · have e : cut8 o.b.rs[i].value = o.b.rs[i].value.extract 0 8 := by unfold cut8; rw [if_pos (by omega)]
          rw [e]
          refine wp_ldO hs ?_
          refine wp_must (by omega) ?_
          refine wp_stO hs fun w' hs => ?_
          exact wp_lv hs
        · have e : cut8 o.b.rs[i].value = o.b.rs[i].value := by unfold cut8; rw [if_neg (by omega)]
          rw [e]
          exact wp_lv hs
      clear hs
      rintro _ w hs
      refine wp_on ?_
      refine wp_ldO hs ?_
      refine wp_ldG hs ?_
      refine wp_ap0 hs (xs := (o.b.rs.take i).map cutR) (enc := encR) (cutR o.b.rs[i]) (fun z w' hs => ?_) rfl (by rw [List.length_map, List.length_take]; omega)
      refine wp_stO hs fun w' hs => ?_
      refine wp_dn (us' := [.int .i64 ((i + 1 : Nat) : Int)]) (by (try simp (disch := omega) only [w64]); first | rfl | (congr; omega)) ?_
      refine wp_lp (o.b.rs.length - (i + 1)) ?_
      refine ⟨i + 1, z, rfl, by omega, by omega, rfl, ?_⟩
      have e : (o.b.rs.take (i + 1)).map cutR = (o.b.rs.take i).map cutR ++ [cutR o.b.rs[i]] := by
        rw [List.take_add_one, List.getElem?_eq_getElem hil, Option.toList_some, List.map_append]; rfl
      rw [e]
      exact hs.sub
    clear hs
    rintro _ w ⟨x, hs⟩
    refine wp_on ?_
    refine wp_ldO hs ?_
    refine wp_mid (fun _ w' => Sat w' (pt a9 (.cells #[.int .i64 (if o.near then nearB o.b.base next else o.b.base), .int .i64 o.b.pid, .int .i64 o.b.epoch, .int .i64 o.b.seq, .int .i64 o.b.kind, .int .i64 o.b.time, .slice x.a x.len x.cap] T.api_Batch) ::
      slc T.api_Record 4 x (((o.b.rs.take 8).map cutR).flatMap encR) :: pt a1 (.cells #[.int .i64 0, .int .i64 0, .int .i64 0, .int .i64 0, .int .i64 0, .int .i64 0, .slice none 0 0] T.api_Batch) :: l)) ?_ ?_
    · refine wp_if (fun h => ?_) fun h => ?_
      · rw [if_pos h]
        refine wp_ldO hs ?_
        refine wp_stO hs fun w' hs => ?_
        refine wp_ldO hs ?_
        refine wp_mid (fun _ w' => Sat w' (pt a9 (.cells #[.int .i64 (if Int.tmod o.b.base 5 < 0 then 0 else Int.tmod o.b.base 5), .int .i64 o.b.pid, .int .i64 o.b.epoch, .int .i64 o.b.seq, .int .i64 o.b.kind, .int .i64 o.b.time, .slice x.a x.len x.cap] T.api_Batch) ::
          slc T.api_Record 4 x (((o.b.rs.take 8).map cutR).flatMap encR) :: pt a1 (.cells #[.int .i64 0, .int .i64 0, .int .i64 0, .int .i64 0, .int .i64 0, .int .i64 0, .slice none 0 0] T.api_Batch) :: l)) ?_ ?_
        · refine wp_if (fun h2 => ?_) fun h2 => ?_
          · rw [if_pos h2]
            refine wp_stO hs fun w' hs => ?_
            exact wp_lv hs.sub
          · rw [if_neg h2]
            exact wp_lv hs.sub
        clear hs
        rintro _ w hs
        refine wp_on ?_
        refine wp_ldO hs ?_
        refine wp_stO hs fun w' hs => ?_
        exact wp_lv hs
      · rw [if_neg h]
        exact wp_lv hs.sub
    clear hs
    rintro _ w hs
    refine wp_on ?_
    refine wp_ldG hs ?_
    refine wp_stG hs fun w' hs => ?_
    refine wp_ldG hs ?_
    exact ⟨rfl, x, rfl, hs.sub⟩


def ra : RecM := ⟨ByteArray.mk #[97], ByteArray.mk #[], false, 0⟩
def rb : RecM := ⟨ByteArray.mk #[98], ByteArray.mk #[], false, 0⟩
def twoB (epoch seq base : Int) (x : Sl) : BatM := ⟨base, 3, epoch, seq, 1, 0, x, [ra, rb]⟩
def endB : BatM := ⟨12, 3, 0, 0, 2, 0, ⟨none, 0, 0⟩, []⟩
instance {b : BatM} : IsR (sG [.int .i64, .int .i64, .int .i64, .int .i64, .int .i64, .int .i64, .slc]) [.agg (encB7 b).toArray] (b.base, b.pid, b.epoch, b.seq, b.kind, b.time, b.x, ()) := ⟨rfl⟩
theorem two_c (epoch seq base : Int) (hs : Sat w l) : Ret P F.towpathlaw07_two #[.int .i64 epoch, .int .i64 seq, .int .i64 base] w fun vs w' => ∃ x : Sl, vs = [.agg (encB7 (twoB epoch seq base x)).toArray] ∧ Sat w' (slc T.api_Record 4 x ([ra, rb].flatMap encR) :: l) :=
  towpathlaw07_two_calls epoch seq base <| by
    unfold towpathlaw07_two
    refine wp_newO hs fun a0 w' hs => ?_
    refine wp_lits hs (enc := encR) [ra, rb] fun x w' hs => ?_
    refine wp_stG hs fun w' hs => ?_
    refine wp_ldG hs ?_
    exact ⟨rfl, x, rfl, hs.tail⟩

variable {t : Nat} {A A' : TabA} {e : Int} {v : VerA}
theorem take_e (b : BatM) [hf : Fo l tb t A r] [hb : FocR r b.x 4 (b.rs.flatMap encR)] (hA : takeT A b = (e, A')) (hs : Sat w l) : Ret P F.dedup_Table_Take #[.pointer (some ⟨t, 0, none⟩), .agg (encB7 b).toArray] w fun vs w' => vs = [.int .i64 e] ∧ Sat w' (tb t A' :: r) := by
  have h := ttake_c (hf := hf) (hb := hb) b hs
  rw [hA] at h
  exact h
theorem judge_e (b : BatM) [hf : Fo l tb t A r] [hb : FocR r b.x 4 (b.rs.flatMap encR)] (hA : judgeA A b = (v, e)) (hs : Sat w l) : Ret P F.dedup_Table_Judge #[.pointer (some ⟨t, 0, none⟩), .agg (encB7 b).toArray] w fun vs w' => vs = [.agg (encVd v).toArray, .int .i64 e] ∧ Sat w' (tb t A :: r) := by
  have h := tjudge_c (hf := hf) (hb := hb) b hs
  rw [hA] at h
  exact h
def aw3 : RowA := ⟨3, 0, 0, 2, 10, 10, 0⟩
def aw4 : RowA := ⟨3, 1, 0, 0, 0, -1, 0⟩
theorem aw1 (x : Sl) : takeT ⟨5, 0, []⟩ (twoB 0 0 10 x) = (0, ⟨5, 12, [aw3]⟩) := by kernel_rfl
theorem awj1 (x : Sl) : judgeA ⟨5, 12, [aw3]⟩ (twoB 0 0 0 x) = (⟨true, 10⟩, 0) := by kernel_rfl
theorem awj2 (x : Sl) : judgeA ⟨5, 12, [aw3]⟩ (twoB 0 3 0 x) = (⟨false, 0⟩, 21) := by kernel_rfl
theorem aw2 : takeT ⟨5, 12, [aw3]⟩ endB = (0, ⟨5, 13, [aw4]⟩) := by kernel_rfl
theorem awj3 (x : Sl) : judgeA ⟨5, 13, [aw4]⟩ (twoB 0 2 0 x) = (⟨false, 0⟩, 20) := by kernel_rfl
theorem awj4 (x : Sl) : judgeA ⟨5, 13, [aw4]⟩ (twoB 1 0 0 x) = (⟨false, 0⟩, 0) := by kernel_rfl
theorem aws1 : stableT ⟨5, 12, [aw3]⟩ = 10 := by kernel_rfl
theorem aws2 : stableT ⟨5, 13, [aw4]⟩ = 13 := by kernel_rfl

theorem awake7 (hs : Sat w l) : Ret P F.towpathlaw07_awake #[] w fun vs w' => vs = [.bool true] ∧ Sat w' l :=
  towpathlaw07_awake_calls <| by
    unfold towpathlaw07_awake
    refine wp_call (tnew_c 5 hs) fun _ w' h => ?_
    obtain ⟨-, -, t, rfl, hs⟩ := h.resolve_right (fun h => by have := h.1; omega)
    refine ret_of ?_
    refine wp_lt ?_
    refine wp_mid (fun v w' => v = (false, ()) ∧ Sat w' (tb t ⟨5, 12, [aw3]⟩ :: l)) ?_ ?_
    · refine wp_ifF ?_ (by simp)
      refine wp_call (two_c 0 0 10 hs) fun _ _ hs => ?_
      obtain ⟨x1, rfl, hs⟩ := hs
      refine ret_of ?_
      refine wp_call (take_e (t := t) (twoB 0 0 10 x1) (hb := by show FocR _ x1 4 ([ra, rb].flatMap encR); infer_instance) (aw1 x1) hs) fun _ _ hs => ?_
      obtain ⟨rfl, hs⟩ := hs
      refine ret_of ?_
      exact wp_lv ⟨rfl, hs.sub⟩
    clear hs
    rintro _ w ⟨rfl, hs⟩
    refine wp_on ?_
    refine wp_ifF ?_ (by simp)
    refine wp_call (two_c 0 0 0 hs) fun _ _ hs => ?_
    obtain ⟨x1, rfl, hs⟩ := hs
    refine ret_of ?_
    refine wp_call (judge_e (t := t) (twoB 0 0 0 x1) (hb := by show FocR _ x1 4 ([ra, rb].flatMap encR); infer_instance) (awj1 x1) hs) fun _ _ hs => ?_
    obtain ⟨rfl, hs⟩ := hs
    refine ret_of ?_
    refine wp_newO hs fun a22 w' hs => ?_
    refine wp_stG hs fun w' hs => ?_
    refine wp_lt ?_
    refine wp_call (two_c 0 3 0 hs) fun _ _ hs => ?_
    obtain ⟨x2, rfl, hs⟩ := hs
    refine ret_of ?_
    refine wp_call (judge_e (t := t) (twoB 0 3 0 x2) (hb := by show FocR _ x2 4 ([ra, rb].flatMap encR); infer_instance) (awj2 x2) hs) fun _ _ hs => ?_
    obtain ⟨rfl, hs⟩ := hs
    refine ret_of ?_
    refine wp_newO hs fun a34 w' hs => ?_
    refine wp_stG hs fun w' hs => ?_
    refine wp_lt ?_
    refine wp_call (tstable_c (t := t) hs) fun _ _ hs => ?_
    obtain ⟨rfl, hs⟩ := hs
    refine ret_of ?_
    rw [aws1]
    refine wp_lt ?_
    refine wp_call (take_e (t := t) endB (hb := FocR.nil' 4) aw2 hs) fun _ _ hs => ?_
    obtain ⟨rfl, hs⟩ := hs
    refine ret_of ?_
    refine wp_lt ?_
    refine wp_call (two_c 0 2 0 hs) fun _ _ hs => ?_
    obtain ⟨x3, rfl, hs⟩ := hs
    refine ret_of ?_
    refine wp_call (judge_e (t := t) (twoB 0 2 0 x3) (hb := by show FocR _ x3 4 ([ra, rb].flatMap encR); infer_instance) (awj3 x3) hs) fun _ _ hs => ?_
    obtain ⟨rfl, hs⟩ := hs
    refine ret_of ?_
    refine wp_newO hs fun a50 w' hs => ?_
    refine wp_stG hs fun w' hs => ?_
    refine wp_lt ?_
    refine wp_call (two_c 1 0 0 hs) fun _ _ hs => ?_
    obtain ⟨x4, rfl, hs⟩ := hs
    refine ret_of ?_
    refine wp_call (judge_e (t := t) (twoB 1 0 0 x4) (hb := by show FocR _ x4 4 ([ra, rb].flatMap encR); infer_instance) (awj4 x4) hs) fun _ _ hs => ?_
    obtain ⟨rfl, hs⟩ := hs
    refine ret_of ?_
    refine wp_newO hs fun a62 w' hs => ?_
    refine wp_stG hs fun w' hs => ?_
    refine wp_lt ?_
    refine wp_mid (fun v w' => v = (true, ()) ∧ Sat w' l) ?_ (by rintro _ w' ⟨rfl, hs⟩; refine wp_on ?_; exact ⟨rfl, rfl, hs⟩)
    refine wp_ldO hs ?_
    refine wp_ldO hs ?_
    refine wp_ifT ?_ (by simp)
    refine wp_call (tstable_c (t := t) hs) fun _ _ hs => ?_
    obtain ⟨rfl, hs⟩ := hs
    refine ret_of ?_
    rw [aws2]
    refine wp_lt ?_
    exact wp_lv ⟨rfl, hs.sub⟩
end
end Go.Dec
