/- Isolation: the law's small. -/
import Derived.Test.YtpjfebedfejmgaaGreatA1
namespace Go.Dec
set_option linter.unusedVariables false
set_option linter.unusedSimpArgs false

/-- A call, as the law is handed it. -/
structure OpI where
  kind : Int
  b : BatM
  near : Bool
  at_ : Int
def encO (o : OpI) : List Value := [.int .i64 o.kind, .int .i64 o.b.base, .int .i64 o.b.pid, .int .i64 o.b.epoch, .int .i64 o.b.seq, .int .i64 o.b.kind, .int .i64 o.b.time, .slice o.b.x.a o.b.x.len o.b.x.cap, .bool o.near, .int .i64 o.at_]
instance : EncA encO [.int .i64, .int .i64, .int .i64, .int .i64, .int .i64, .int .i64, .int .i64, .slc, .bool, .int .i64] (fun o => (o.kind, o.b.base, o.b.pid, o.b.epoch, o.b.seq, o.b.kind, o.b.time, o.b.x, o.near, o.at_, ())) := ⟨fun _ => rfl⟩
instance : EncN encO 10 := ⟨fun _ => rfl, by decide, by simp [encO, Value.oneCell']⟩
def cut8 (s : ByteArray) : ByteArray := if s.size > 8 then s.extract 0 8 else s
def cutR (r : RecM) : RecM := ⟨cut8 r.key, cut8 r.value, r.gone, r.time⟩
def nearB (base next : Int) : Int := IntKind.wrap .i64 ((if Int.tmod base 5 < 0 then 0 else Int.tmod base 5) + next)
def smallB (o : OpI) (next : Int) (x : Sl) : BatM := ⟨if o.near then nearB o.b.base next else o.b.base, o.b.pid, o.b.epoch, o.b.seq, o.b.kind, o.b.time, x, (o.b.rs.take 5).map cutR⟩
instance AddrIs.add16 {a : Addr} {b : Nat} [h : AddrIs a b 1] : AddrIs (a.add 6) b 7 := ⟨by rw [h.ok, add_mk]⟩

section
variable {w : World} {l r : List HP}

theorem small8_c (o : OpI) (next : Int) [hb : FocR l o.b.x 4 (o.b.rs.flatMap encR)] (hs : Sat w l) :
    Ret P F.towpathlaw08_small #[.agg (encO o).toArray, .int .i64 next] w fun vs w' => ∃ x : Sl, vs = [.agg (encB7 (smallB o next x)).toArray] ∧ Sat w' (slc T.api_Record 4 x (((o.b.rs.take 5).map cutR).flatMap encR) :: l) :=
  towpathlaw08_small_calls o.kind o.b.base o.b.pid o.b.epoch o.b.seq o.b.kind o.b.time o.b.x o.near o.at_ next <| by
    unfold towpathlaw08_small
    have hl := hs.slen o.b.x (xs := o.b.rs) (enc := encR)
    refine wp_boxO hs fun a0 w' hs => ?_
    refine wp_newO hs fun a1 w' hs => ?_
    refine wp_ldP hs (o.b.base, o.b.pid, o.b.epoch, o.b.seq, o.b.kind, o.b.time, o.b.x, ()) ?_
    refine wp_newO hs fun a9 w' hs => ?_
    refine wp_stG hs fun w' hs => ?_
    refine wp_stO hs fun w' hs => ?_
    refine wp_ldO hs ?_
    refine wp_mid (fun _ w' => ∃ x : Sl, Sat w' (slc T.api_Record 4 x (((o.b.rs.take 5).map cutR).flatMap encR) :: pt a9 (.cells #[.int .i64 o.b.base, .int .i64 o.b.pid, .int .i64 o.b.epoch, .int .i64 o.b.seq, .int .i64 o.b.kind, .int .i64 o.b.time, .slice x.a x.len x.cap] T.api_Batch) ::
      pt a1 (.cells #[.int .i64 0, .int .i64 0, .int .i64 0, .int .i64 0, .int .i64 0, .int .i64 0, .slice none 0 0] T.api_Batch) ::
      pt a0 (.cells #[.int .i64 o.kind, .int .i64 o.b.base, .int .i64 o.b.pid, .int .i64 o.b.epoch, .int .i64 o.b.seq, .int .i64 o.b.kind, .int .i64 o.b.time, .slice o.b.x.a o.b.x.len o.b.x.cap, .bool o.near, .int .i64 o.at_] T.towpathlaw08_Op) :: l)) ?_ ?_
    · refine wp_loop (fun k v w => ∃ (i : Nat) (x : Sl), v = ((i : Int), ()) ∧ i ≤ o.b.rs.length ∧ i ≤ 5 ∧ o.b.rs.length - i = k ∧ Sat w (slc T.api_Record 4 x (((o.b.rs.take i).map cutR).flatMap encR) :: pt a9 (.cells #[.int .i64 o.b.base, .int .i64 o.b.pid, .int .i64 o.b.epoch, .int .i64 o.b.seq, .int .i64 o.b.kind, .int .i64 o.b.time, .slice x.a x.len x.cap] T.api_Batch) ::
        pt a1 (.cells #[.int .i64 0, .int .i64 0, .int .i64 0, .int .i64 0, .int .i64 0, .int .i64 0, .slice none 0 0] T.api_Batch) ::
        pt a0 (.cells #[.int .i64 o.kind, .int .i64 o.b.base, .int .i64 o.b.pid, .int .i64 o.b.epoch, .int .i64 o.b.seq, .int .i64 o.b.kind, .int .i64 o.b.time, .slice o.b.x.a o.b.x.len o.b.x.cap, .bool o.near, .int .i64 o.at_] T.towpathlaw08_Op) :: l)) o.b.rs.length
        ⟨0, ⟨none, 0, 0⟩, rfl, by omega, by omega, rfl, hs.slc_nil⟩ ?_
      clear hs
      rintro k _ w ⟨i, x, rfl, hi, hi5, hk, hs⟩
      refine wp_on ?_
      refine wp_if (fun hc => ?_) fun hc => ?_
      rotate_left
      · refine wp_pass (wp_lv ⟨x, ?_⟩)
        rw [show o.b.rs.take i = o.b.rs.take 5 by rw [List.take_of_length_le (by omega), List.take_of_length_le (by omega)]] at hs
        exact hs
      have hil : i < o.b.rs.length := by omega
      refine wp_ixA hs i hil ?_
      refine wp_newO hs fun c w' hs => ?_
      refine wp_lt ?_
      refine wp_stG hs fun w' hs => ?_
      refine wp_if (fun h5 => ?_) fun h5 => ?_
      · refine wp_pass (wp_lv ⟨x, ?_⟩)
        have : i = 5 := by omega
        subst this
        exact hs.sub
      refine wp_ldO hs ?_
      refine wp_mid (fun _ w' => Sat w' (pt c (.cells #[.string (cut8 o.b.rs[i].key), .string o.b.rs[i].value, .bool o.b.rs[i].gone, .int .i64 o.b.rs[i].time] T.api_Record) :: slc T.api_Record 4 x (((o.b.rs.take i).map cutR).flatMap encR) :: pt a9 (.cells #[.int .i64 o.b.base, .int .i64 o.b.pid, .int .i64 o.b.epoch, .int .i64 o.b.seq, .int .i64 o.b.kind, .int .i64 o.b.time, .slice x.a x.len x.cap] T.api_Batch) ::
        pt a1 (.cells #[.int .i64 0, .int .i64 0, .int .i64 0, .int .i64 0, .int .i64 0, .int .i64 0, .slice none 0 0] T.api_Batch) ::
        pt a0 (.cells #[.int .i64 o.kind, .int .i64 o.b.base, .int .i64 o.b.pid, .int .i64 o.b.epoch, .int .i64 o.b.seq, .int .i64 o.b.kind, .int .i64 o.b.time, .slice o.b.x.a o.b.x.len o.b.x.cap, .bool o.near, .int .i64 o.at_] T.towpathlaw08_Op) :: l)) ?_ ?_
      · refine wp_if (fun h => ?_) fun h => ?_
        · have e : cut8 o.b.rs[i].key = o.b.rs[i].key.extract 0 8 := by unfold cut8; rw [if_pos (by omega)]
          rw [e]
          refine wp_ldO hs ?_
          refine wp_must (by omega) ?_
          refine wp_stO hs fun w' hs => ?_
          exact wp_lv hs
        · have e : cut8 o.b.rs[i].key = o.b.rs[i].key := by unfold cut8; rw [if_neg (by omega)]
          rw [e]
          exact wp_lv hs
      clear hs
      rintro _ w hs
      refine wp_on ?_
      refine wp_ldO hs ?_
      refine wp_mid (fun _ w' => Sat w' (pt c (.cells #[.string (cut8 o.b.rs[i].key), .string (cut8 o.b.rs[i].value), .bool o.b.rs[i].gone, .int .i64 o.b.rs[i].time] T.api_Record) :: slc T.api_Record 4 x (((o.b.rs.take i).map cutR).flatMap encR) :: pt a9 (.cells #[.int .i64 o.b.base, .int .i64 o.b.pid, .int .i64 o.b.epoch, .int .i64 o.b.seq, .int .i64 o.b.kind, .int .i64 o.b.time, .slice x.a x.len x.cap] T.api_Batch) ::
        pt a1 (.cells #[.int .i64 0, .int .i64 0, .int .i64 0, .int .i64 0, .int .i64 0, .int .i64 0, .slice none 0 0] T.api_Batch) ::
        pt a0 (.cells #[.int .i64 o.kind, .int .i64 o.b.base, .int .i64 o.b.pid, .int .i64 o.b.epoch, .int .i64 o.b.seq, .int .i64 o.b.kind, .int .i64 o.b.time, .slice o.b.x.a o.b.x.len o.b.x.cap, .bool o.near, .int .i64 o.at_] T.towpathlaw08_Op) :: l)) ?_ ?_
      · refine wp_if (fun h => ?_) fun h => ?_
        · have e : cut8 o.b.rs[i].value = o.b.rs[i].value.extract 0 8 := by unfold cut8; rw [if_pos (by omega)]
          rw [e]
          refine wp_ldO hs ?_
          refine wp_must (by omega) ?_
          refine wp_stO hs fun w' hs => ?_
          exact wp_lv hs
        · have e : cut8 o.b.rs[i].value = o.b.rs[i].value := by unfold cut8; rw [if_neg (by omega)]
          rw [e]
          exact wp_lv hs
      clear hs
      rintro _ w hs
      refine wp_on ?_
      refine wp_ldO hs ?_
      refine wp_ldG hs ?_
      refine wp_ap0 hs (xs := (o.b.rs.take i).map cutR) (enc := encR) (cutR o.b.rs[i]) (fun z w' hs => ?_) rfl (by rw [List.length_map, List.length_take]; omega)
      refine wp_stO hs fun w' hs => ?_
      refine wp_dn (us' := [.int .i64 ((i + 1 : Nat) : Int)]) (by (try simp (disch := omega) only [w64]); first | rfl | (congr; omega)) ?_
      refine wp_lp (o.b.rs.length - (i + 1)) ?_
      refine ⟨i + 1, z, rfl, by omega, by omega, rfl, ?_⟩
      have e : (o.b.rs.take (i + 1)).map cutR = (o.b.rs.take i).map cutR ++ [cutR o.b.rs[i]] := by
        rw [List.take_add_one, List.getElem?_eq_getElem hil, Option.toList_some, List.map_append]; rfl
      rw [e]
      exact hs.sub
    clear hs
    rintro _ w ⟨x, hs⟩
    refine wp_on ?_
    refine wp_ldO hs ?_
    refine wp_mid (fun _ w' => Sat w' (pt a9 (.cells #[.int .i64 (if o.near then nearB o.b.base next else o.b.base), .int .i64 o.b.pid, .int .i64 o.b.epoch, .int .i64 o.b.seq, .int .i64 o.b.kind, .int .i64 o.b.time, .slice x.a x.len x.cap] T.api_Batch) ::
      slc T.api_Record 4 x (((o.b.rs.take 5).map cutR).flatMap encR) :: pt a1 (.cells #[.int .i64 0, .int .i64 0, .int .i64 0, .int .i64 0, .int .i64 0, .int .i64 0, .slice none 0 0] T.api_Batch) :: l)) ?_ ?_
    · refine wp_if (fun h => ?_) fun h => ?_
      · rw [if_pos h]
        refine wp_ldO hs ?_
        refine wp_stO hs fun w' hs => ?_
        refine wp_ldO hs ?_
        refine wp_mid (fun _ w' => Sat w' (pt a9 (.cells #[.int .i64 (if Int.tmod o.b.base 5 < 0 then 0 else Int.tmod o.b.base 5), .int .i64 o.b.pid, .int .i64 o.b.epoch, .int .i64 o.b.seq, .int .i64 o.b.kind, .int .i64 o.b.time, .slice x.a x.len x.cap] T.api_Batch) ::
          slc T.api_Record 4 x (((o.b.rs.take 5).map cutR).flatMap encR) :: pt a1 (.cells #[.int .i64 0, .int .i64 0, .int .i64 0, .int .i64 0, .int .i64 0, .int .i64 0, .slice none 0 0] T.api_Batch) :: l)) ?_ ?_
        · refine wp_if (fun h2 => ?_) fun h2 => ?_
          · rw [if_pos h2]
            refine wp_stO hs fun w' hs => ?_
            exact wp_lv hs.sub
          · rw [if_neg h2]
            exact wp_lv hs.sub
        clear hs
        rintro _ w hs
        refine wp_on ?_
        refine wp_ldO hs ?_
        refine wp_stO hs fun w' hs => ?_
        exact wp_lv hs
      · rw [if_neg h]
        exact wp_lv hs.sub
    clear hs
    rintro _ w hs
    refine wp_on ?_
    refine wp_ldG hs ?_
    refine wp_stG hs fun w' hs => ?_
    refine wp_ldG hs ?_
    exact ⟨rfl, x, rfl, hs.sub⟩

end
end Go.Dec
