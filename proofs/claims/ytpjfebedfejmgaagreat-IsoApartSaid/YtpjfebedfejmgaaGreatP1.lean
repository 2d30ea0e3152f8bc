/- Isolation: the law's txns, same, step; IsoPlays. -/
import Derived.Test.YtpjfebedfejmgaaGreatV8
import Derived.Test.YtpjfebedfejmgaaGreatR3
namespace Go.Dec
set_option linter.unusedVariables false
set_option linter.unusedSimpArgs false

section
variable {P' : Program} {w : World} {l r : List HP} {Q : Post} {S : World → Prop}
/-- A store of a whole element. -/
theorem wp_ixSG {α : Type} {enc : α → List Value} {xs : List α} {i i' : Int} {x : Sl} {T t : TypeId} {sz n' : Nat} {k : Prog} {us : List Value} (hs : Sat w l) [hf : FocS l x T sz (xs.flatMap enc) r] [hE : EncN enc sz] [hT : Agg P' t n'] (n : Nat) (hn : n < xs.length) (y : α)
    (h : ∀ w', Sat w' (slc T sz x ((xs.set n y).flatMap enc) :: r) → k.wp P' S w' Q) (hy : us = enc y := by rfl) (hi : i = n := by first | rfl | omega) (hi' : i' = i := by rfl) (hz : Nat.beq sz n' = true := by rfl) (hS : ∀ w', S w' := by exact fun _ => trivial) :
    (Prog.ex [.adr] (c1 fun a => 0 ≤ i ∧ i < ((x.len : Nat) : Int) ∧ x.a = some a) (u1 fun a => .actU (st t (Addr.add a (Int.toNat i' * sz)) (.agg us.toArray)) k)).wp P' S w Q := by
  have hz := Nat.eq_of_beq_eq_true hz
  subst hi hi' hz
  have hr := (hs.focS x).rd
  have hl : x.len = xs.length := hr.len hE.len hE.pos
  obtain ⟨a, ha, he⟩ := hr.el hE.len (by omega)
  refine ⟨(a, ()), ⟨by omega, by omega, ha⟩, ?_⟩
  exact wp_stE (xs := xs) (i := n) (y := y) hE.len hs ha hn (fun b o e => by subst e; rw [add_mk, Int.toNat_natCast]) hT.ok.2 (by show us.toArray.toList = _; rw [hy]) (hE.one y) fun w' hs' => ⟨hS _, h w' hs'⟩
end

section
variable {w : World} {l r : List HP} {v q : Nat} {A : ViewA}

theorem txns_c (x y : Sl) (ts : List TxnA) (hn : ts.length ≤ 1000000) [hf : FocS l x T.iso_Txn 4 (ts.flatMap encX) r] [hy : FocR r y 4 (ts.flatMap encX)] (hs : Sat w l) : Ret P F.towpathlaw08_txns #[x.v, y.v] w fun vs w' => vs = [.bool true] ∧ Sat w' r :=
  towpathlaw08_txns_calls x y <| by
    unfold towpathlaw08_txns
    have hs : Sat w (slc T.iso_Txn 4 x (ts.flatMap encX) :: r) := hs.focS x
    have hxl := hs.slen x (xs := ts) (enc := encX)
    have hyl := hs.slen y (xs := ts) (enc := encX)
    refine wp_ifF ?_ (by omega)
    refine wp_mid (fun _ w' => Sat w' r) ?_ (by rintro _ w' hs; refine wp_on ?_; exact ⟨rfl, rfl, hs⟩)
    refine wp_loop (fun k p w => ∃ (i : Nat) (us : List TxnA), p = ((i : Int), ()) ∧ i ≤ ts.length ∧ ts.length - i = k ∧ us.length = ts.length ∧ us.drop i = ts.drop i ∧ Sat w (slc T.iso_Txn 4 x (us.flatMap encX) :: r)) ts.length ⟨0, ts, rfl, by omega, rfl, rfl, rfl, hs⟩ ?_
    clear hs
    rintro k _ w ⟨i, us, rfl, hi, hk, hul, hdr, hs⟩
    refine wp_on ?_
    refine wp_if (fun hc => ?_) fun hc => ?_
    rotate_left
    · exact wp_pass (wp_lv hs.tail)
    have hil : i < ts.length := by omega
    have hiu : i < us.length := by omega
    have hget : us[i] = ts[i] := by
      rw [List.drop_eq_getElem_cons hil, List.drop_eq_getElem_cons hiu] at hdr
      exact (List.cons.inj hdr).1
    refine wp_lt ?_
    refine wp_tk hs fun w' hs => ?_
    refine wp_ixF hs (xs := us) (enc := encX) i hiu ?_
    refine wp_ixF hs (xs := ts) (enc := encX) i hil ?_
    refine wp_ixFg hs (xs := us) (enc := encX) i hiu ?_
    refine wp_ixFg hs (xs := ts) (enc := encX) i hil ?_
    refine wp_ixFg hs (xs := us) (enc := encX) i hiu ?_
    refine wp_ixFg hs (xs := ts) (enc := encX) i hil ?_
    refine wp_ixFg hs (xs := us) (enc := encX) i hiu ?_
    refine wp_ixFg hs (xs := ts) (enc := encX) i hil ?_
    rw [hget]
    refine wp_untick ?_
    refine wp_ifF ?_ (by simp)
    refine wp_ixSG hs (xs := us) (enc := encX) i hiu (⟨-1, 0, 0, 0⟩ : TxnA) fun w' hs => ?_
    refine wp_dn (us' := [.int .i64 ((i + 1 : Nat) : Int)]) (by (try simp (disch := omega) only [w64]); first | rfl | (congr; omega)) ?_
    refine wp_lp (ts.length - (i + 1)) ?_
    refine ⟨i + 1, us.set i ⟨-1, 0, 0, 0⟩, rfl, by omega, rfl, by simp [hul], ?_, hs⟩
    rw [List.drop_set_of_lt (by omega)]
    rw [List.drop_eq_getElem_cons hil, List.drop_eq_getElem_cons hiu] at hdr
    exact (List.cons.inj hdr).2

theorem vw_ok (hs : Sat w (vw v A :: l)) : okV A := (vw_open hs).choose_spec.choose_spec.1

theorem same_c (x : Sl) (bs : List BatM) (hs : Sat w (vw v A :: dwP q A :: l)) [hx : FocR l x 7 (bs.flatMap encB7)] (hbs : ∀ b ∈ bs, FocR l b.x 4 (b.rs.flatMap encR)) (hn : bs.length ≤ 1000) (hr : ∀ b ∈ bs, b.rs.length ≤ 1000) :
    Ret P F.towpathlaw08_same #[.pointer (some ⟨v, 0, none⟩), .pointer (some ⟨q, 0, none⟩), x.v] w fun vs w' => vs = [.bool true] ∧ Sat w' (vw v A :: dwP q A :: l) :=
  towpathlaw08_same_calls _ _ x <| by
    unfold towpathlaw08_same
    have hok := vw_ok hs
    have hmany := hok.many
    refine wp_mid (fun u w' => u = (false, ()) ∧ Sat w' (vw v A :: dwP q A :: l)) ?_ ?_
    · refine wp_tk hs fun w' hs => ?_
      obtain ⟨x1, y1, hs⟩ := dw_open (hs.pick [1])
      refine wp_nng ?_
      refine wp_hdO hs ?_
      refine wp_ifF ?_ (by simp)
      refine wp_call (inext_c (v := v) hs) fun _ w' hs => ?_
      obtain ⟨rfl, hs⟩ := hs
      refine ret_of ?_ ⟨trivial, fun _ => run_ldO hs⟩
      refine wp_untick ?_
      refine wp_ifF ?_ (by simp)
      refine wp_call (istable_c (v := v) hs) fun _ _ hs => ?_
      obtain ⟨rfl, hs⟩ := hs
      refine ret_of ?_
      have hs := dw_close A (hs.pick [1, 1, 1])
      refine wp_call (dvstable_c (q := q) hs) fun _ _ hs => ?_
      obtain ⟨rfl, hs⟩ := hs
      refine ret_of ?_
      obtain ⟨x2, y2, hs⟩ := dw_open hs
      refine wp_nng ?_
      refine wp_hdO hs ?_
      refine wp_ifF ?_ (by simp)
      refine wp_call (iopen_c (v := v) hs) fun _ w' hs => ?_
      obtain ⟨z1, rfl, hs⟩ := hs
      refine ret_of ?_ ⟨trivial, fun _ => run_ldO hs⟩
      refine wp_untick ?_
      refine wp_call (txns_c z1 x2 A.op (by omega) hs) fun _ _ hs => ?_
      obtain ⟨rfl, hs⟩ := hs
      refine ret_of ?_
      refine wp_nng ?_
      refine wp_hdO hs ?_
      refine wp_ifF ?_ (by simp)
      refine wp_call (ifallen_c (v := v) hs) fun _ w' hs => ?_
      obtain ⟨z2, rfl, hs⟩ := hs
      refine ret_of ?_ ⟨trivial, fun _ => run_ldO hs⟩
      refine wp_untick ?_
      refine wp_call (txns_c z2 y2 A.fa (by omega) hs) fun _ _ hs => ?_
      obtain ⟨rfl, hs⟩ := hs
      refine ret_of ?_
      refine wp_ifF ?_ (by simp)
      have hs := dw_close A (hs.pick [1, 1, 1])
      refine wp_call (ibytes_c (v := v) hs) fun _ _ hs => ?_
      obtain ⟨z3, rfl, hs⟩ := hs
      refine ret_of ?_
      refine wp_hold (x := (⟨(bytesA A).toArray⟩ : ByteArray)) (ofB_keep (x := z3) hs) ?_
      refine wp_call (dbytes_c (q := q) hok hs) fun _ w' hs => ?_
      obtain ⟨z4, rfl, hs⟩ := hs
      refine ret_of ?_ ⟨trivial, fun _ => ofB_keep (x := z3) hs⟩
      refine wp_ofB (x := z4) hs ?_
      refine wp_untick ?_
      exact wp_lv ⟨by simp, hs.sub⟩
    clear hs
    rintro _ w ⟨rfl, hs⟩
    refine wp_on ?_
    refine wp_ifF ?_ (by simp)
    have hpl : (pickA A bs).length ≤ 1000000 := by
      have h1 := pickA_len A (n := 1000) bs hr
      have := Nat.mul_le_mul_right 1000 hn
      omega
    have hF : ∀ {H : HP} {b : BatM}, b ∈ bs → FocR (H :: l) b.x 4 (b.rs.flatMap encR) := fun {H b} hb => @FocR.tail _ _ _ _ _ (hbs b hb)
    refine wp_call (ipick_c (v := v) x bs (fun b hb => hF hb) hn hr hs) fun _ _ hs => ?_
    obtain ⟨z1, rfl, hs⟩ := hs
    refine ret_of ?_
    have hs := hs.pick [2]
    refine wp_call (dpick_c (q := q) x bs (by omega) (fun b hb => @FocR.tail _ _ _ _ _ (hF hb)) hn hr hs) fun _ _ hs => ?_
    obtain ⟨z2, rfl, hs⟩ := hs
    refine ret_of ?_
    refine wp_call (records_c z1 z2 (pickA A bs) hpl hs) fun _ _ hs => ?_
    obtain ⟨rfl, hs⟩ := hs
    refine ret_of ?_
    refine wp_lt ?_
    exact ⟨rfl, rfl, hs.sub⟩

theorem takeA_fst (A : ViewA) (b : BatM) : (takeA A b).1 = codeA A b := by
  unfold takeA
  by_cases h : codeA A b ≠ 0
  · rw [if_pos h]
  · rw [if_neg h]; exact (Decidable.not_not.1 h).symm

theorem step_c (o : OpI) (hs : Sat w (vw v A :: dwP q A :: l)) [hb : FocR l o.b.x 4 (o.b.rs.flatMap encR)] :
    Ret P F.towpathlaw08_step #[.pointer (some ⟨v, 0, none⟩), .pointer (some ⟨q, 0, none⟩), .agg (encO o).toArray] w fun vs w' => ∃ (v' : Nat) (A' : ViewA), vs = [.pointer (some ⟨v', 0, none⟩), .bool true] ∧ Sat w' (vw v' A' :: dwP q A' :: l) :=
  towpathlaw08_step_calls _ _ o.kind o.b.base o.b.pid o.b.epoch o.b.seq o.b.kind o.b.time o.b.x o.near o.at_ <| by
    unfold towpathlaw08_step
    have hok := vw_ok hs
    have hmany := hok.many
    refine wp_boxO hs fun a0 w' hs => ?_
    refine wp_mid (fun u w' => ∃ (c : Nat) (y : Sl), u = (⟨c, 0, none⟩, ()) ∧ Sat w' (pt c (.cells (encB7 (smallB o A.next y)).toArray T.api_Batch) :: slc T.api_Record 4 y (((o.b.rs.take 5).map cutR).flatMap encR) :: pt a0 (.cells #[.int .i64 o.kind, .int .i64 o.b.base, .int .i64 o.b.pid, .int .i64 o.b.epoch, .int .i64 o.b.seq, .int .i64 o.b.kind, .int .i64 o.b.time, .slice o.b.x.a o.b.x.len o.b.x.cap, .bool o.near, .int .i64 o.at_] T.towpathlaw08_Op) :: vw v A :: dwP q A :: l)) ?_ ?_
    · refine wp_tk hs fun w' hs => ?_
      refine wp_hdG hs ?_
      obtain ⟨x1, y1, hs⟩ := dw_open (hs.pick [2])
      refine wp_nn ?_
      refine wp_hdO hs ?_
      refine wp_both ?_ ?_
      · refine wp_untick ?_
        refine wp_call (small8_c o A.next hs) fun _ _ hs => ?_
        obtain ⟨y, rfl, hs⟩ := hs
        refine ret_of ?_
        refine wp_newO hs fun c w' hs => ?_
        refine wp_stG hs fun w' hs => ?_
        refine wp_untick ?_
        refine wp_lv ⟨c, y, rfl, ?_⟩
        have hs : Sat w' (pt c (.cells (encB7 (smallB o A.next y)).toArray T.api_Batch) :: _) := hs
        exact (dw_close A (hs.pick [2, 2, 2])).sub
      · refine wp_newO hs (fun c w' hs => ?_) (fun c w' hs => ⟨⟨trivial, fun _ => run_ldG hs⟩, fun _ => run_ldO hs⟩)
        refine wp_untick ?_
        refine wp_call (small8_c o A.next hs) fun _ _ hs => ?_
        obtain ⟨y, rfl, hs⟩ := hs
        refine ret_of ?_
        refine wp_stG hs fun w' hs => ?_
        refine wp_untick ?_
        refine wp_lv ⟨c, y, rfl, ?_⟩
        have hs : Sat w' (pt c (.cells (encB7 (smallB o A.next y)).toArray T.api_Batch) :: _) := hs
        exact (dw_close A (hs.pick [2, 2, 2])).sub
    clear hs
    rintro _ w ⟨c, y, rfl, hs⟩
    refine wp_on ?_
    have hy : (smallB o A.next y).x = y := rfl
    have hrs : (smallB o A.next y).rs = (o.b.rs.take 5).map cutR := rfl
    rw [← hrs] at hs
    generalize hbb : smallB o A.next y = b at *
    subst hy
    have hs : Sat w (pt c (.cells #[.int .i64 b.base, .int .i64 b.pid, .int .i64 b.epoch, .int .i64 b.seq, .int .i64 b.kind, .int .i64 b.time, .slice b.x.a b.x.len b.x.cap] T.api_Batch) :: slc T.api_Record 4 b.x (b.rs.flatMap encR) :: pt a0 (.cells #[.int .i64 o.kind, .int .i64 o.b.base, .int .i64 o.b.pid, .int .i64 o.b.epoch, .int .i64 o.b.seq, .int .i64 o.b.kind, .int .i64 o.b.time, .slice o.b.x.a o.b.x.len o.b.x.cap, .bool o.near, .int .i64 o.at_] T.towpathlaw08_Op) :: vw v A :: dwP q A :: l) := hs
    refine wp_ldO hs ?_
    refine wp_lt ?_
    refine wp_mid (fun u w' => u = (decide (0 ≤ o.kind ∧ o.kind ≤ 4), ()) ∧ Sat w' (pt c (.cells #[.int .i64 b.base, .int .i64 b.pid, .int .i64 b.epoch, .int .i64 b.seq, .int .i64 b.kind, .int .i64 b.time, .slice b.x.a b.x.len b.x.cap] T.api_Batch) :: slc T.api_Record 4 b.x (b.rs.flatMap encR) :: pt a0 (.cells #[.int .i64 o.kind, .int .i64 o.b.base, .int .i64 o.b.pid, .int .i64 o.b.epoch, .int .i64 o.b.seq, .int .i64 o.b.kind, .int .i64 o.b.time, .slice o.b.x.a o.b.x.len o.b.x.cap, .bool o.near, .int .i64 o.at_] T.towpathlaw08_Op) :: vw v A :: dwP q A :: l)) ?_ ?_
    · refine wp_if (fun h => ?_) fun h => ?_
      · exact wp_lv ⟨by rw [decide_eq_true (show 0 ≤ o.kind ∧ o.kind ≤ 4 by omega)]; simp [h], hs⟩
      refine wp_lt ?_
      refine wp_mid (fun u w' => u = (decide (0 ≤ o.kind ∧ o.kind ≤ 4), ()) ∧ Sat w' (pt c (.cells #[.int .i64 b.base, .int .i64 b.pid, .int .i64 b.epoch, .int .i64 b.seq, .int .i64 b.kind, .int .i64 b.time, .slice b.x.a b.x.len b.x.cap] T.api_Batch) :: slc T.api_Record 4 b.x (b.rs.flatMap encR) :: pt a0 (.cells #[.int .i64 o.kind, .int .i64 o.b.base, .int .i64 o.b.pid, .int .i64 o.b.epoch, .int .i64 o.b.seq, .int .i64 o.b.kind, .int .i64 o.b.time, .slice o.b.x.a o.b.x.len o.b.x.cap, .bool o.near, .int .i64 o.at_] T.towpathlaw08_Op) :: vw v A :: dwP q A :: l)) ?_ (by rintro _ w' ⟨rfl, hs⟩; refine wp_on ?_; exact wp_lv ⟨rfl, hs⟩)
      refine wp_if (fun h => ?_) fun h => ?_
      · exact wp_lv ⟨by rw [decide_eq_true (show 0 ≤ o.kind ∧ o.kind ≤ 4 by omega)]; simp [h], hs⟩
      refine wp_lt ?_
      refine wp_mid (fun u w' => u = (decide (0 ≤ o.kind ∧ o.kind ≤ 4), ()) ∧ Sat w' (pt c (.cells #[.int .i64 b.base, .int .i64 b.pid, .int .i64 b.epoch, .int .i64 b.seq, .int .i64 b.kind, .int .i64 b.time, .slice b.x.a b.x.len b.x.cap] T.api_Batch) :: slc T.api_Record 4 b.x (b.rs.flatMap encR) :: pt a0 (.cells #[.int .i64 o.kind, .int .i64 o.b.base, .int .i64 o.b.pid, .int .i64 o.b.epoch, .int .i64 o.b.seq, .int .i64 o.b.kind, .int .i64 o.b.time, .slice o.b.x.a o.b.x.len o.b.x.cap, .bool o.near, .int .i64 o.at_] T.towpathlaw08_Op) :: vw v A :: dwP q A :: l)) ?_ (by rintro _ w' ⟨rfl, hs⟩; refine wp_on ?_; exact wp_lv ⟨rfl, hs⟩)
      refine wp_if (fun h => ?_) fun h => ?_
      · exact wp_lv ⟨by rw [decide_eq_true (show 0 ≤ o.kind ∧ o.kind ≤ 4 by omega)]; simp [h], hs⟩
      refine wp_lt ?_
      refine wp_mid (fun u w' => u = (decide (0 ≤ o.kind ∧ o.kind ≤ 4), ()) ∧ Sat w' (pt c (.cells #[.int .i64 b.base, .int .i64 b.pid, .int .i64 b.epoch, .int .i64 b.seq, .int .i64 b.kind, .int .i64 b.time, .slice b.x.a b.x.len b.x.cap] T.api_Batch) :: slc T.api_Record 4 b.x (b.rs.flatMap encR) :: pt a0 (.cells #[.int .i64 o.kind, .int .i64 o.b.base, .int .i64 o.b.pid, .int .i64 o.b.epoch, .int .i64 o.b.seq, .int .i64 o.b.kind, .int .i64 o.b.time, .slice o.b.x.a o.b.x.len o.b.x.cap, .bool o.near, .int .i64 o.at_] T.towpathlaw08_Op) :: vw v A :: dwP q A :: l)) ?_ (by rintro _ w' ⟨rfl, hs⟩; refine wp_on ?_; exact wp_lv ⟨rfl, hs⟩)
      refine wp_if (fun h => ?_) fun h => ?_
      · exact wp_lv ⟨by rw [decide_eq_true (show 0 ≤ o.kind ∧ o.kind ≤ 4 by omega)]; simp [h], hs⟩
      refine wp_lt ?_
      refine wp_lv ⟨?_, hs⟩
      congr 1
      rw [Bool.eq_iff_iff]; simp; omega
    clear hs
    rintro _ w ⟨rfl, hs⟩
    refine wp_on ?_
    refine wp_if (fun h => ?_) fun h => ?_
    · refine wp_ldG hs ?_
      refine wp_call (iMay_c (v := v) b hs) fun _ _ hs => ?_
      obtain ⟨rfl, hs⟩ := hs
      refine ret_of ?_
      refine wp_lt ?_
      refine wp_mid (fun u w' => ∃ A', u = (some ⟨v, 0, none⟩, true, ()) ∧ Sat w' (vw v A' :: dwP q A' :: l)) ?_ (by rintro _ w' ⟨A', rfl, hs⟩; refine wp_on ?_; exact ⟨rfl, v, A', rfl, hs⟩)
      refine wp_ldG hs ?_
      refine wp_call (itake_c (v := v) b hs) fun _ _ hs => ?_
      obtain ⟨rfl, hs⟩ := hs
      refine ret_of ?_
      refine wp_ldG hs ?_
      rw [takeA_fst]
      refine wp_ifT ?_ rfl
      refine wp_call (dtake_c (q := q) b hok hs) fun _ _ hs => ?_
      obtain ⟨rfl, hs⟩ := hs
      refine ret_of ?_
      rw [takeA_fst]
      refine wp_lt ?_
      exact wp_lv ⟨(takeA A b).2, by simp, hs.sub⟩
    refine wp_lt ?_
    refine wp_if (fun h5 => ?_) fun h5 => ?_
    · refine wp_mid (fun u w' => ∃ A', u = (some ⟨v, 0, none⟩, true, ()) ∧ Sat w' (vw v A' :: dwP q A' :: l)) ?_ (by rintro _ w' ⟨A', rfl, hs⟩; refine wp_on ?_; exact ⟨rfl, v, A', rfl, hs⟩)
      refine wp_tk hs fun w' hs => ?_
      refine wp_ldO hs ?_
      refine wp_hdO hs ?_
      refine wp_call (iforget_c (v := v) o.at_ hs) fun _ w' hs => ?_
      obtain ⟨rfl, hs⟩ := hs
      refine ret_of ?_ ⟨trivial, fun _ => run_ldO hs⟩
      refine wp_untick ?_
      refine wp_call (dforget_c (q := q) o.at_ (by omega) hs) fun _ _ hs => ?_
      obtain ⟨rfl, hs⟩ := hs
      refine ret_of ?_
      refine wp_lt ?_
      refine wp_untick ?_
      exact wp_lv ⟨forgetA A o.at_, by simp, hs.sub⟩
    refine wp_lt ?_
    refine wp_if (fun h6 => ?_) fun h6 => ?_
    · refine wp_mid (fun u w' => ∃ A', u = (some ⟨v, 0, none⟩, true, ()) ∧ Sat w' (vw v A' :: dwP q A' :: l)) ?_ (by rintro _ w' ⟨A', rfl, hs⟩; refine wp_on ?_; exact ⟨rfl, v, A', rfl, hs⟩)
      refine wp_tk hs fun w' hs => ?_
      refine wp_ldG hs ?_
      refine wp_hdG hs ?_
      refine wp_call (ifate_c (v := v) b hs) fun _ w' hs => ?_
      obtain ⟨rfl, hs⟩ := hs
      refine ret_of ?_ ⟨trivial, fun _ => run_ldG hs⟩
      refine wp_untick ?_
      refine wp_call (dfate_c (q := q) b (by omega) hs) fun _ _ hs => ?_
      obtain ⟨rfl, hs⟩ := hs
      refine ret_of ?_
      refine wp_lt ?_
      refine wp_untick ?_
      exact wp_lv ⟨A, by simp, hs.sub⟩
    refine wp_lt ?_
    refine wp_if (fun h7 => ?_) fun h7 => ?_
    · refine wp_call (ibytes_c (v := v) hs) fun _ _ hs => ?_
      obtain ⟨z, rfl, hs⟩ := hs
      refine ret_of ?_
      have hzc := hs.slc_cap
      have hbl : (bytesA A).length ≤ 1000000 := by
        have h1 := body_len hok
        unfold bytesA sealL headL
        split <;> simp [four_len]
        omega
      refine wp_call (iload_c z (bytesA A) hzc (by omega) hs) fun _ w' hs => ?_
      rcases hs with ⟨A', v', rfl, hA', he, hs⟩ | ⟨-, hno, -⟩
      · obtain rfl := bytes_inj hok hA' he
        refine ret_of ?_
        refine wp_lt ?_
        refine wp_lt ?_
        exact ⟨rfl, v', A, by simp, hs.sub⟩
      · exact absurd rfl (hno A hok)
    · exact ⟨rfl, v, A, rfl, hs.sub⟩

end
end Go.Dec
