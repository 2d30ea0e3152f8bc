/- Isolation: the document's Load; IsoBytes. -/
import Derived.Test.YtpjfebedfejmgaaV9
import Derived.Test.YtpjfebedfejmgaaP1
namespace Go.Dec
set_option linter.unusedVariables false
set_option linter.unusedSimpArgs false

theorem okM_of {A : ViewA} (h : okV A) : okM A := ⟨h.next, fun t ht => (h.op t ht).1, h.byFirst, h.pids, h.fa, h.byLast, h.keys, h.apart⟩
theorem okV_of {A : ViewA} (h : okM A) (h1 : A.op.length ≤ 1024) (h2 : A.fa.length ≤ 4096) (h3 : ∀ t ∈ A.op, t.last = -1) : okV A := ⟨h.1, ⟨h1, h2⟩, fun t ht => ⟨h.2.1 t ht, h3 t ht⟩, h.2.2.2.2.1, h.2.2.1, h.2.2.2.2.2.1, h.2.2.2.1, h.2.2.2.2.2.2.1, h.2.2.2.2.2.2.2⟩
theorem smI_small {n : Int} (h : n ≤ 2199023255552) : smI n = n := by unfold smI; rw [if_neg (by omega)]
theorem smI_nn {n : Int} (h : 0 ≤ smI n) : smI n = n := by
  unfold smI at h ⊢
  split at h
  · omega
  · rename_i h2; rw [if_neg h2]
theorem sm_valid3 {t : TxnA} {n : Int} (h : okT t n) (hl : t.last = -1) (hn : n ≤ 1099511627777) : smT false t = t := by
  have h1 := h.pid
  have h2 := h.epoch
  have h3 := h.first
  unfold smT
  rw [smI_small (by omega), smI_small (by omega), smI_small (by omega)]
  cases t
  simp only at hl
  rw [hl]; rfl
theorem sm_valid4 {t : TxnA} {n : Int} (h : okT t n) (hl : t.last < n) (hn : n ≤ 1099511627777) : smT true t = t := by
  have h1 := h.pid
  have h2 := h.epoch
  have h3 := h.first
  unfold smT
  rw [smI_small (by omega), smI_small (by omega), smI_small (by omega), if_pos rfl, smI_small (by omega)]
theorem sm_back3 {t : TxnA} {n : Int} (h : okT (smT false t) n) (hv : vld3 t) : smT false t = t := by
  have h1 := h.pid
  have h2 := h.epoch
  have h3 := h.first
  have e1 : smI t.pid = t.pid := smI_nn (by show 0 ≤ (smT false t).pid; omega)
  have e2 : smI t.epoch = t.epoch := smI_nn (by show 0 ≤ (smT false t).epoch; omega)
  have e3 : smI t.first = t.first := smI_nn (by show 0 ≤ (smT false t).first; omega)
  have hl := hv.2
  unfold smT
  rw [e1, e2, e3]
  cases t
  simp only at hl
  rw [hl]; rfl
theorem sm_back4 {t : TxnA} {n : Int} (h : okT (smT true t) n) (hl : (smT true t).first < (smT true t).last) : smT true t = t := by
  have h1 := h.pid
  have h2 := h.epoch
  have h3 := h.first
  have e1 : smI t.pid = t.pid := smI_nn (by show 0 ≤ (smT true t).pid; omega)
  have e2 : smI t.epoch = t.epoch := smI_nn (by show 0 ≤ (smT true t).epoch; omega)
  have e3 : smI t.first = t.first := smI_nn (by show 0 ≤ (smT true t).first; omega)
  have e4 : smI t.last = t.last := smI_nn (by show 0 ≤ (smT true t).last; omega)
  unfold smT
  rw [e1, e2, e3, if_pos rfl, e4]
theorem map_self {f : TxnA → TxnA} {ts : List TxnA} (h : ∀ t ∈ ts, f t = t) : ts.map f = ts := by
  have : ts.map f = ts.map id := List.map_congr_left h
  rw [this]; exact List.map_id ts

section
variable {w : World} {l r : List HP} {v p q : Nat} {A : ViewA} {R : RdM} {Q : Post} {S : World → Prop}

theorem dload_c (x : Sl) (bs : List UInt8) [hx : FocR l x 1 (bs.flatMap encU)] (hcap : x.len ≤ x.cap) (hn : bs.length ≤ 1000000000) (hs : Sat w l) :
    Ret P F.towpathref08_Load #[x.v] w fun vs w' => (∃ (A : ViewA) (q : Nat), vs = [.pointer (some ⟨q, 0, none⟩)] ∧ okV A ∧ bs = bytesA A ∧ Sat w' (dwP q A :: l)) ∨
      (vs = [.pointer none] ∧ (∀ A, okV A → bs ≠ bytesA A) ∧ Sat w' l) :=
  towpathref08_Load_calls x <| by
    unfold towpathref08_Load
    have hl := hs.slen x (xs := bs) (enc := encU)
    refine wp_call (dfirst_c x bs hcap hn hs) fun _ w' hs => ?_
    obtain ⟨z, rfl, hs⟩ := hs
    refine ret_of ?_
    refine wp_lt ?_
    cases ho : openL bs with
    | none =>
      refine wp_ifT ?_ ?_
      rotate_left
      · unfold openL at ho
        cases hf : firstL bs with
        | none => left; rfl
        | some q =>
          obtain ⟨bd, n⟩ := q
          rw [hf] at ho
          dsimp only at ho
          split at ho
          · cases ho
          · right
            show ((n : Nat) : Int) ≠ ((x.len : Nat) : Int)
            omega
      refine ⟨rfl, .inr ⟨rfl, fun A hA he => ?_, hs.tail⟩⟩
      rw [he] at ho
      unfold bytesA at ho
      rw [open_seal (by have := body_len hA; omega)] at ho
      cases ho
    | some body =>
      obtain ⟨hbs, hbl⟩ := open_is ho
      have hf : firstL bs = some (body, bs.length) := by
        have h1 := first_seal hbl []
        rw [List.append_nil, ← hbs] at h1
        have h2 := (first_inv h1).1
        have h3 : bs.length = body.length + 8 := by
          unfold openL at ho
          rw [h1] at ho
          dsimp only at ho
          split at ho
          · omega
          · cases ho
        rw [h1, h3]
      have hb0 : 0 < bs.length := by
        have := (first_inv hf).1
        omega
      rw [hf] at hs ⊢
      have hs : Sat w' (slc T.uint8 1 z (body.flatMap encU) :: l) := hs
      refine wp_ifF ?_ ?_
      rotate_left
      · show ¬ (((bs.length : Nat) : Int) = 0 ∨ ((bs.length : Nat) : Int) ≠ ((x.len : Nat) : Int))
        omega
      refine wp_boxO hs fun p w' hs => ?_
      have hs : Sat w' (rdP T.towpathref01_Reader p ⟨body, 0, 0⟩ :: l) := rd_close ⟨body, 0, 0⟩ ⟨Nat.zero_le _, by show body.length ≤ _; omega⟩ hs
      have hbad : ∀ {w' : World}, (∀ A, okV A → body ≠ bodyA A) → Sat w' l → ((∃ (A : ViewA) (q : Nat), [Value.pointer none] = [.pointer (some ⟨q, 0, none⟩)] ∧ okV A ∧ bs = bytesA A ∧ Sat w' (dwP q A :: l)) ∨ ([Value.pointer none] = [.pointer none] ∧ (∀ A, okV A → bs ≠ bytesA A) ∧ Sat w' l)) := fun {w'} h hs =>
        .inr ⟨rfl, fun A hA he => h A hA (seal_inj hbl (by have := body_len hA; omega) (by rw [← hbs, he]; rfl)), hs⟩
      have hR0 : Rest ⟨body, 0, 0⟩ = body := rfl
      refine wp_call (dsmall_c (p := p) hs) fun _ _ hs => ?_
      obtain ⟨rfl, hs⟩ := hs
      refine ret_of ?_
      have hucase := uint_cases (R := ⟨body, 0, 0⟩) (Nat.zero_le _)
      rw [hR0] at hucase
      generalize (RdM.uint ⟨body, 0, 0⟩).1 = nx at *
      generalize (RdM.uint ⟨body, 0, 0⟩).2 = R1 at *
      refine wp_boxO hs fun q w' hs => ?_
      refine wp_call (dread_c (p := p) false 1024 (by omega) hs) fun _ w' hs => ?_
      obtain ⟨z1, ts, R2, ok1, rfl, htl, o1, o2, hs⟩ := hs
      refine ret_of ?_
      refine wp_lt ?_
      refine wp_call (dread_c (p := p) true 4096 (by omega) hs) fun _ w' hs => ?_
      obtain ⟨z2, us, R3', ok2, rfl, hul, p1, p2, hs⟩ := hs
      refine ret_of ?_
      refine wp_lt ?_
      refine wp_stO hs fun w' hs => ?_
      refine wp_stO hs fun w' hs => ?_
      have hb3 : R3'.at_ ≤ R3'.bs.length := by
        have hs : Sat w' (rdP T.towpathref01_Reader p R3' :: l) := hs.sub
        exact (rd_bound hs).1
      -- what a view of these bytes reads
      have hread : ∀ B, okV B → body = bodyA B → ok1 = true ∧ ok2 = true ∧ R3'.done.e = 0 ∧ smI (nx : Int) = B.next ∧ ts = B.op ∧ us = B.fa := fun B hB he => by
        have hBn := hB.next
        have hBm := hB.many
        rcases hucase with ⟨-, h2, h3, -, -, h6⟩ | ⟨-, h2, -, h4⟩
        rotate_left
        · exact absurd he (h4 rfl _ _ (by omega))
        rw [he] at h6
        obtain ⟨h7, h8⟩ := uintL_inj (by omega) h2 h6
        have e0 : smI (nx : Int) = B.next := by rw [smI_small (by omega)]; omega
        have hk1 : ok1 = true := by
          cases hc : ok1 with
          | true => rfl
          | false => exact absurd h8.symm (o2 hc h3 B.op _ hBm.1 (okV_vld3 hB))
        obtain ⟨g1, g2, raw, g3, g4, g5, g6⟩ := o1 hk1
        rw [g6] at h8
        obtain ⟨h9, h10⟩ := uintL_inj (by omega) (by omega) h8
        obtain ⟨rs, h11, h12⟩ := pre3 (okV_vld3 hB) g4 (show B.op.length ≤ raw.length by omega) h10
        have hrs : rs = [] := by rw [h11, List.length_append] at h9; exact List.length_eq_zero_iff.1 (by omega)
        subst hrs
        rw [List.append_nil] at h11
        have e1 : ts = B.op := by rw [g5, h11]; exact map_self fun t ht => sm_valid3 (hB.op t ht).1 (hB.op t ht).2 hBn.2
        have hk2 : ok2 = true := by
          cases hc : ok2 with
          | true => rfl
          | false => exact absurd (show Rest R2 = uintL B.fa.length ++ (B.fa.flatMap (encV true) ++ []) by rw [List.append_nil]; exact h12.symm) (p2 hc g2 B.fa [] hBm.2 (okV_vld4 hB))
        obtain ⟨q1, q2, raw2, q3, q4, q5, q6⟩ := p1 hk2
        have h12 : uintL B.fa.length ++ B.fa.flatMap enc4 = Rest R2 := h12
        rw [q6] at h12
        obtain ⟨h13, h14⟩ := uintL_inj (by omega) (by omega) h12
        have h14 : B.fa.flatMap enc4 ++ [] = raw2.flatMap enc4 ++ Rest R3' := by rw [List.append_nil]; exact h14
        obtain ⟨rs, h15, h16⟩ := pre4 (okV_vld4 hB) q4 (show B.fa.length ≤ raw2.length by omega) h14
        have hrs : rs = [] := by rw [h15, List.length_append] at h13; exact List.length_eq_zero_iff.1 (by omega)
        subst hrs
        rw [List.append_nil] at h15
        have e2 : us = B.fa := by rw [q5, h15]; exact map_self fun t ht => sm_valid4 (hB.fa t ht).1 (hB.fa t ht).2.2 hBn.2
        refine ⟨hk1, hk2, (done_cases hb3).2 ⟨q2, h16.symm⟩, e0, e1, e2⟩
      refine wp_mid (fun u w' => (u = (true, ()) ∧ (∀ A, okV A → body ≠ bodyA A) ∧ Sat w' l) ∨ (∃ A, u = (false, ()) ∧ okV A ∧ body = bodyA A ∧ Sat w' (dwP q A :: l))) ?_ ?_
      rotate_left
      · rintro _ w' (⟨rfl, h, hs⟩ | ⟨A, rfl, hA, h, hs⟩)
        · refine wp_on ?_
          refine wp_ifT ?_ trivial
          exact ⟨rfl, hbad h hs⟩
        · refine wp_on ?_
          refine wp_ifF ?_ (by simp)
          exact ⟨rfl, .inl ⟨A, q, rfl, hA, by rw [hbs, h]; rfl, hs⟩⟩
      refine wp_if (fun hno => ?_) fun hyes => ?_
      · refine wp_lv (.inl ⟨rfl, fun B hB he => ?_, hs.sub⟩)
        obtain ⟨h1, h2, -⟩ := hread B hB he
        rw [h1, h2] at hno
        simp at hno
      have hk : ok1 = true ∧ ok2 = true := by simpa using hyes
      have hs : Sat w' (rdP T.towpathref01_Reader p R3' :: pt q (.cells #[.int .i64 (smI (nx : Int)), .slice z1.a z1.len z1.cap, .slice z2.a z2.len z2.cap] T.towpathref08_View) :: slc T.towpathref08_Txn 4 z1 (ts.flatMap encX) :: slc T.towpathref08_Txn 4 z2 (us.flatMap encX) :: l) := hs.sub
      refine wp_call (drend_c (p := p) hs) fun _ _ hs => ?_
      obtain ⟨rfl, hs⟩ := hs
      refine ret_of ?_
      refine wp_if (fun hd => ?_) fun hd => ?_
      · refine wp_lv (.inl ⟨rfl, fun B hB he => ?_, hs.sub⟩)
        obtain ⟨-, -, h3, -⟩ := hread B hB he
        exact hd h3
      have hd : R3'.done.e = 0 := Decidable.not_not.1 hd
      have hs := dw_close (q := q) ⟨smI (nx : Int), ts, us⟩ hs.tail
      refine wp_call (dmay_c (q := q) (by show ts.length ≤ _; omega) (by show us.length ≤ _; omega) hs) fun _ w' hs => ?_
      obtain ⟨b, rfl, hb, hs⟩ := hs
      refine ret_of ?_
      cases b with
      | false =>
        refine wp_lv (.inl ⟨rfl, fun B hB he => ?_, hs.tail⟩)
        obtain ⟨-, -, -, h4, h5, h6⟩ := hread B hB he
        have : okM ⟨smI (nx : Int), ts, us⟩ := by rw [h4, h5, h6]; exact okM_of hB
        have := hb.2 this
        cases this
      | true =>
        have hm := hb.1 rfl
        obtain ⟨g1, g2, raw, g3, g4, g5, g6⟩ := o1 hk.1
        obtain ⟨q1, q2, raw2, q3, q4, q5, q6⟩ := p1 hk.2
        have e1 : raw.map (smT false) = raw := map_self fun t ht => sm_back3 (hm.2.1 _ (by show smT false t ∈ ts; rw [g5]; exact List.mem_map.2 ⟨t, ht, rfl⟩)) (g4 t ht)
        have e2 : raw2.map (smT true) = raw2 := map_self fun t ht => by
          have := hm.2.2.2.2.1 (smT true t) (by show smT true t ∈ us; rw [q5]; exact List.mem_map.2 ⟨t, ht, rfl⟩)
          exact sm_back4 this.1 this.2.1
        rw [e1] at g5
        rw [e2] at q5
        subst g5 q5
        have hnx : smI (nx : Int) = nx := smI_nn hm.1.1
        refine wp_lv (.inr ⟨⟨smI (nx : Int), ts, us⟩, rfl, okV_of hm g3 q3 (fun t ht => (g4 t ht).2), ?_, hs⟩)
        rcases hucase with ⟨-, h2, h3, -, -, h6⟩ | ⟨-, h2, -, h4⟩
        · rw [h6, g6, q6, ((done_cases hb3).1 hd).2, List.append_nil]
          unfold bodyA uI
          simp only [hnx, Int.toNat_natCast]
          rfl
        · exact absurd g1 h2

theorem bytes8_law (x y : Sl) (bs os : List UInt8) (at_ by_ : Int) [hx : FocR l x 1 (bs.flatMap encU)] [hy : FocR l y 1 (os.flatMap encU)] (hxc : x.len ≤ x.cap) (hyc : y.len ≤ y.cap) (hb : -9223372036854775808 ≤ at_ ∧ at_ < 9223372036854775808) (hby : 0 ≤ by_ ∧ by_ < 256) (hs : Sat w l) :
    Ret P F.towpathlaw08_IsoBytes #[x.v, .int .i64 at_, .int .u8 by_, y.v] w fun vs w' => vs = [.bool true] ∧ Sat w' l :=
  towpathlaw08_IsoBytes_calls x at_ by_ y <| by
    unfold towpathlaw08_IsoBytes
    have hxl := hs.slen x (xs := bs) (enc := encU)
    have hyl := hs.slen y (xs := os) (enc := encU)
    refine wp_mid (fun u w' => ∃ (x' : Sl) (bs' : List UInt8), u = (x', ()) ∧ bs'.length ≤ 200 ∧ x'.len ≤ x'.cap ∧ FocR l x' 1 (bs'.flatMap encU) ∧ Sat w' l) ?_ ?_
    · refine wp_if (fun h => ?_) fun h => ?_
      · refine wp_must ⟨by omega, by omega⟩ ?_
        exact wp_lv ⟨⟨x.a, 200, x.cap⟩, bs.take 200, rfl, by rw [List.length_take]; omega, by show 200 ≤ x.cap; omega, FocR.pre (by omega), hs⟩
      · exact wp_lv ⟨x, bs, rfl, by omega, hxc, hx, hs⟩
    clear hs
    rintro _ w ⟨x', bs', rfl, hbl, hxc', hx', hs⟩
    refine wp_on ?_
    refine wp_mid (fun u w' => ∃ (y' : Sl) (os' : List UInt8), u = (y', ()) ∧ os'.length ≤ 200 ∧ y'.len ≤ y'.cap ∧ FocR l y' 1 (os'.flatMap encU) ∧ Sat w' l) ?_ ?_
    · refine wp_if (fun h => ?_) fun h => ?_
      · refine wp_must ⟨by omega, by omega⟩ ?_
        exact wp_lv ⟨⟨y.a, 200, y.cap⟩, os.take 200, rfl, by rw [List.length_take]; omega, by show 200 ≤ y.cap; omega, FocR.pre (by omega), hs⟩
      · exact wp_lv ⟨y, os, rfl, by omega, hyc, hy, hs⟩
    clear hs
    rintro _ w ⟨y', os', rfl, hol, hyc', hy', hs⟩
    refine wp_on ?_
    have hsl : (sealL bs').length ≤ 1000 := by
      unfold sealL headL
      split <;> simp [four_len]
      omega
    refine wp_call (dseal_c x' bs' (by omega) hs) fun _ _ hs => ?_
    obtain ⟨z, rfl, hs⟩ := hs
    refine ret_of ?_
    refine wp_mid (fun _ w' => ∃ cs : List UInt8, cs.length ≤ 1000 ∧ Sat w' (slc T.uint8 1 z (cs.flatMap encU) :: l)) ?_ ?_
    · have hzl := hs.slen z (xs := sealL bs') (enc := encU)
      refine wp_if (fun h => ?_) fun h => ?_
      · refine wp_must (by omega) ?_
        refine wp_lt ?_
        have htm := Int.tmod_lt_of_pos at_ h
        have htl : -((z.len : Nat) : Int) < Int.tmod at_ ((z.len : Nat) : Int) := Int.lt_tmod_of_pos at_ h
        generalize Int.tmod at_ ((z.len : Nat) : Int) = tm at htm htl ⊢
        refine wp_mid (fun u w' => ∃ n : Nat, u = ((n : Int), ()) ∧ n < (sealL bs').length ∧ Sat w' (slc T.uint8 1 z ((sealL bs').flatMap encU) :: l)) ?_ ?_
        · refine wp_if (fun h2 => ?_) fun h2 => ?_
          · refine wp_ltw ?_ (by omega)
            exact wp_lv ⟨(0 - tm).toNat, by rw [Int.toNat_of_nonneg (by omega)], by omega, hs⟩
          · exact wp_lv ⟨tm.toNat, by rw [Int.toNat_of_nonneg (by omega)], by omega, hs⟩
        clear hs
        rintro _ w ⟨n, rfl, hn, hs⟩
        refine wp_on ?_
        refine wp_ix1 hs (xs := sealL bs') (enc := encU) n hn ?_
        refine wp_ixS hs (xs := sealL bs') (enc := encU) n hn (UInt8.ofNat (BitVec.toNat (BitVec.ofInt 8 (((sealL bs')[n].toNat : Nat) : Int) ^^^ BitVec.ofInt 8 by_))) (fun w' hs => ?_) rfl rfl ?_
        · exact wp_lv ⟨_, by simp; omega, hs⟩
        · exact enc_u8 rfl
      · exact wp_lv ⟨sealL bs', hsl, hs⟩
    clear hs
    rintro _ w ⟨cs, hcl, hs⟩
    refine wp_on ?_
    refine wp_call (dseal_c x' bs' (by omega) hs) fun _ _ hs => ?_
    obtain ⟨u, rfl, hs⟩ := hs
    refine ret_of ?_
    have huc := hs.slc_cap
    have hzc := (hs.pick [1]).slc_cap
    refine wp_litx hs (enc := encSl) [u, z, y'] fun t w' hs => ?_
    have htl := hs.slen t (xs := [u, z, y']) (enc := encSl)
    have htl : t.len = 3 := htl
    refine wp_mid (fun _ w' => Sat w' l) ?_ ?_
    rotate_left
    · rintro _ w' hs
      refine wp_on ?_
      refine wp_call (awake8 hs) fun _ _ hs => ?_
      obtain ⟨rfl, hs⟩ := hs
      refine ret_of ?_
      refine wp_lt ?_
      exact ⟨rfl, rfl, hs⟩
    refine wp_loop (fun k p w => ∃ i : Nat, p = ((i : Int), ()) ∧ i ≤ 3 ∧ 3 - i = k ∧ Sat w (slc T.s_uint8 1 t ([u, z, y'].flatMap encSl) :: slc T.uint8 1 u ((sealL bs').flatMap encU) :: slc T.uint8 1 z (cs.flatMap encU) :: l)) 3 ⟨0, rfl, by omega, rfl, hs⟩ ?_
    clear hs
    rintro k _ w ⟨i, rfl, hi, hk, hs⟩
    refine wp_on ?_
    refine wp_if (fun hc => ?_) fun hc => ?_
    rotate_left
    · exact wp_pass (wp_lv hs.tail.tail.tail)
    have hil : i < [u, z, y'].length := by simp; omega
    refine wp_ix1 hs (xs := [u, z, y']) (enc := encSl) i hil ?_
    obtain ⟨g, ds, hgd, hgl, hgc, hgF⟩ : ∃ (g : Sl) (ds : List UInt8), [u, z, y'][i] = g ∧ ds.length ≤ 1000 ∧ g.len ≤ g.cap ∧ FocR (slc T.s_uint8 1 t ([u, z, y'].flatMap encSl) :: slc T.uint8 1 u ((sealL bs').flatMap encU) :: slc T.uint8 1 z (cs.flatMap encU) :: l) g 1 (ds.flatMap encU) := by
      have h3 : i = 0 ∨ i = 1 ∨ i = 2 := by simp at hil; omega
      rcases h3 with rfl | rfl | rfl
      · exact ⟨u, sealL bs', rfl, hsl, huc, inferInstance⟩
      · exact ⟨z, cs, rfl, hcl, hzc, inferInstance⟩
      · exact ⟨y', os', rfl, by omega, hyc', inferInstance⟩
    rw [hgd]
    have hnext : ∀ {w' : World}, Sat w' (slc T.s_uint8 1 t ([u, z, y'].flatMap encSl) :: slc T.uint8 1 u ((sealL bs').flatMap encU) :: slc T.uint8 1 z (cs.flatMap encU) :: l) → ∃ j : Nat, ((i + 1 : Nat) : Int) = (j : Int) ∧ j ≤ 3 ∧ 3 - j = 3 - (i + 1) ∧ Sat w' (slc T.s_uint8 1 t ([u, z, y'].flatMap encSl) :: slc T.uint8 1 u ((sealL bs').flatMap encU) :: slc T.uint8 1 z (cs.flatMap encU) :: l) := fun {w'} hs => ⟨i + 1, rfl, by omega, rfl, hs⟩
    generalize hL : slc T.s_uint8 1 t ([u, z, y'].flatMap encSl) :: slc T.uint8 1 u ((sealL bs').flatMap encU) :: slc T.uint8 1 z (cs.flatMap encU) :: l = L at *
    refine wp_call (iload_c g ds hgc (by omega) hs) fun _ w' hs => ?_
    rcases hs with ⟨A, v, rfl, hA, he, hs⟩ | ⟨rfl, hno, hs⟩
    · refine ret_of ?_
      refine wp_lt ?_
      refine wp_call (dload_c g ds hgc (by omega) hs) fun _ w' hs => ?_
      rcases hs with ⟨B, q, rfl, hB, he2, hs⟩ | ⟨-, hno, -⟩
      rotate_left
      · exact absurd he (hno A hA)
      obtain rfl := bytes_inj hA hB (by rw [← he, he2])
      refine ret_of ?_
      refine wp_ifF ?_ (by simp)
      refine wp_mid (fun u w' => u = (false, ()) ∧ Sat w' L) ?_ ?_
      rotate_left
      · rintro _ w' ⟨rfl, hs⟩
        refine wp_on ?_
        refine wp_ifF ?_ (by simp)
        refine wp_dn (us' := [.int .i64 ((i + 1 : Nat) : Int)]) (by (try simp (disch := omega) only [w64]); first | rfl | (congr; omega)) ?_
        refine wp_lp (3 - (i + 1)) ?_
        obtain ⟨j, h1, h2, h3, h4⟩ := hnext hs
        exact ⟨j, by rw [h1], h2, h3, h4⟩
      refine wp_tk hs fun w' hs => ?_
      refine wp_ifT ?_ (by simp)
      have hs := hs.pick [1]
      refine wp_call (same_c (l := L) ⟨none, 0, 0⟩ ([] : List BatM) hs (hx := .nil' 7) (by simp) (by simp) (by simp)) fun _ _ hs => ?_
      obtain ⟨rfl, hs⟩ := hs
      refine ret_of ?_
      refine wp_hold (x := (⟨ds.toArray⟩ : ByteArray)) (ofB_keep (x := g) hs) ?_
      refine wp_ifF ?_ (by simp)
      refine wp_call (ibytes_c (v := v) hs) fun _ w' hs => ?_
      obtain ⟨o, rfl, hs⟩ := hs
      refine ret_of ?_ ⟨trivial, fun _ => ofB_keep (x := g) hs⟩
      refine wp_ofB (x := o) hs ?_
      refine wp_untick ?_
      exact wp_lv ⟨by rw [he]; simp, hs.sub⟩
    · refine ret_of ?_
      refine wp_lt ?_
      refine wp_call (dload_c g ds hgc (by omega) hs) fun _ w' hs => ?_
      rcases hs with ⟨B, q, rfl, hB, he2, hs⟩ | ⟨rfl, hno2, hs⟩
      · exact absurd he2 (hno B hB)
      refine ret_of ?_
      refine wp_ifF ?_ (by simp)
      refine wp_mid (fun u w' => u = (false, ()) ∧ Sat w' L) ?_ ?_
      rotate_left
      · rintro _ w' ⟨rfl, hs⟩
        refine wp_on ?_
        refine wp_ifF ?_ (by simp)
        refine wp_dn (us' := [.int .i64 ((i + 1 : Nat) : Int)]) (by (try simp (disch := omega) only [w64]); first | rfl | (congr; omega)) ?_
        refine wp_lp (3 - (i + 1)) ?_
        obtain ⟨j, h1, h2, h3, h4⟩ := hnext hs
        exact ⟨j, by rw [h1], h2, h3, h4⟩
      refine wp_tk hs fun w' hs => ?_
      refine wp_ifF ?_ (by simp)
      refine wp_untick ?_
      exact wp_lv ⟨rfl, hs⟩
end
end Go.Dec
