/- Isolation: the document's view out of bytes. -/
import Derived.Test.YtpjfebedfejmgaaV8
namespace Go.Dec
set_option linter.unusedVariables false
set_option linter.unusedSimpArgs false

def smI (n : Int) : Int := if n > 2199023255552 then -2 else n
def smT (b : Bool) (t : TxnA) : TxnA := ⟨smI t.pid, smI t.epoch, smI t.first, if b then smI t.last else -1⟩
def encV (b : Bool) (t : TxnA) : List UInt8 := if b then enc4 t else enc3 t
def vldB (b : Bool) (t : TxnA) : Prop := if b = true then vld4 t else vld3 t
theorem preB (b : Bool) {ts us : List TxnA} {x z : List UInt8} (h1 : ∀ t ∈ ts, vldB b t) (h2 : ∀ t ∈ us, vldB b t) (hl : ts.length ≤ us.length) (h : ts.flatMap (encV b) ++ x = us.flatMap (encV b) ++ z) : ∃ rs, us = ts ++ rs ∧ x = rs.flatMap (encV b) ++ z := by
  cases b with
  | true => exact pre4 h1 h2 hl h
  | false => exact pre3 h1 h2 hl h
def BadR (b : Bool) (most : Nat) (R : RdM) : Prop := R.e = 0 → ∀ (us : List TxnA) (z : List UInt8), us.length ≤ most → (∀ u ∈ us, vldB b u) → Rest R ≠ uintL us.length ++ (us.flatMap (encV b) ++ z)

section
variable {w : World} {l r : List HP} {v p q : Nat} {A : ViewA} {R : RdM} {Q : Post} {S : World → Prop}

theorem dsmall_c [hf : Fo l (rdP T.towpathref01_Reader) p R r] (hs : Sat w l) : Ret P F.towpathref08_small #[.pointer (some ⟨p, 0, none⟩)] w fun vs w' => vs = [.int .i64 (smI (R.uint.1 : Int))] ∧ Sat w' (rdP T.towpathref01_Reader p R.uint.2 :: r) :=
  towpathref08_small_calls _ <| by
    unfold towpathref08_small
    refine wp_call (druint_c (p := p) hs) fun _ _ hs => ?_
    obtain ⟨rfl, hs⟩ := hs
    refine ret_of ?_
    refine wp_lt ?_
    unfold smI
    refine wp_if (fun h => ?_) fun h => ?_
    · rw [if_pos h]; exact ⟨rfl, rfl, hs⟩
    · rw [if_neg h]
      refine wp_ltw ?_
      exact ⟨rfl, rfl, hs⟩

/-- One more number behind three. -/
def RN (b : Bool) (R : RdM) : RdM := if b then (R3 R).uint.2 else R3 R
def rawT (b : Bool) (R : RdM) : TxnA := ⟨R.uint.1, R.uint.2.uint.1, R.uint.2.uint.2.uint.1, if b then ((R3 R).uint.1 : Int) else -1⟩
theorem readN (b : Bool) {R : RdM} (hb : R.at_ ≤ R.bs.length) :
    (R.e = 0 ∧ (RN b R).e = 0 ∧ (RN b R).at_ ≤ (RN b R).bs.length ∧ vldB b (rawT b R) ∧ Rest R = encV b (rawT b R) ++ Rest (RN b R)) ∨
    ((RN b R).e ≠ 0 ∧ (RN b R).at_ ≤ (RN b R).bs.length ∧ (R.e = 0 → ∀ t z, vldB b t → Rest R ≠ encV b t ++ z)) := by
  rcases read3 hb with ⟨b1, b2, b3, b4, b5, b6, b7⟩ | ⟨b1, b2, b3⟩
  · cases b with
    | false =>
      refine .inl ⟨b1, b2, b3, ⟨⟨⟨by show (0 : Int) ≤ (R.uint.1 : Nat); omega, by show ((R.uint.1 : Nat) : Int) < _; omega⟩, ⟨by show (0 : Int) ≤ (R.uint.2.uint.1 : Nat); omega, by show ((R.uint.2.uint.1 : Nat) : Int) < _; omega⟩, ⟨by show (0 : Int) ≤ (R.uint.2.uint.2.uint.1 : Nat); omega, by show ((R.uint.2.uint.2.uint.1 : Nat) : Int) < _; omega⟩⟩, rfl⟩, ?_⟩
      rw [b7]
      show _ = enc3 (rawT false R) ++ Rest (R3 R)
      unfold enc3 uI rawT
      simp
    | true =>
      rcases uint_cases b3 with ⟨d1, d2, d3, d4, d5, d6⟩ | ⟨d1, d2, d3, d4⟩
      · refine .inl ⟨b1, d3, d4, ⟨⟨⟨by show (0 : Int) ≤ (R.uint.1 : Nat); omega, by show ((R.uint.1 : Nat) : Int) < _; omega⟩, ⟨by show (0 : Int) ≤ (R.uint.2.uint.1 : Nat); omega, by show ((R.uint.2.uint.1 : Nat) : Int) < _; omega⟩, ⟨by show (0 : Int) ≤ (R.uint.2.uint.2.uint.1 : Nat); omega, by show ((R.uint.2.uint.2.uint.1 : Nat) : Int) < _; omega⟩⟩, by show (0 : Int) ≤ ((R3 R).uint.1 : Nat); omega, by show (((R3 R).uint.1 : Nat) : Int) < _; omega⟩, ?_⟩
        rw [b7, d6]
        show _ = enc4 (rawT true R) ++ Rest (R3 R).uint.2
        unfold enc4 uI rawT
        simp
      · refine .inr ⟨d2, d3, fun h0 t z ht he => ?_⟩
        have ht : vld4 t := ht
        have he : Rest R = enc4 t ++ z := he
        obtain ⟨⟨t1, t2, t3⟩, t4⟩ := ht
        unfold enc4 uI at he
        simp only [List.append_assoc] at he
        rw [b7] at he
        have he := (uintL_inj b4 (by omega) he).2
        have he := (uintL_inj b5 (by omega) he).2
        have he := (uintL_inj b6 (by omega) he).2
        exact d4 b2 _ _ (by omega) he
  · have key : ∀ t z, num3 t → R.e = 0 → Rest R ≠ enc3 t ++ z := fun t z ⟨t1, t2, t3⟩ h0 he => by
      unfold enc3 uI at he
      simp only [List.append_assoc] at he
      exact b3 h0 _ _ _ _ (by omega) (by omega) (by omega) he
    cases b with
    | false => exact .inr ⟨b1, b2, fun h0 t z ht => key t z ht.1 h0⟩
    | true =>
      rcases uint_cases b2 with ⟨d1, -⟩ | ⟨d1, d2, d3, d4⟩
      · exact absurd d1 b1
      · refine .inr ⟨d2, d3, fun h0 t z ht he => ?_⟩
        have he : Rest R = enc4 t ++ z := he
        have e : enc4 t ++ z = enc3 t ++ (uI t.last ++ z) := by unfold enc4 enc3; simp only [List.append_assoc]
        rw [e] at he
        exact key t _ ht.1 h0 he

theorem dread_c (b : Bool) (most : Nat) (hm : most ≤ 1000000) [hf : Fo l (rdP T.towpathref01_Reader) p R r] (hs : Sat w l) :
    Ret P F.towpathref08_read #[.pointer (some ⟨p, 0, none⟩), .int .i64 (most : Int), .bool b] w fun vs w' => ∃ (z : Sl) (ts : List TxnA) (R' : RdM) (ok : Bool), vs = [z.v, .bool ok] ∧ ts.length ≤ most ∧
      (ok = true → R.e = 0 ∧ R'.e = 0 ∧ ∃ raw : List TxnA, raw.length ≤ most ∧ (∀ t ∈ raw, vldB b t) ∧ ts = raw.map (smT b) ∧ Rest R = uintL raw.length ++ (raw.flatMap (encV b) ++ Rest R')) ∧ (ok = false → BadR b most R) ∧
      Sat w' (slc T.towpathref08_Txn 4 z (ts.flatMap encX) :: rdP T.towpathref01_Reader p R' :: r) :=
  towpathref08_read_calls _ _ b <| by
    unfold towpathref08_read
    have hb := (rd_bound (hs.perm hf.perm)).1
    refine wp_call (dsmall_c (p := p) hs) fun _ _ hs => ?_
    obtain ⟨rfl, hs⟩ := hs
    refine ret_of ?_
    refine wp_lt ?_
    have hucase := uint_cases hb
    generalize R.uint.1 = c at *
    generalize R.uint.2 = R1 at *
    refine wp_if (fun h => ?_) fun h => ?_
    · refine ⟨rfl, ⟨none, 0, 0⟩, [], R1, false, rfl, by simp, (fun h => by cases h), fun _ h0 us z hu hv he => ?_, hs.slc_nil⟩
      rcases hucase with ⟨-, h2, -, -, -, h6⟩ | ⟨-, -, -, h4⟩
      · rw [h6] at he
        have hc := (uintL_inj h2 (by omega) he).1
        unfold smI at h
        split at h <;> omega
      · exact h4 h0 _ _ (by omega) he
    have hcs : smI (c : Int) = c ∧ c ≤ most := by
      unfold smI at h ⊢
      split at h
      · omega
      · rename_i h2; rw [if_neg h2]; omega
    rw [hcs.1]
    have hb1 : R1.at_ ≤ R1.bs.length := by rcases hucase with ⟨-, -, -, h, -⟩ | ⟨-, -, h, -⟩ <;> exact h
    refine wp_mid (fun u w' => ∃ (z : Sl) (ts : List TxnA) (R' : RdM), u = (z, ()) ∧ ts.length ≤ most ∧ (R'.e = 0 → R.e = 0 ∧ ∃ raw : List TxnA, raw.length ≤ most ∧ (∀ t ∈ raw, vldB b t) ∧ ts = raw.map (smT b) ∧ Rest R = uintL raw.length ++ (raw.flatMap (encV b) ++ Rest R')) ∧ (R'.e ≠ 0 → BadR b most R) ∧
      Sat w' (slc T.towpathref08_Txn 4 z (ts.flatMap encX) :: rdP T.towpathref01_Reader p R' :: r)) ?_ ?_
    rotate_left
    · rintro _ w' ⟨z, ts, R', rfl, htm, h1, h2, hs⟩
      refine wp_on ?_
      obtain ⟨x, hbx, hs⟩ := rd_open (hs.pick [1])
      refine wp_tk hs fun w' hs => ?_
      refine wp_nn ?_
      refine wp_ldO hs ?_
      refine wp_lt ?_
      refine wp_untick ?_
      refine ⟨rfl, z, ts, R', R'.e == 0, rfl, htm, fun h => ?_, fun h => ?_, (rd_close R' hbx hs).pick [1]⟩
      · have h : R'.e = 0 := by simpa using h
        obtain ⟨g1, g2⟩ := h1 h
        exact ⟨g1, h, g2⟩
      · have h : R'.e ≠ 0 := by simpa using h
        exact h2 h
    refine wp_loop (fun k u w => ∃ (i : Nat) (z : Sl) (ts : List TxnA) (Ri : RdM), u = (z, (i : Int), ()) ∧ i ≤ c ∧ c - i = k ∧ ts.length = i ∧ (Ri.e = 0 → R.e = 0 ∧ Rest R = uintL c ++ Rest R1 ∧ c < 18446744073709551616 ∧ ∃ raw : List TxnA, raw.length = i ∧ (∀ t ∈ raw, vldB b t) ∧ ts = raw.map (smT b) ∧ Rest R1 = raw.flatMap (encV b) ++ Rest Ri) ∧ (Ri.e ≠ 0 → BadR b most R) ∧
      Sat w (slc T.towpathref08_Txn 4 z (ts.flatMap encX) :: rdP T.towpathref01_Reader p Ri :: r)) c ⟨0, ⟨none, 0, 0⟩, [], R1, rfl, by omega, rfl, rfl, fun h0 => ?_, fun hn0 h0 us z hu hv he => ?_, hs.slc_nil⟩ ?_
    · rcases hucase with ⟨h1, h2, -, -, -, h6⟩ | ⟨-, h2, -, -⟩
      · exact ⟨h1, h6, h2, [], rfl, by simp, rfl, rfl⟩
      · exact absurd h0 h2
    · rcases hucase with ⟨-, -, h3, -⟩ | ⟨-, -, -, h4⟩
      · exact hn0 h3
      · exact h4 h0 _ _ (by omega) he
    clear hs
    rintro k _ w ⟨i, z, ts, Ri, rfl, hi, hk, htl, hgd, hbd, hs⟩
    refine wp_on ?_
    obtain ⟨x, hbx, hs⟩ := rd_open (hs.pick [1])
    refine wp_nng ?_
    refine wp_ldO hs ?_
    have hs := rd_close Ri hbx hs
    refine wp_if (fun hc => ?_) fun hc => ?_
    rotate_left
    · refine wp_pass (wp_lv ⟨z, ts, Ri, rfl, by omega, fun h0 => ?_, hbd, hs.pick [1]⟩)
      obtain ⟨g1, g2, g3, raw, g4, g5, g6, g7⟩ := hgd h0
      have : i = c := by
        apply Nat.le_antisymm hi
        apply Nat.le_of_not_lt
        intro h2
        exact hc ⟨by omega, h0⟩
      exact ⟨g1, raw, by omega, g5, g6, by rw [g2, g4, this, g7]⟩
    obtain ⟨g1, g2, g3, raw, g4, g5, g6, g7⟩ := hgd hc.2
    have hread := readN b hbx.1
    have hstep : (RN b Ri).e = 0 → R.e = 0 ∧ Rest R = uintL c ++ Rest R1 ∧ c < 18446744073709551616 ∧ ∃ raw' : List TxnA, raw'.length = i + 1 ∧ (∀ t ∈ raw', vldB b t) ∧ ts ++ [smT b (rawT b Ri)] = raw'.map (smT b) ∧ Rest R1 = raw'.flatMap (encV b) ++ Rest (RN b Ri) := fun h0 => by
      rcases hread with ⟨b1, b2, b3, b4, b5⟩ | ⟨b1, -⟩
      · refine ⟨g1, g2, g3, raw ++ [rawT b Ri], by simp [g4], fun t ht => ?_, by rw [g6]; simp, ?_⟩
        · rcases List.mem_append.1 ht with ht | ht
          · exact g5 t ht
          · rw [List.mem_singleton.1 ht]; exact b4
        · rw [g7, b5, List.flatMap_append]; simp
      · exact absurd h0 b1
    have hstep2 : (RN b Ri).e ≠ 0 → BadR b most R := fun hn0 h0 us z hu hv he => by
      rcases hread with ⟨b1, b2, b3, b4, b5⟩ | ⟨b1, b2, b3⟩
      · exact hn0 b2
      · rw [g2] at he
        obtain ⟨h1, he⟩ := uintL_inj g3 (by omega) he
        rw [g7] at he
        obtain ⟨rs, h2, h3⟩ := preB b g5 hv (by omega) he
        cases rs with
        | nil => rw [List.append_nil] at h2; rw [h2, g4] at h1; omega
        | cons t rs =>
          rw [List.flatMap_cons, List.append_assoc] at h3
          exact b3 hc.2 t _ (hv t (by rw [h2]; simp)) h3
    have htl' : ts.length ≤ 1000000 := by omega
    refine wp_call (dsmall_c (p := p) hs) fun _ _ hs => ?_
    obtain ⟨rfl, hs⟩ := hs
    refine ret_of ?_
    refine wp_newO hs fun a w' hs => ?_
    refine wp_stG hs fun w' hs => ?_
    refine wp_call (dsmall_c (p := p) hs) fun _ _ hs => ?_
    obtain ⟨rfl, hs⟩ := hs
    refine ret_of ?_
    refine wp_stO hs fun w' hs => ?_
    refine wp_call (dsmall_c (p := p) hs) fun _ _ hs => ?_
    obtain ⟨rfl, hs⟩ := hs
    refine ret_of ?_
    refine wp_stO hs fun w' hs => ?_
    have hs : Sat w' (pt a (.cells #[.int .i64 (smI (Ri.uint.1 : Int)), .int .i64 (smI (Ri.uint.2.uint.1 : Int)), .int .i64 (smI (Ri.uint.2.uint.2.uint.1 : Int)), .int .i64 (-1)] T.towpathref08_Txn) :: rdP T.towpathref01_Reader p (R3 Ri) :: slc T.towpathref08_Txn 4 z (ts.flatMap encX) :: r) := hs
    refine wp_mid (fun _ w' => Sat w' (pt a (.cells #[.int .i64 (smT b (rawT b Ri)).pid, .int .i64 (smT b (rawT b Ri)).epoch, .int .i64 (smT b (rawT b Ri)).first, .int .i64 (smT b (rawT b Ri)).last] T.towpathref08_Txn) :: rdP T.towpathref01_Reader p (RN b Ri) :: slc T.towpathref08_Txn 4 z (ts.flatMap encX) :: r)) ?_ ?_
    · cases b with
      | true =>
        refine wp_ifT ?_ trivial
        refine wp_call (dsmall_c (p := p) hs) fun _ _ hs => ?_
        obtain ⟨rfl, hs⟩ := hs
        refine ret_of ?_
        refine wp_stO hs fun w' hs => ?_
        exact wp_lv hs
      | false =>
        refine wp_ifF ?_ (by simp)
        exact wp_lv hs
    clear hs
    rintro _ w hs
    refine wp_on ?_
    refine wp_ldG hs ?_
    refine wp_ap0 hs (xs := ts) (enc := encX) (smT b (rawT b Ri)) (fun z w' hs => ?_)
    refine wp_ltx (y := ((i + 1 : Nat) : Int)) ?_ (by rw [w64 (by omega) (by omega)]; omega)
    refine wp_lp (c - (i + 1)) ?_ (lp_lt (Int.ofNat_lt.1 hc.1) hk)
    exact ⟨i + 1, z, ts ++ [smT b (rawT b Ri)], RN b Ri, rfl, by omega, rfl, by simp [htl], hstep, hstep2, hs.sub⟩

/-! ### May a view be so? -/
def okM (A : ViewA) : Prop := (0 ≤ A.next ∧ A.next ≤ 1099511627777) ∧ (∀ t ∈ A.op, okT t A.next) ∧ (A.op.Pairwise fun a b => a.first < b.first) ∧ (A.op.map (·.pid)).Nodup ∧
  (∀ t ∈ A.fa, okT t A.next ∧ t.first < t.last ∧ t.last < A.next) ∧ (A.fa.Pairwise fun a b => a.last < b.last) ∧ (A.fa.map fun t => (t.pid, t.epoch)).Nodup ∧ ∀ t ∈ A.op, ∀ u ∈ A.fa, ¬ (t.pid = u.pid ∧ t.epoch = u.epoch)
theorem idxL_before (p : TxnA → Bool) : ∀ (ts : List TxnA) (i : Nat), idxL p ts = (i : Int) → (∀ j (h : j < ts.length), j < i → p ts[j] = false) ∧ ∃ h : i < ts.length, p ts[i] = true
  | [], i, h => by unfold idxL at h; omega
  | t :: r, i, h => by
    unfold idxL at h
    split at h
    · rename_i ht
      obtain rfl : i = 0 := by omega
      exact ⟨fun j _ h => by omega, by simp, ht⟩
    · rename_i ht
      split at h
      · omega
      · obtain ⟨j, rfl⟩ : ∃ j, i = j + 1 := ⟨i - 1, by omega⟩
        obtain ⟨h1, h2, h3⟩ := idxL_before p r j (by omega)
        refine ⟨fun m hm hmi => ?_, by simp; omega, h3⟩
        cases m with
        | zero => simpa using ht
        | succ m => exact h1 m (by simpa using hm) (by omega)
theorem idxL_none (p : TxnA → Bool) (ts : List TxnA) : idxL p ts < 0 ↔ ∀ t ∈ ts, p t = false := by
  rcases idxL_find p ts with ⟨h1, h2⟩ | ⟨i, hi, h1, h2⟩
  · refine ⟨fun _ t ht => ?_, fun _ => by omega⟩
    have := List.find?_eq_none.1 h1 t ht
    simpa using this
  · refine ⟨fun h => by omega, fun h => ?_⟩
    have := List.find?_some h1
    rw [h _ (List.getElem_mem hi)] at this
    cases this

theorem dmay_c (hmo : A.op.length ≤ 1000000) (hmf : A.fa.length ≤ 1000000) [hf : Fo l dwP q A r] (hs : Sat w l) : Ret P F.towpathref08_View_may #[.pointer (some ⟨q, 0, none⟩)] w fun vs w' => ∃ b : Bool, vs = [.bool b] ∧ (b = true ↔ okM A) ∧ Sat w' (dwP q A :: r) :=
  towpathref08_View_may_calls _ <| by
    unfold towpathref08_View_may
    obtain ⟨x, y, hs⟩ := dw_open (hs.perm hf.perm)
    have hxl := hs.slen x (xs := A.op) (enc := encX)
    have hyl := hs.slen y (xs := A.fa) (enc := encX)
    have hno : ∀ {w' : World}, ¬ okM A → Sat w' (pt q (.cells #[.int .i64 A.next, .slice x.a x.len x.cap, .slice y.a y.len y.cap] T.towpathref08_View) :: slc T.towpathref08_Txn 4 x (A.op.flatMap encX) :: slc T.towpathref08_Txn 4 y (A.fa.flatMap encX) :: r) →
        ∃ b : Bool, [Value.bool false] = [.bool b] ∧ (b = true ↔ okM A) ∧ Sat w' (dwP q A :: r) := fun {w'} h hs => ⟨false, rfl, ⟨fun h => (by cases h), fun h2 => absurd h2 h⟩, dw_close A hs⟩
    refine wp_nn ?_
    refine wp_ldO hs ?_
    refine wp_nng ?_
    refine wp_ldO hs ?_
    refine wp_if (fun h => ?_) fun h => ?_
    · exact ⟨rfl, hno (fun hok => by have := hok.1; omega) hs⟩
    have hnx : 0 ≤ A.next ∧ A.next ≤ 1099511627777 := by omega
    refine wp_nn ?_
    refine wp_ldO hs ?_
    refine wp_mid (fun _ w' => ((∀ t ∈ A.op, okT t A.next) ∧ (A.op.Pairwise fun a b => a.first < b.first) ∧ (A.op.map (·.pid)).Nodup) ∧ Sat w' (pt q (.cells #[.int .i64 A.next, .slice x.a x.len x.cap, .slice y.a y.len y.cap] T.towpathref08_View) :: slc T.towpathref08_Txn 4 x (A.op.flatMap encX) :: slc T.towpathref08_Txn 4 y (A.fa.flatMap encX) :: r)) ?_ ?_
    · refine wp_loop (fun k u w => ∃ i : Nat, u = ((i : Int), ()) ∧ i ≤ A.op.length ∧ A.op.length - i = k ∧ ((∀ t ∈ A.op.take i, okT t A.next) ∧ ((A.op.take i).Pairwise fun a b => a.first < b.first) ∧ ((A.op.take i).map (·.pid)).Nodup) ∧ Sat w (pt q (.cells #[.int .i64 A.next, .slice x.a x.len x.cap, .slice y.a y.len y.cap] T.towpathref08_View) :: slc T.towpathref08_Txn 4 x (A.op.flatMap encX) :: slc T.towpathref08_Txn 4 y (A.fa.flatMap encX) :: r)) A.op.length
        ⟨0, rfl, by omega, rfl, ⟨by simp, by simp, by simp⟩, hs⟩ ?_
      clear hs
      rintro k _ w ⟨i, rfl, hi, hk, hacc, hs⟩
      refine wp_on ?_
      refine wp_if (fun hc => ?_) fun hc => ?_
      rotate_left
      · rw [List.take_of_length_le (by omega)] at hacc
        exact wp_pass (wp_lv ⟨hacc, hs⟩)
      have hil : i < A.op.length := by omega
      have htm : A.op[i] ∈ A.op := List.getElem_mem hil
      have hprev : ∀ j (h : j < A.op.length), j = i - 1 → 0 < i → okM A → A.op[j].first < A.op[i].first := fun j hj e h0 hok => (List.pairwise_iff_getElem.1 hok.2.2.1) j i hj hil (by omega)
      have hidx : okM A → idxL (fun t => decide (t.pid = A.op[i].pid)) A.op = (i : Int) := fun hok => by
        rcases idxL_find (fun t => decide (t.pid = A.op[i].pid)) A.op with ⟨h1, -⟩ | ⟨j, hj, h1, h2⟩
        · have := List.find?_eq_none.1 h1 _ htm
          simp at this
        · have h3 := List.find?_some h1
          have h3 : A.op[j].pid = A.op[i].pid := by simpa using h3
          have h4 := List.pairwise_iff_getElem.1 hok.2.2.2.1
          have hji : j = i := by
            apply Decidable.byContradiction
            intro hne
            rcases Nat.lt_or_gt_of_ne hne with h5 | h5
            · exact h4 j i (by simpa using hj) (by simpa using hil) h5 (by simpa using h3)
            · exact h4 i j (by simpa using hil) (by simpa using hj) h5 (by simpa using h3.symm)
          rw [h2, hji]
      refine wp_ixA hs (xs := A.op) (enc := encX) i hil ?_
      refine wp_newO hs fun c w' hs => ?_
      refine wp_lt ?_
      refine wp_stG hs fun w' hs => ?_
      have hcl : ∀ {w' : World} {H : HP}, Sat w' (H :: pt q (.cells #[.int .i64 A.next, .slice x.a x.len x.cap, .slice y.a y.len y.cap] T.towpathref08_View) :: slc T.towpathref08_Txn 4 x (A.op.flatMap encX) :: slc T.towpathref08_Txn 4 y (A.fa.flatMap encX) :: r) → Sat w' (pt q (.cells #[.int .i64 A.next, .slice x.a x.len x.cap, .slice y.a y.len y.cap] T.towpathref08_View) :: slc T.towpathref08_Txn 4 x (A.op.flatMap encX) :: slc T.towpathref08_Txn 4 y (A.fa.flatMap encX) :: r) := fun {w' H} hs => hs.tail
      refine wp_mid (fun u w' => ∃ bad : Bool, u = (bad, ()) ∧ (bad = true → ¬ okM A) ∧ (bad = false → okT A.op[i] A.next ∧ idxL (fun t => decide (t.pid = A.op[i].pid)) A.op = (i : Int) ∧ (∀ j (h : j < A.op.length), j = i - 1 → 0 < i → A.op[j].first < A.op[i].first)) ∧ Sat w' (pt q (.cells #[.int .i64 A.next, .slice x.a x.len x.cap, .slice y.a y.len y.cap] T.towpathref08_View) :: slc T.towpathref08_Txn 4 x (A.op.flatMap encX) :: slc T.towpathref08_Txn 4 y (A.fa.flatMap encX) :: r)) ?_ ?_
      · refine wp_tk hs fun w' hs => ?_
        refine wp_ldO hs ?_
        refine wp_ldO hs ?_
        refine wp_ldO hs ?_
        refine wp_ldO hs ?_
        refine wp_ldO hs ?_
        refine wp_ldO hs ?_
        refine wp_nng ?_
        refine wp_ldO hs ?_
        refine wp_nng ?_
        refine wp_ldO hs ?_
        refine wp_ldO hs ?_
        refine wp_if (fun hb => ?_) fun hb => ?_
        · refine wp_untick ?_
          refine wp_lv ⟨true, rfl, fun _ hok => ?_, (fun h => by cases h), hs.tail⟩
          have h1 := hok.2.1 _ htm
          have h2 := h1.pid
          have h3 := h1.epoch
          have h4 := h1.first
          omega
        have hokT : okT A.op[i] A.next := ⟨by omega, by omega, by omega⟩
        refine wp_call (dof_c A.op[i].pid x A.op hmo hs) fun _ _ hs => ?_
        obtain ⟨rfl, hs⟩ := hs
        refine ret_of ?_
        refine wp_ldO hs ?_
        refine wp_nng ?_
        refine wp_ldO hs ?_
        refine wp_ixFgg hs (xs := A.op) (enc := encX) (A.op.getD (i - 1) ⟨0, 0, 0, 0⟩).first (fun hg => ?_) ?_
        · have hg2 : 0 < i := by have := hg.2; simp at this; omega
          refine ⟨i - 1, by omega, by rw [w64 (by omega) (by omega)]; omega, ?_⟩
          rw [List.getD_eq_getElem?_getD, List.getElem?_eq_getElem (by omega)]; rfl
        refine wp_untick ?_
        have hgd : 0 < i → A.op.getD (i - 1) ⟨0, 0, 0, 0⟩ = A.op[i - 1] := fun h => by rw [List.getD_eq_getElem?_getD, List.getElem?_eq_getElem (by omega)]; rfl
        refine wp_lv ⟨_, rfl, fun hb2 hok => ?_, fun hb2 => ?_, hs.tail⟩
        · have h1 := hidx hok
          rw [h1] at hb2
          simp only [bne_self_eq_false, Bool.false_or, Bool.and_eq_true, decide_eq_true_eq] at hb2
          have h0 : 0 < i := by omega
          have := hprev (i - 1) (by omega) rfl h0 hok
          rw [hgd h0] at hb2
          omega
        · simp only [Bool.or_eq_false_iff, bne_eq_false_iff_eq, Bool.and_eq_false_imp, decide_eq_true_eq, decide_eq_false_iff_not] at hb2
          refine ⟨hokT, hb2.1, fun j hj e h0 => ?_⟩
          have := hb2.2 (by omega)
          rw [hgd h0] at this
          subst e
          omega
      clear hs
      rintro _ w ⟨bad, rfl, hb1, hb2, hs⟩
      refine wp_on ?_
      refine wp_if (fun h => ?_) fun h => ?_
      · exact wp_pass (wp_pass ⟨rfl, hno (hb1 h) hs⟩)
      obtain ⟨c1, c2, c3⟩ := hb2 (by simpa using h)
      refine wp_dn (us' := [.int .i64 ((i + 1 : Nat) : Int)]) (by (try simp (disch := omega) only [w64]); first | rfl | (congr; omega)) ?_
      refine wp_lp (A.op.length - (i + 1)) ?_
      have hto : A.op.take (i + 1) = A.op.take i ++ [A.op[i]] := by rw [List.take_add_one, List.getElem?_eq_getElem hil]; rfl
      refine ⟨i + 1, rfl, by omega, rfl, ?_, hs⟩
      rw [hto]
      refine ⟨fun t ht => ?_, ?_, ?_⟩
      · rcases List.mem_append.1 ht with ht | ht
        · exact hacc.1 t ht
        · rw [List.mem_singleton.1 ht]; exact c1
      · rw [List.pairwise_append]
        refine ⟨hacc.2.1, by simp, fun a ha b hb => ?_⟩
        rw [List.mem_singleton.1 hb]
        obtain ⟨j, hj, rfl⟩ := List.getElem_of_mem ha
        rw [List.length_take] at hj
        have h0 : 0 < i := by omega
        have h5 := c3 (i - 1) (by omega) rfl h0
        rw [List.getElem_take]
        by_cases hji : j = i - 1
        · subst hji; exact h5
        · have := (List.pairwise_iff_getElem.1 hacc.2.1) j (i - 1) (by rw [List.length_take]; omega) (by rw [List.length_take]; omega) (by omega)
          rw [List.getElem_take, List.getElem_take] at this
          omega
      · rw [List.map_append, List.nodup_append]
        refine ⟨hacc.2.2, by simp, fun a ha b hb => ?_⟩
        obtain ⟨u, hu, rfl⟩ := List.mem_map.1 ha
        rw [List.map_singleton, List.mem_singleton] at hb
        rw [hb]
        obtain ⟨j, hj, rfl⟩ := List.getElem_of_mem hu
        rw [List.length_take] at hj
        have := (idxL_before _ _ _ c2).1 j (by omega) (by omega)
        rw [List.getElem_take]
        simpa using this
    clear hs
    rintro _ w ⟨hop, hs⟩
    refine wp_on ?_
    refine wp_nn ?_
    refine wp_ldO hs ?_
    refine wp_mid (fun _ w' => ((∀ t ∈ A.fa, okT t A.next ∧ t.first < t.last ∧ t.last < A.next) ∧ (A.fa.Pairwise fun a b => a.last < b.last) ∧ (A.fa.map fun t => (t.pid, t.epoch)).Nodup ∧ ∀ t ∈ A.op, ∀ u ∈ A.fa, ¬ (t.pid = u.pid ∧ t.epoch = u.epoch)) ∧ Sat w' (pt q (.cells #[.int .i64 A.next, .slice x.a x.len x.cap, .slice y.a y.len y.cap] T.towpathref08_View) :: slc T.towpathref08_Txn 4 x (A.op.flatMap encX) :: slc T.towpathref08_Txn 4 y (A.fa.flatMap encX) :: r)) ?_ ?_
    rotate_left
    · rintro _ w' ⟨hfa, hs⟩
      refine wp_on ?_
      exact ⟨rfl, true, rfl, ⟨fun _ => ⟨hnx, hop.1, hop.2.1, hop.2.2, hfa.1, hfa.2.1, hfa.2.2.1, hfa.2.2.2⟩, fun _ => rfl⟩, dw_close A hs⟩
    refine wp_loop (fun k u w => ∃ i : Nat, u = ((i : Int), ()) ∧ i ≤ A.fa.length ∧ A.fa.length - i = k ∧ ((∀ t ∈ A.fa.take i, okT t A.next ∧ t.first < t.last ∧ t.last < A.next) ∧ ((A.fa.take i).Pairwise fun a b => a.last < b.last) ∧ ((A.fa.take i).map fun t => (t.pid, t.epoch)).Nodup ∧ ∀ t ∈ A.op, ∀ u ∈ A.fa.take i, ¬ (t.pid = u.pid ∧ t.epoch = u.epoch)) ∧ Sat w (pt q (.cells #[.int .i64 A.next, .slice x.a x.len x.cap, .slice y.a y.len y.cap] T.towpathref08_View) :: slc T.towpathref08_Txn 4 x (A.op.flatMap encX) :: slc T.towpathref08_Txn 4 y (A.fa.flatMap encX) :: r)) A.fa.length
      ⟨0, rfl, by omega, rfl, ⟨by simp, by simp, by simp, by simp⟩, hs⟩ ?_
    clear hs
    rintro k _ w ⟨i, rfl, hi, hk, hacc, hs⟩
    refine wp_on ?_
    refine wp_if (fun hc => ?_) fun hc => ?_
    rotate_left
    · rw [List.take_of_length_le (by omega)] at hacc
      exact wp_pass (wp_lv ⟨hacc, hs⟩)
    have hil : i < A.fa.length := by omega
    have htm : A.fa[i] ∈ A.fa := List.getElem_mem hil
    have hidx : okM A → idxL (fun t => decide (t.pid = A.fa[i].pid ∧ t.epoch = A.fa[i].epoch)) A.fa = (i : Int) := fun hok => by
      rcases idxL_find (fun t => decide (t.pid = A.fa[i].pid ∧ t.epoch = A.fa[i].epoch)) A.fa with ⟨h1, -⟩ | ⟨j, hj, h1, h2⟩
      · have := List.find?_eq_none.1 h1 _ htm
        simp at this
      · have h3 := List.find?_some h1
        have h3 : A.fa[j].pid = A.fa[i].pid ∧ A.fa[j].epoch = A.fa[i].epoch := by simpa using h3
        have h4 := List.pairwise_iff_getElem.1 hok.2.2.2.2.2.2.1
        have hji : j = i := by
          apply Decidable.byContradiction
          intro hne
          rcases Nat.lt_or_gt_of_ne hne with h5 | h5
          · exact h4 j i (by simpa using hj) (by simpa using hil) h5 (by simpa using h3)
          · exact h4 i j (by simpa using hil) (by simpa using hj) h5 (by simpa using ⟨h3.1.symm, h3.2.symm⟩)
        rw [h2, hji]
    refine wp_ixA hs (xs := A.fa) (enc := encX) i hil ?_
    refine wp_newO hs fun c w' hs => ?_
    refine wp_lt ?_
    refine wp_stG hs fun w' hs => ?_
    refine wp_tk hs fun w' hs => ?_
    refine wp_ldO hs ?_
    refine wp_ldO hs ?_
    refine wp_ldO hs ?_
    refine wp_ldO hs ?_
    refine wp_ldO hs ?_
    refine wp_ldO hs ?_
    refine wp_ldO hs ?_
    refine wp_ldO hs ?_
    refine wp_nng ?_
    refine wp_ldO hs ?_
    refine wp_ldO hs ?_
    refine wp_nng ?_
    refine wp_ldO hs ?_
    refine wp_ixFgg hs (xs := A.fa) (enc := encX) (A.fa.getD (i - 1) ⟨0, 0, 0, 0⟩).last (fun hg => ?_) ?_
    · have hg2 : 0 < i := by have := hg.2; simp at this; omega
      refine ⟨i - 1, by omega, by rw [w64 (by omega) (by omega)]; omega, ?_⟩
      rw [List.getD_eq_getElem?_getD, List.getElem?_eq_getElem (by omega)]; rfl
    refine wp_untick ?_
    have hgd : 0 < i → A.fa.getD (i - 1) ⟨0, 0, 0, 0⟩ = A.fa[i - 1] := fun h => by rw [List.getD_eq_getElem?_getD, List.getElem?_eq_getElem (by omega)]; rfl
    refine wp_if (fun hb => ?_) fun hb => ?_
    · refine wp_pass (wp_pass ⟨rfl, hno (fun hok => ?_) hs.tail⟩)
      have h1 := hok.2.2.2.2.1 _ htm
      have h2 := h1.1.pid
      have h3 := h1.1.epoch
      have h4 := h1.1.first
      by_cases h0 : 0 < i
      · have := (List.pairwise_iff_getElem.1 hok.2.2.2.2.2.1) (i - 1) i (by omega) hil (by omega)
        rw [hgd h0] at hb
        omega
      · omega
    have hokT : okT A.fa[i] A.next ∧ A.fa[i].first < A.fa[i].last ∧ A.fa[i].last < A.next := ⟨⟨by omega, by omega, by omega⟩, by omega, by omega⟩
    have hprev : 0 < i → A.fa[i - 1].last < A.fa[i].last := fun h0 => by
      rw [hgd h0] at hb
      omega
    refine wp_mid (fun u w' => ∃ bad : Bool, u = (bad, ()) ∧ (bad = true → ¬ okM A) ∧ (bad = false → idxL (fun t => decide (t.pid = A.fa[i].pid ∧ t.epoch = A.fa[i].epoch)) A.fa = (i : Int) ∧ idxL (fun t => decide (t.pid = A.fa[i].pid ∧ t.epoch = A.fa[i].epoch)) A.op < 0) ∧ Sat w' (pt q (.cells #[.int .i64 A.next, .slice x.a x.len x.cap, .slice y.a y.len y.cap] T.towpathref08_View) :: slc T.towpathref08_Txn 4 x (A.op.flatMap encX) :: slc T.towpathref08_Txn 4 y (A.fa.flatMap encX) :: r)) ?_ ?_
    · refine wp_tk hs fun w' hs => ?_
      refine wp_nn ?_
      refine wp_ldO hs ?_
      refine wp_ldO hs ?_
      refine wp_ldO hs ?_
      refine wp_call (dfind_c A.fa[i].pid A.fa[i].epoch y A.fa hmf hs) fun _ _ hs => ?_
      obtain ⟨rfl, hs⟩ := hs
      refine ret_of ?_
      refine wp_nng ?_
      refine wp_ldO hs ?_
      refine wp_ldO hs ?_
      refine wp_ldO hs ?_
      refine wp_if (fun h2 => ?_) fun h2 => ?_
      · refine wp_untick ?_
        exact wp_lv ⟨true, rfl, fun _ hok => h2 (hidx hok), (fun h => by cases h), hs.tail⟩
      refine wp_call (dfind_c A.fa[i].pid A.fa[i].epoch x A.op hmo hs) fun _ _ hs => ?_
      obtain ⟨rfl, hs⟩ := hs
      refine ret_of ?_
      refine wp_untick ?_
      refine wp_lv ⟨_, rfl, fun hb2 hok => ?_, fun hb2 => ⟨Decidable.not_not.1 h2, by simpa using hb2⟩, hs.tail⟩
      have hb2 : 0 ≤ idxL (fun t => decide (t.pid = A.fa[i].pid ∧ t.epoch = A.fa[i].epoch)) A.op := by simpa using hb2
      have : idxL (fun t => decide (t.pid = A.fa[i].pid ∧ t.epoch = A.fa[i].epoch)) A.op < 0 := (idxL_none _ _).2 fun t ht => by
        have := hok.2.2.2.2.2.2.2 t ht _ htm
        simpa using this
      omega
    clear hs
    rintro _ w ⟨bad, rfl, hb1, hb2, hs⟩
    refine wp_on ?_
    refine wp_if (fun h => ?_) fun h => ?_
    · exact wp_pass (wp_pass ⟨rfl, hno (hb1 h) hs⟩)
    obtain ⟨c2, c3⟩ := hb2 (by simpa using h)
    refine wp_dn (us' := [.int .i64 ((i + 1 : Nat) : Int)]) (by (try simp (disch := omega) only [w64]); first | rfl | (congr; omega)) ?_
    refine wp_lp (A.fa.length - (i + 1)) ?_
    have hto : A.fa.take (i + 1) = A.fa.take i ++ [A.fa[i]] := by rw [List.take_add_one, List.getElem?_eq_getElem hil]; rfl
    refine ⟨i + 1, rfl, by omega, rfl, ?_, hs⟩
    rw [hto]
    refine ⟨fun t ht => ?_, ?_, ?_, fun t ht u hu => ?_⟩
    · rcases List.mem_append.1 ht with ht | ht
      · exact hacc.1 t ht
      · rw [List.mem_singleton.1 ht]; exact hokT
    · rw [List.pairwise_append]
      refine ⟨hacc.2.1, by simp, fun a ha b hb => ?_⟩
      rw [List.mem_singleton.1 hb]
      obtain ⟨j, hj, rfl⟩ := List.getElem_of_mem ha
      rw [List.length_take] at hj
      have h0 : 0 < i := by omega
      have h5 := hprev h0
      rw [List.getElem_take]
      by_cases hji : j = i - 1
      · subst hji; exact h5
      · have := (List.pairwise_iff_getElem.1 hacc.2.1) j (i - 1) (by rw [List.length_take]; omega) (by rw [List.length_take]; omega) (by omega)
        rw [List.getElem_take, List.getElem_take] at this
        omega
    · rw [List.map_append, List.nodup_append]
      refine ⟨hacc.2.2.1, by simp, fun a ha b hb => ?_⟩
      obtain ⟨u, hu, rfl⟩ := List.mem_map.1 ha
      rw [List.map_singleton, List.mem_singleton] at hb
      rw [hb]
      obtain ⟨j, hj, rfl⟩ := List.getElem_of_mem hu
      rw [List.length_take] at hj
      have := (idxL_before _ _ _ c2).1 j (by omega) (by omega)
      rw [List.getElem_take]
      intro e
      simp only [Prod.mk.injEq] at e
      have : ¬ (A.fa[j].pid = A.fa[i].pid ∧ A.fa[j].epoch = A.fa[i].epoch) := by simpa using this
      exact this e
    · rcases List.mem_append.1 hu with hu | hu
      · exact hacc.2.2.2 t ht u hu
      · rw [List.mem_singleton.1 hu]
        have := (idxL_none _ _).1 c3 t ht
        simpa using this
end
end Go.Dec
