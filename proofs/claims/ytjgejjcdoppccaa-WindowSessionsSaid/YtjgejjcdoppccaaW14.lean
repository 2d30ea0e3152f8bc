/- Windows: the document's Session is Session. -/
import Derived.Test.YtjgejjcdoppccaaW13
namespace Go.Dec
set_option linter.unusedVariables false
set_option linter.unusedSimpArgs false

section
variable {w : World} {l r : List HP}

theorem rsession_c (gap : Int) (t : Sl) (xs : List Int) (hlen : xs.length < 1099511627776) (hr : ∀ w, Sat w l → Rd w 1 t (xs.flatMap fun n => [.int .i64 n])) (hs : Sat w l) : Ret P F.towpathref21_Session #[.int .i64 gap, t.v] w fun vs w' =>
    ∃ x : Sl, vs = [x.v] ∧ Sat w' (rspans x (sessF gap xs) :: l) :=
  towpathref21_Session_calls gap t <| by
    unfold towpathref21_Session
    have htl : t.len = xs.length := (hr _ hs).len (enc := fun n : Int => [Value.int .i64 n]) int_len (by decide)
    refine wp_ite (fun h => ?_) fun h => ?_
    · have h : (decide (gap < 1) || decide (gap > 1099511627776)) = true := h
      have h : isSz gap = false := by
        simp only [Bool.or_eq_true, decide_eq_true_eq] at h
        simp [isSz]; omega
      exact ⟨rfl, ⟨none, 0, 0⟩, rfl, by rw [sessF, h]; exact hs.slc_nil⟩
    have h : (decide (gap < 1) || decide (gap > 1099511627776)) = false := h
    have hg : 1 ≤ gap ∧ gap ≤ 1099511627776 := by simp at h; omega
    have hz : isSz gap = true := by simp [isSz]; omega
    rw [sessF, if_pos hz]
    have hso := sorted_idx (sortT_sorted xs)
    have hmem : ∀ z, z ∈ sortT xs ↔ z ∈ xs ∧ isT z = true := fun z => by rw [(sortT_perm xs).mem_iff, List.mem_filter]
    have hyl : (sortT xs).length ≤ xs.length := by rw [(sortT_perm xs).length_eq]; exact List.length_filter_le _ _
    generalize sortT xs = ys at *
    have hget : ∀ k, k < ys.length → ys.getD k 0 ∈ ys := fun k hk => by simp [hk]
    have hidx : ∀ z, z ∈ ys → ∃ k, k < ys.length ∧ ys.getD k 0 = z := fun z hz => by
      obtain ⟨k, hk, he⟩ := List.mem_iff_getElem.1 hz
      exact ⟨k, hk, by simp [hk, he]⟩
    have hb : ∀ k, k < ys.length → 0 ≤ ys.getD k 0 ∧ ys.getD k 0 ≤ 1099511627776 := fun k hk => by
      have := ((hmem _).1 (hget k hk)).2
      simpa [isT] using this
    refine wp_loop (fun n v w => ∃ (z : Sl) (i : Nat) (m : Int), v = (z, m, ()) ∧ i ≤ ys.length ∧ ys.length - i = n ∧ -1 ≤ m ∧ (∀ k, k < i → ys.getD k 0 ≤ m) ∧ (∀ k, i ≤ k → k < ys.length → m < ys.getD k 0) ∧ Sat w (rspans z (sessN gap ys i) :: l)) ys.length ⟨⟨none, 0, 0⟩, 0, -1, rfl, by omega, by omega, by omega, fun k hk => by omega, fun k _ hk => by have := hb k hk; omega, hs.slc_nil⟩ ?_
    clear hs
    rintro n _ w ⟨z, i, m, rfl, hi, hn, hm, hlo, hhi, hs⟩
    refine wp_mid (fun v w' => ∃ (z : Sl) (i' : Nat) (m : Int), v = (z, m, ()) ∧ i < i' ∧ i' ≤ ys.length ∧ -1 ≤ m ∧ (∀ k, k < i' → ys.getD k 0 ≤ m) ∧ (∀ k, i' ≤ k → k < ys.length → m < ys.getD k 0) ∧ Sat w' (rspans z (sessN gap ys i') :: l)) ?_ ?_
    · refine wp_mid (fun v w' => ∃ a : Int, v = (a, ()) ∧ Least xs m a ∧ Sat w' (rspans z (sessN gap ys i) :: l)) ?_ ?_
      · refine wp_loop (fun n v w => ∃ (j : Nat) (a : Int), v = (a, (j : Int), ()) ∧ j ≤ xs.length ∧ xs.length - j = n ∧ Least (xs.take j) m a ∧ Sat w (rspans z (sessN gap ys i) :: l)) xs.length ⟨0, -1, rfl, by omega, by omega, .inl ⟨rfl, fun t ht => by cases ht⟩, hs⟩ ?_
        clear hs
        rintro n _ w ⟨j, a, rfl, hj, hn, hle, hs⟩
        refine wp_ite (fun hc => ?_) fun hc => ?_
        · have hc : (j : Int) < ((t.len : Nat) : Int) := of_decide_eq_true hc
          have hjl : j < xs.length := by omega
          obtain ⟨b, hb', hel⟩ := (hr _ hs.tail).el (enc := fun n : Int => [Value.int .i64 n]) int_len (by omega)
          refine wp_ex (b, ()) ⟨by dsimp only; omega, by dsimp only; omega, hb'⟩ ?_
          refine wp_rd (p := .int .i64) (x := xs[j]) (At.ld1 (hel j hjl) rfl) ?_
          refine wp_lt ?_
          refine wp_callS (isT xs[j], ()) (rtime_c xs[j] hs) rfl fun w' hs => ⟨trivial, ?_⟩
          have hsn := hle.snoc (t := xs[j]) hm
          have htk : xs.take j ++ [xs[j]] = xs.take (j + 1) := by rw [List.take_add_one, List.getElem?_eq_getElem hjl]; rfl
          rw [htk] at hsn
          refine wp_mid (fun v w' => v = (if isT xs[j] = true ∧ m < xs[j] ∧ (a < 0 ∨ xs[j] < a) then xs[j] else a, ()) ∧ Sat w' (rspans z (sessN gap ys i) :: l)) ?_ ?_
          · refine wp_ite (fun h => ?_) fun h => ?_
            · have h : (isT xs[j] && decide (xs[j] > m) && (decide (a < 0) || decide (xs[j] < a))) = true := h
              simp only [Bool.and_eq_true, Bool.or_eq_true, decide_eq_true_eq] at h
              rw [if_pos ⟨h.1.1, h.1.2, h.2⟩]
              exact wp_lt (wp_leave ⟨(xs[j], ()), rfl, rfl, hs⟩)
            · have h : (isT xs[j] && decide (xs[j] > m) && (decide (a < 0) || decide (xs[j] < a))) = false := h
              rw [if_neg]
              · exact wp_leave ⟨(a, ()), rfl, rfl, hs⟩
              · rintro ⟨h1, h2, h3⟩
                rw [h1, decide_eq_true h2, Bool.true_and, Bool.true_and] at h
                simp only [Bool.or_eq_false_iff, decide_eq_false_iff_not] at h
                omega
          · rintro _ w' ⟨rfl, hs⟩
            refine wp_dn (us' := [.int .i64 (if isT xs[j] = true ∧ m < xs[j] ∧ (a < 0 ∨ xs[j] < a) then xs[j] else a), .int .i64 ((j + 1 : Nat) : Int)]) (by dsimp only; rw [w64 (by omega) (by omega)]; rfl) ?_
            exact wp_leave ⟨(_, ((j + 1 : Nat) : Int), ()), xs.length - (j + 1), by omega, rfl, j + 1, _, rfl, by omega, rfl, hsn, hs⟩
        · have hc : ¬ (j : Int) < ((t.len : Nat) : Int) := of_decide_eq_false hc
          refine wp_pass ?_
          refine wp_leave ⟨(a, ()), rfl, a, rfl, ?_, hs⟩
          rwa [List.take_of_length_le (by omega)] at hle
      clear hs
      rintro _ w ⟨a, rfl, hle, hs⟩
      refine wp_ite (fun hc => ?_) fun hc => ?_
      · have hc : a < 0 := of_decide_eq_true hc
        have hil : i = ys.length := by
          rcases Nat.lt_or_ge i ys.length with h | h
          · exfalso
            have h1 := hhi i (Nat.le_refl _) h
            have h2 := (hmem _).1 (hget i h)
            rcases hle with ⟨_, h3⟩ | ⟨_, h4, _, _⟩
            · exact h3 _ h2.1 h2.2 h1
            · simp [isT] at h4; omega
          · omega
        refine wp_pass ?_
        refine wp_pass ?_
        subst hil
        exact ⟨rfl, z, rfl, hs⟩
      · have hc : ¬ a < 0 := of_decide_eq_false hc
        rcases hle with ⟨h, _⟩ | ⟨h1, h2, h3, h4⟩
        · omega
        obtain ⟨k, hk, hka⟩ := hidx a ((hmem a).2 ⟨h1, h2⟩)
        have hik : i ≤ k := by
          rcases Nat.lt_or_ge k i with h | h
          · have := hlo k h; omega
          · exact h
        have hai : ys.getD i 0 = a := by
          have e1 := hso i k hik hk
          have e2 := (hmem _).1 (hget i (by omega))
          have e3 := h4 _ e2.1 e2.2 (hhi i (Nat.le_refl _) (by omega))
          omega
        have hil : i < ys.length := by omega
        obtain ⟨j, hj1, hj2, hj3, hj4⟩ := next_idx (i := i) hso (ys.length - (i + 1)) (i + 1) rfl (by omega) (by omega) fun k h1 h2 => by omega
        have hdup := sessN_dup hg.1 hso j hj1 hj2 hj3
        have hba := hb i hil
        have hzl : z.len = (sessN gap ys i).length := hs.rd.len (enc := encS) encS_len (by decide)
        have hsl := sessN_length gap ys i
        have hgd : IntKind.wrap .i64 (a + gap) = a + gap := w64 (by omega) (by omega)
        have hfin : ∀ (z : Sl) (w' : World), Sat w' (rspans z (sessN gap ys (i + 1)) :: l) → ∃ (z' : Sl) (i' : Nat) (m' : Int), ((z, a, ()) : HL [.slc, .int .i64]) = (z', m', ()) ∧ i < i' ∧ i' ≤ ys.length ∧ -1 ≤ m' ∧ (∀ k, k < i' → ys.getD k 0 ≤ m') ∧ (∀ k, i' ≤ k → k < ys.length → m' < ys.getD k 0) ∧ Sat w' (rspans z' (sessN gap ys i') :: l) := fun z w' hs =>
          ⟨z, j, a, rfl, hj1, hj2, by omega, fun k hk' => by
            rcases Nat.lt_or_ge i k with h | h
            · rw [hj3 k h hk']; omega
            · have := hso k i h hil; omega, fun k h1 h2 => by have := hj4 k h1 h2; omega, by rw [hdup]; exact hs⟩
        by_cases h0 : i = 0
        · subst h0
          have hz0 : z.len = 0 := hzl
          refine wp_ex (⟨0, 0, none⟩, ()) (fun h => ?_) ?_
          · have h : ((z.len : Nat) : Int) > 0 := of_decide_eq_true h
            omega
          refine wp_read (0, ()) (fun h => ?_) ?_
          · have h : ((z.len : Nat) : Int) > 0 := of_decide_eq_true h
            omega
          refine wp_mid (fun v w' => ∃ z : Sl, v = (z, ()) ∧ Sat w' (rspans z (sessN gap ys 1) :: l)) ?_ ?_
          · refine wp_ite_f ?_ ?_
            · rw [hz0]; rfl
            refine wp_apE (enc := encS) (y := (a, a + gap)) encS_len (by decide) hs (ps := #[(0, .agg #[.int .i64 a, .int .i64 (IntKind.wrap .i64 (a + gap))])]) (bs1 rfl (by decide) (by decide)) ?_ (encS_one _) (by omega) (by omega) (fun z w' hs => ⟨trivial, ?_⟩) fun _ _ => trivial
            · show [Value.int .i64 a, Value.int .i64 (IntKind.wrap .i64 (a + gap))] = _
              rw [hgd]; rfl
            · refine wp_leave ⟨(z, ()), rfl, z, rfl, ?_⟩
              have : sessN gap ys 1 = sessN gap ys 0 ++ [(a, a + gap)] := by rw [← hai]; simp [sessN]
              rw [this]; exact hs
          · rintro _ w' ⟨z, rfl, hs⟩
            exact wp_lt (wp_leave ⟨(z, a, ()), rfl, hfin z w' hs⟩)
        · obtain ⟨A, s, ho⟩ := sess_ok hg.1 hso i (by omega) (by omega)
          have hbp := hb (i - 1) (by omega)
          have heq := ho.eq
          generalize hp : ys.getD (i - 1) 0 = p at *
          have hLl : (sessN gap ys i).length = A.length + 1 := by rw [heq]; simp
          obtain ⟨b, hzb, hzel⟩ := hs.rd.el (enc := encS) encS_len (by omega)
          have hA1 : A.length < (sessN gap ys i).length := by omega
          have hLA : (sessN gap ys i)[A.length] = (s, p + gap) := by
            have : (sessN gap ys i)[A.length]? = some (s, p + gap) := by rw [heq]; simp
            rw [List.getElem?_eq_getElem hA1] at this
            exact Option.some.inj this
          have ew : IntKind.wrap .i64 (((z.len : Nat) : Int) - 1) = ((A.length : Nat) : Int) := by rw [w64 (by omega) (by omega)]; omega
          refine wp_ex (b, ()) (fun _ => ⟨by dsimp only; rw [ew]; omega, by dsimp only; rw [ew]; omega, hzb⟩) ?_
          refine wp_read (p + gap, ()) (fun _ => ?_) ?_
          · rw [ew]
            have := hzel A.length hA1
            rw [hLA] at this
            exact At.fld this rfl
          refine wp_mid (fun v w' => ∃ z : Sl, v = (z, ()) ∧ Sat w' (rspans z (sessN gap ys (i + 1)) :: l)) ?_ ?_
          · refine wp_ite (fun h => ?_) fun h => ?_
            · have h : (decide (((z.len : Nat) : Int) > 0) && decide (a < p + gap)) = true := h
              simp only [Bool.and_eq_true, decide_eq_true_eq] at h
              refine wp_ex (b, ()) ⟨by dsimp only; rw [ew]; omega, by dsimp only; rw [ew]; omega, hzb⟩ ?_
              refine wp_stF (x := z) (i := A.length) (j := 1) (y := (s, a + gap)) encS_len hs hzb hA1 (by decide) (fun b o h => ?_) rfl rfl ?_ fun w' hs => ⟨trivial, ?_⟩
              · subst h
                rw [ew, Int.toNat_natCast]
                show Addr.add (Addr.add ⟨b, o, none⟩ (A.length * 2)) 1 = _
                rw [add_mk, add_mk, Nat.add_assoc]
              · rw [hLA]
                show _ = [Value.int .i64 s, Value.int .i64 (IntKind.wrap .i64 (a + gap))]
                rw [hgd]; rfl
              · refine wp_leave ⟨(z, ()), rfl, z, rfl, ?_⟩
                have : sessN gap ys (i + 1) = (sessN gap ys i).set A.length (s, a + gap) := by
                  rw [sessN, if_pos ⟨by omega, by rw [hai, hp]; omega⟩, heq, setEnd_append, hai, List.set_append, if_neg (Nat.lt_irrefl _), Nat.sub_self]; rfl
                rw [this]; exact hs
            · have h : (decide (((z.len : Nat) : Int) > 0) && decide (a < p + gap)) = false := h
              rw [decide_eq_true (show ((z.len : Nat) : Int) > 0 by omega), Bool.true_and] at h
              have h := of_decide_eq_false h
              refine wp_apE (enc := encS) (y := (a, a + gap)) encS_len (by decide) hs (ps := #[(0, .agg #[.int .i64 a, .int .i64 (IntKind.wrap .i64 (a + gap))])]) (bs1 rfl (by decide) (by decide)) ?_ (encS_one _) (by omega) (by omega) (fun z w' hs => ⟨trivial, ?_⟩) fun _ _ => trivial
              · show [Value.int .i64 a, Value.int .i64 (IntKind.wrap .i64 (a + gap))] = _
                rw [hgd]; rfl
              · refine wp_leave ⟨(z, ()), rfl, z, rfl, ?_⟩
                have : sessN gap ys (i + 1) = sessN gap ys i ++ [(a, a + gap)] := by rw [sessN, if_neg (by rw [hai, hp]; omega), hai]
                rw [this]; exact hs
          · rintro _ w' ⟨z, rfl, hs⟩
            exact wp_lt (wp_leave ⟨(z, a, ()), rfl, hfin z w' hs⟩)
    · rintro _ w' ⟨z, i', m', rfl, h1, h2, h3, h4, h5, hs⟩
      exact wp_leave ⟨(z, m', ()), ys.length - i', by omega, rfl, z, i', m', rfl, h2, rfl, h3, h4, h5, hs⟩

end
end Go.Dec
