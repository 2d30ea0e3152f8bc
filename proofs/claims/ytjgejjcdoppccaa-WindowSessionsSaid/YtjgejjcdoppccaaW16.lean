/- Windows: the law of Session. -/
import Derived.Test.YtjgejjcdoppccaaW15
namespace Go.Dec
set_option linter.unusedVariables false
set_option linter.unusedSimpArgs false

theorem Rd.take {w : World} {x : Sl} {xs : List Int} (h : Rd w 1 x (xs.flatMap fun n => [Value.int .i64 n])) (n cap : Nat) (hn : n ≤ xs.length) : Rd w 1 ⟨x.a, n, cap⟩ ((xs.take n).flatMap fun n => [Value.int .i64 n]) := by
  have hl : ∀ zs : List Int, (zs.flatMap fun n => [Value.int .i64 n]) = zs.map (Value.int .i64) := fun zs => by induction zs with
    | nil => rfl
    | cons z r ih => rw [List.flatMap_cons, ih]; rfl
  rw [hl] at h ⊢
  obtain ⟨h1, h2⟩ := h
  refine ⟨by simp; omega, ?_⟩
  rcases h2 with h2 | ⟨b, off, arr, T, fr, ha, hb, hc⟩
  · left
    simp only [List.length_map] at h1
    show n = 0
    omega
  · refine .inr ⟨b, off, arr, T, fr, ha, hb, fun i hi => ?_⟩
    simp only [List.length_map, List.length_take] at hi
    rw [hc i (by simp; omega)]
    simp only [List.getElem?_map]
    rw [List.getElem?_take, if_pos (by omega)]

section
variable {w : World} {l r : List HP}

theorem sessions_law (gap : Int) (t : Sl) (xs0 : List Int) (hcap : t.len ≤ t.cap) (hr0 : ∀ w, Sat w l → Rd w 1 t (xs0.flatMap fun n => [.int .i64 n])) (hs : Sat w l) :
    Ret P F.towpathlaw21_WindowSessions #[.int .i64 gap, t.v] w fun vs w' => vs = [.bool true] ∧ Sat w' l :=
  towpathlaw21_WindowSessions_calls gap t <| by
    unfold towpathlaw21_WindowSessions
    have htl0 : t.len = xs0.length := (hr0 _ hs).len (enc := fun n : Int => [Value.int .i64 n]) int_len (by decide)
    refine wp_mid (fun v w' => ∃ (x : Sl) (xs : List Int), v = (x, ()) ∧ xs.length ≤ 40 ∧ (∀ w, Sat w l → Rd w 1 x (xs.flatMap fun n => [.int .i64 n])) ∧ Sat w' l) ?_ ?_
    · refine wp_ite (fun h => ?_) fun h => ?_
      · have h : ((t.len : Nat) : Int) > 40 := of_decide_eq_true h
        refine wp_must (by omega) ?_
        exact wp_leave ⟨(⟨t.a, 40, t.cap⟩, ()), rfl, _, xs0.take 40, rfl, by simp; omega, fun w h => (hr0 w h).take 40 t.cap (by omega), hs⟩
      · have h : ¬ ((t.len : Nat) : Int) > 40 := of_decide_eq_false h
        exact wp_leave ⟨(t, ()), rfl, t, xs0, rfl, by omega, hr0, hs⟩
    clear hs htl0 hr0 hcap
    rintro _ w ⟨t, xs, rfl, hlen, hr, hs⟩
    have htl : t.len = xs.length := (hr _ hs).len (enc := fun n : Int => [Value.int .i64 n]) int_len (by decide)
    have hSl : (sessF gap xs).length < 1000 := by
      unfold sessF
      split
      · have := (sessN_length gap (sortT xs) (sortT xs).length).1
        have h2 : (sortT xs).length ≤ xs.length := by rw [(sortT_perm xs).length_eq]; exact List.length_filter_le _ _
        omega
      · simp
    refine wp_call (session_c gap t xs (by omega) hr hs) fun vs w' h => ?_
    obtain ⟨x1, rfl, hs⟩ := h
    refine ⟨(x1, ()), rfl, trivial, ?_⟩
    refine wp_call (rsession_c gap t xs (by omega) (fun w h => hr w h.tail) hs) fun vs w' h => ?_
    obtain ⟨x2, rfl, hs⟩ := h
    refine ⟨(x2, ()), rfl, trivial, ?_⟩
    have hs : Sat w' (spans x1 (sessF gap xs) :: rspans x2 (sessF gap xs) :: l) := hs.focS x1
    refine wp_callS (true, ()) (spans_c x1 x2 _ _ (by omega) hs) (by simp; rfl) fun w' hs => ⟨trivial, ?_⟩
    have hs := (hs.focS x2).tail
    refine wp_ite_f rfl ?_
    refine wp_mid (fun v w' => ∃ z : Sl, v = (z, ()) ∧ Sat w' (ints z xs.reverse :: spans x1 (sessF gap xs) :: l)) ?_ ?_
    · refine wp_loop (fun n v w => ∃ (z : Sl) (i : Nat), v = (z, (i : Int), ()) ∧ i ≤ xs.length ∧ xs.length - i = n ∧ Sat w (ints z (xs.reverse.take i) :: spans x1 (sessF gap xs) :: l)) xs.length ⟨⟨none, 0, 0⟩, 0, rfl, by omega, by omega, hs.slc_nil⟩ ?_
      clear hs
      rintro n _ w ⟨z, i, rfl, hi, hn, hs⟩
      refine wp_ite (fun hc => ?_) fun hc => ?_
      · have hc : (i : Int) < ((t.len : Nat) : Int) := of_decide_eq_true hc
        obtain ⟨b, hb, hel⟩ := (hr _ hs.tail.tail).el (enc := fun n : Int => [Value.int .i64 n]) int_len (by omega)
        have hk : xs.length - 1 - i < xs.length := by omega
        have ew : IntKind.wrap .i64 (IntKind.wrap .i64 (((t.len : Nat) : Int) - 1) - (i : Int)) = ((xs.length - 1 - i : Nat) : Int) := by rw [w64 (x := ((t.len : Nat) : Int) - 1) (by omega) (by omega), w64 (by omega) (by omega)]; omega
        refine wp_lt ?_
        refine wp_ex (b, ()) ⟨by dsimp only; rw [ew]; omega, by dsimp only; rw [ew]; omega, hb⟩ ?_
        refine wp_rd (p := .int .i64) (x := xs[xs.length - 1 - i]) ?_ ?_
        · dsimp only
          rw [ew]
          exact At.ld1 (hel _ hk) rfl
        have htk : xs.reverse.take i ++ [xs[xs.length - 1 - i]] = xs.reverse.take (i + 1) := by
          rw [List.take_add_one, List.getElem?_reverse (by omega), List.getElem?_eq_getElem hk]; rfl
        refine wp_apE (enc := fun n : Int => [Value.int .i64 n]) (y := xs[xs.length - 1 - i]) int_len (by decide) hs (ps := #[(0, .int .i64 xs[xs.length - 1 - i])]) (bs1 rfl (by decide) (by decide)) rfl (int_one _) (by simp; omega) (by simp; omega) (fun z w' hs => ⟨trivial, ?_⟩) fun _ _ => trivial
        rw [htk] at hs
        refine wp_dn (us' := [z.v, .int .i64 ((i + 1 : Nat) : Int)]) (by dsimp only; rw [w64 (by omega) (by omega)]; rfl) ?_
        exact wp_leave ⟨(z, ((i + 1 : Nat) : Int), ()), xs.length - (i + 1), by omega, rfl, z, i + 1, rfl, by omega, rfl, hs⟩
      · have hc : ¬ (i : Int) < ((t.len : Nat) : Int) := of_decide_eq_false hc
        refine wp_pass ?_
        refine wp_leave ⟨(z, ()), rfl, z, rfl, ?_⟩
        rwa [List.take_of_length_le (by simp; omega)] at hs
    clear hs
    rintro _ w ⟨z, rfl, hs⟩
    refine wp_call (session_c gap z xs.reverse (by simp; omega) (fun w h => h.rd) hs) fun vs w' h => ?_
    rw [sessF_reverse] at h
    obtain ⟨x3, rfl, hs⟩ := h
    refine ⟨(x3, ()), rfl, trivial, ?_⟩
    refine wp_call (rsession_c gap t xs (by omega) (fun w h => hr w h.tail.tail.tail) hs) fun vs w' h => ?_
    obtain ⟨x4, rfl, hs⟩ := h
    refine ⟨(x4, ()), rfl, trivial, ?_⟩
    have hs : Sat w' (spans x3 (sessF gap xs) :: rspans x4 (sessF gap xs) :: ints z xs.reverse :: spans x1 (sessF gap xs) :: l) := hs.focS x3
    refine wp_callS (true, ()) (spans_c x3 x4 _ _ (by omega) hs) (by simp; rfl) fun w' hs => ⟨trivial, ?_⟩
    have hs : Sat w' (spans x1 (sessF gap xs) :: l) := hs.tail.tail.tail
    refine wp_ite_f rfl ?_
    have hxl : x1.len = (sessF gap xs).length := hs.rd.len (enc := encS) encS_len (by decide)
    refine wp_ite (fun h => ?_) fun h => ?_
    · have h : (decide (gap < 1) || decide (gap > 1099511627776)) = true := h
      have hz : isSz gap = false := by
        simp only [Bool.or_eq_true, decide_eq_true_eq] at h
        simp [isSz]; omega
      have hnil : sessF gap xs = [] := by rw [sessF, hz]; rfl
      refine wp_mid (fun v w' => v = (true, ()) ∧ Sat w' l) ?_ (by rintro _ w' ⟨rfl, hs⟩; exact ⟨rfl, rfl, hs⟩)
      refine wp_ite_t ?_ ?_
      · rw [hxl, hnil]; rfl
      refine wp_callS (true, ()) (awake _ _ hs) rfl fun w' hs => ⟨trivial, wp_lt ?_⟩
      exact wp_leave ⟨(true, ()), rfl, rfl, hs.tail⟩
    have h : (decide (gap < 1) || decide (gap > 1099511627776)) = false := h
    have hz : isSz gap = true := by simp at h; simp [isSz]; omega
    obtain ⟨hord, hlt, hcov⟩ := sessF_ord hz xs
    generalize sessF gap xs = L at *
    have hL : ∀ i (hi : i < L.length), L[i] ∈ L := fun i hi => List.getElem_mem hi
    refine wp_mid (fun v w' => Sat w' (spans x1 L :: l)) ?_ ?_
    · refine wp_loop (fun n v w => ∃ i : Nat, v = ((i : Int), ()) ∧ i ≤ L.length ∧ L.length - i = n ∧ Sat w (spans x1 L :: l)) L.length ⟨0, rfl, by omega, by omega, hs⟩ ?_
      clear hs
      rintro n _ w ⟨i, rfl, hi, hn, hs⟩
      refine wp_ite (fun hc => ?_) fun hc => ?_
      · have hc : (i : Int) < ((x1.len : Nat) : Int) := of_decide_eq_true hc
        have hil : i < L.length := by omega
        obtain ⟨b, hb, hel⟩ := hs.rd.el (enc := encS) encS_len (by omega)
        have he := hel i hil
        obtain ⟨⟨p0, p1⟩, hp⟩ : ∃ p, p = L[i] := ⟨_, rfl⟩
        rw [← hp] at he
        refine wp_ex (b, ()) ⟨by dsimp only; omega, by dsimp only; omega, hb⟩ ?_
        refine wp_rdA (ps := [.int .i64, .int .i64]) (p0, p1, ()) (At.ldA he rfl) ?_
        refine wp_newZ hs fun c w' hs => ⟨trivial, ?_⟩
        refine wp_lt ?_
        refine wp_stA (b := c) hs rfl rfl (by simp [Value.oneCell']) fun w' hs => ⟨trivial, ?_⟩
        have hs : Sat w' (sp2 T.window_Span c p0 p1 :: spans x1 L :: l) := hs
        refine wp_mid (fun v w' => v = (false, ()) ∧ Sat w' (spans x1 L :: l)) ?_ ?_
        · refine wp_tick fun w2 hw => ?_
          have hs := hs.heap hw
          refine wp_ldA (p0, p1, ()) (b := c) hs rfl rfl ?_
          by_cases h0 : i = 0
          · subst h0
            refine wp_ex (b, ()) (fun h => by have h : ((0 : Nat) : Int) > 0 := of_decide_eq_true h; omega) ?_
            refine wp_read (0, 0, ()) (fun h => by have h : ((0 : Nat) : Int) > 0 := of_decide_eq_true h; omega) ?_
            exact wp_ite_f rfl (wp_untick (wp_leave ⟨(false, ()), rfl, rfl, hs.tail⟩))
          · have ew : IntKind.wrap .i64 ((i : Int) - 1) = ((i - 1 : Nat) : Int) := by rw [w64 (by omega) (by omega)]; omega
            have hi1 : i - 1 < L.length := by omega
            have hto := List.pairwise_iff_getElem.1 hord (i - 1) i hi1 hil (by omega)
            rw [← hp] at hto
            obtain ⟨⟨q0, q1⟩, hq⟩ : ∃ p, p = L[i - 1] := ⟨_, rfl⟩
            rw [← hq] at hto
            have hto : q1 ≤ p0 := hto
            obtain ⟨b2, hb2, hel2⟩ := (hs.focS x1).rd.el (enc := encS) encS_len (by omega)
            rw [hb] at hb2
            obtain rfl := Option.some.inj hb2
            have he2 := hel2 (i - 1) hi1
            rw [← hq] at he2
            refine wp_ex (b, ()) (fun _ => ⟨by dsimp only; rw [ew]; omega, by dsimp only; rw [ew]; omega, hb⟩) ?_
            refine wp_read (q0, q1, ()) (fun _ => ?_) ?_
            · rw [ew]; exact At.ldA he2 rfl
            refine wp_ite_t (decide_eq_true (show (i : Int) > 0 by omega)) ?_
            refine wp_callS (meetsF p0 p1 q0 q1, ()) (meets_c p0 p1 q0 q1 hs) rfl fun w' hs => ⟨trivial, ?_⟩
            obtain ⟨b3, hb3, hel3⟩ := (hs.focS x1).rd.el (enc := encS) encS_len (by omega)
            rw [hb] at hb3
            obtain rfl := Option.some.inj hb3
            have he3 := hel3 (i - 1) hi1
            rw [← hq] at he3
            refine wp_ld (x := p0) (b := c) hs rfl ?_
            refine wp_ex (b, ()) (fun _ => ⟨by dsimp only; rw [ew]; omega, by dsimp only; rw [ew]; omega, hb⟩) ?_
            refine wp_read (q1, ()) (fun _ => ?_) ?_
            · rw [ew]; exact At.fld he3 rfl
            refine wp_untick ?_
            have hm : meetsF p0 p1 q0 q1 = false := by
              unfold meetsF
              exact decide_eq_false (by split <;> split <;> omega)
            refine wp_dn (us' := [.bool false]) ?_ (wp_leave ⟨(false, ()), rfl, rfl, hs.tail⟩)
            show [Value.bool (meetsF p0 p1 q0 q1 || decide (p0 < q1))] = _
            rw [hm, decide_eq_false (by omega)]; rfl
        · rintro _ w' ⟨rfl, hs⟩
          refine wp_ite_f rfl ?_
          refine wp_dn (us' := [.int .i64 ((i + 1 : Nat) : Int)]) (by dsimp only; rw [w64 (by omega) (by omega)]; rfl) ?_
          exact wp_leave ⟨(((i + 1 : Nat) : Int), ()), L.length - (i + 1), by omega, rfl, i + 1, rfl, by omega, rfl, hs⟩
      · refine wp_pass ?_
        exact wp_leave ⟨(), rfl, hs⟩
    clear hs
    rintro _ w hs
    refine wp_mid (fun v w' => Sat w' (spans x1 L :: l)) ?_ ?_
    · refine wp_loop (fun n v w => ∃ i : Nat, v = ((i : Int), ()) ∧ i ≤ xs.length ∧ xs.length - i = n ∧ Sat w (spans x1 L :: l)) xs.length ⟨0, rfl, by omega, by omega, hs⟩ ?_
      clear hs
      rintro n _ w ⟨i, rfl, hi, hn, hs⟩
      refine wp_ite (fun hc => ?_) fun hc => ?_
      · have hc : (i : Int) < ((t.len : Nat) : Int) := of_decide_eq_true hc
        have hil : i < xs.length := by omega
        obtain ⟨b, hb, hel⟩ := (hr _ hs.tail).el (enc := fun n : Int => [Value.int .i64 n]) int_len (by omega)
        refine wp_mid (fun v w' => Sat w' (spans x1 L :: l)) ?_ ?_
        · refine wp_ex (b, ()) ⟨by dsimp only; omega, by dsimp only; omega, hb⟩ ?_
          refine wp_rd (p := .int .i64) (x := xs[i]) (At.ld1 (hel i hil) rfl) ?_
          refine wp_lt ?_
          refine wp_mid (fun v w' => v = (((inMany L xs[i] : Nat) : Int), ()) ∧ Sat w' (spans x1 L :: l)) ?_ ?_
          · refine wp_loop (fun n v w => ∃ j : Nat, v = (((inMany (L.take j) xs[i] : Nat) : Int), (j : Int), ()) ∧ j ≤ L.length ∧ L.length - j = n ∧ Sat w (spans x1 L :: l)) L.length ⟨0, rfl, by omega, by omega, hs⟩ ?_
            clear hs
            rintro n _ w ⟨j, rfl, hj, hn, hs⟩
            refine wp_ite (fun hc2 => ?_) fun hc2 => ?_
            · have hc2 : (j : Int) < ((x1.len : Nat) : Int) := of_decide_eq_true hc2
              have hjl : j < L.length := by omega
              obtain ⟨b2, hb2, hel2⟩ := hs.rd.el (enc := encS) encS_len (by omega)
              have he := hel2 j hjl
              obtain ⟨⟨p0, p1⟩, hp⟩ : ∃ p, p = L[j] := ⟨_, rfl⟩
              rw [← hp] at he
              refine wp_ex (b2, ()) ⟨by dsimp only; omega, by dsimp only; omega, hb2⟩ ?_
              refine wp_rdA (ps := [.int .i64, .int .i64]) (p0, p1, ()) (At.ldA he rfl) ?_
              refine wp_newZ hs fun c w' hs => ⟨trivial, ?_⟩
              refine wp_stA (b := c) hs rfl rfl (by simp [Value.oneCell']) fun w' hs => ⟨trivial, ?_⟩
              refine wp_ldA (p0, p1, ()) (b := c) hs rfl rfl ?_
              refine wp_callS (hasF p0 p1 xs[i], ()) (has_c p0 p1 xs[i] hs) rfl fun w' hs => ⟨trivial, ?_⟩
              have hcnt : inMany (L.take (j + 1)) xs[i] = inMany (L.take j) xs[i] + if hasF p0 p1 xs[i] then 1 else 0 := by
                unfold inMany
                rw [List.take_add_one, List.getElem?_eq_getElem hjl, ← hp, List.filter_append, List.length_append]
                simp only [Option.toList_some, List.filter_cons, List.filter_nil]
                split <;> simp
              have hle : inMany (L.take j) xs[i] ≤ 1000 := Nat.le_trans (List.length_filter_le _ _) (by simp; omega)
              refine wp_mid (fun v w' => v = (((inMany (L.take (j + 1)) xs[i] : Nat) : Int), ()) ∧ Sat w' (spans x1 L :: l)) ?_ ?_
              · rw [hcnt]
                refine wp_ite (fun h3 => ?_) fun h3 => ?_
                · have h3 : hasF p0 p1 xs[i] = true := h3
                  rw [if_pos h3]
                  refine wp_lw (y := ((inMany (L.take j) xs[i] + 1 : Nat) : Int)) (by dsimp only; rw [w64 (by omega) (by omega)]; rfl) ?_
                  exact wp_leave ⟨(((inMany (L.take j) xs[i] + 1 : Nat) : Int), ()), rfl, rfl, hs.tail⟩
                · have h3 : hasF p0 p1 xs[i] = false := h3
                  rw [if_neg (by rw [h3]; simp), Nat.add_zero]
                  exact wp_leave ⟨(((inMany (L.take j) xs[i] : Nat) : Int), ()), rfl, rfl, hs.tail⟩
              · rintro _ w' ⟨rfl, hs⟩
                refine wp_dn (us' := [.int .i64 ((inMany (L.take (j + 1)) xs[i] : Nat) : Int), .int .i64 ((j + 1 : Nat) : Int)]) (by dsimp only; rw [w64 (x := (j : Int) + 1) (by omega) (by omega)]; rfl) ?_
                exact wp_leave ⟨(((inMany (L.take (j + 1)) xs[i] : Nat) : Int), ((j + 1 : Nat) : Int), ()), L.length - (j + 1), by omega, rfl, j + 1, rfl, by omega, rfl, hs⟩
            · have hc2 : ¬ (j : Int) < ((x1.len : Nat) : Int) := of_decide_eq_false hc2
              refine wp_pass ?_
              refine wp_leave ⟨(((inMany (L.take j) xs[i] : Nat) : Int), ()), rfl, ?_, hs⟩
              rw [List.take_of_length_le (by omega)]
          · rintro _ w' ⟨rfl, hs⟩
            refine wp_ite_f ?_ (wp_leave ⟨(), rfl, hs⟩)
            show (isT xs[i] && ((inMany L xs[i] : Nat) : Int) != 1) = false
            cases hv : isT xs[i] with
            | false => rfl
            | true =>
              rw [inMany_one hord hlt (hcov _ (List.getElem_mem hil) hv)]
              rfl
        · rintro _ w' hs
          refine wp_dn (us' := [.int .i64 ((i + 1 : Nat) : Int)]) (by dsimp only; rw [w64 (by omega) (by omega)]; rfl) ?_
          exact wp_leave ⟨(((i + 1 : Nat) : Int), ()), xs.length - (i + 1), by omega, rfl, i + 1, rfl, by omega, rfl, hs⟩
      · refine wp_pass ?_
        exact wp_leave ⟨(), rfl, hs⟩
    clear hs
    rintro _ w hs
    refine wp_callS (true, ()) (awake _ _ hs) rfl fun w' hs => ⟨trivial, wp_lt ?_⟩
    exact ⟨rfl, rfl, hs.tail⟩

end
end Go.Dec
