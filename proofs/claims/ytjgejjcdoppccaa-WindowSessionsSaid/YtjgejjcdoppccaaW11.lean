/- Windows: Closed; the law of Has, Meets and Closed. -/
import Derived.Test.YtjgejjcdoppccaaW10
namespace Go.Dec
set_option linter.unusedVariables false
set_option linter.unusedSimpArgs false

def fit (n : Int) : Prop := -9223372036854775808 ≤ n ∧ n < 9223372036854775808
def closedF (s1 g now : Int) : Bool := decide (s1 + (if 0 > g then 0 else g) ≤ now)

section
variable {w : World} {l r : List HP}

theorem closed_c (s0 s1 g now : Int) (h1 : fit s1) (h2 : fit g) (h3 : fit now) (hs : Sat w l) : Ret P F.window_Span_Closed #[.agg #[.int .i64 s0, .int .i64 s1], .int .i64 g, .int .i64 now] w fun vs w' => vs = [.bool (closedF s1 g now)] ∧ Sat w' l :=
  window_Span_Closed_calls s0 s1 g now <| by
    unfold window_Span_Closed
    unfold fit at h1 h2 h3
    refine wp_box hs fun b w' hs => ?_
    obtain ⟨g', hg'⟩ : ∃ g', g' = if 0 > g then 0 else g := ⟨_, rfl⟩
    have hg0 : 0 ≤ g' ∧ g' < 9223372036854775808 := by rw [hg']; split <;> omega
    refine wp_lw (y := g') hg'.symm ?_
    unfold closedF
    rw [← hg']
    refine wp_ite (fun hc => ?_) fun hc => ?_
    · have hc : now < 0 := of_decide_eq_true hc
      refine wp_ld (x := s1) hs rfl ?_
      refine wp_ld (x := s1) hs rfl ?_
      refine wp_lt ?_
      refine ⟨rfl, ?_, hs.tail⟩
      congr 2
      by_cases h : s1 ≤ now
      · rw [w64 (by omega) (by omega), decide_eq_true h, Bool.true_and]
        rw [decide_eq_decide]; omega
      · rw [decide_eq_false h, Bool.false_and]
        exact (decide_eq_false (by omega)).symm
    · have hc : ¬ now < 0 := of_decide_eq_false hc
      refine wp_ld (x := s1) hs rfl ?_
      refine wp_lt ?_
      refine ⟨rfl, ?_, hs.tail⟩
      congr 2
      rw [w64 (by omega) (by omega), decide_eq_decide]; omega

theorem tmod40 (n : Int) : -1099511627776 < Int.tmod n 1099511627776 ∧ Int.tmod n 1099511627776 < 1099511627776 := by
  have a1 := Int.tmod_lt_of_pos n (b := 1099511627776) (by omega)
  have a2 := Int.lt_tmod_of_pos n (b := 1099511627776) (by omega)
  omega

abbrev sp2 (T : TypeId) (a : Nat) (x y : Int) : HP := pt a (.cells #[.int .i64 x, .int .i64 y] T)

theorem meets_law (a0 a1 b0 b1 t g now on : Int) (ha1 : fit a1) (hg : fit g) (hn : fit now) (ho : fit on) (hs : Sat w l) :
    Ret P F.towpathlaw21_WindowMeets #[.agg #[.int .i64 a0, .int .i64 a1], .agg #[.int .i64 b0, .int .i64 b1], .int .i64 t, .int .i64 g, .int .i64 now, .int .i64 on] w fun vs w' => vs = [.bool true] ∧ Sat w' l :=
  towpathlaw21_WindowMeets_calls a0 a1 b0 b1 t g now on <| by
    unfold towpathlaw21_WindowMeets
    refine wp_box hs fun a w' hs => ?_
    refine wp_box hs fun b w' hs => ?_
    have hs : Sat w' (sp2 T.towpathref21_Span b b0 b1 :: sp2 T.towpathref21_Span a a0 a1 :: l) := hs
    refine wp_mid (fun v w' => ∃ p q : Nat, v = (⟨p, 0, none⟩, ⟨q, 0, none⟩, ()) ∧ Sat w' (sp2 T.window_Span p a0 a1 :: sp2 T.window_Span q b0 b1 :: sp2 T.towpathref21_Span b b0 b1 :: sp2 T.towpathref21_Span a a0 a1 :: l)) ?_ ?_
    · refine wp_tick fun w2 hw => ?_
      have hs := hs.heap hw
      refine wp_hd (x := a0) hs rfl ?_
      refine wp_hd (x := a1) hs rfl ?_
      refine wp_hd (x := b0) hs rfl ?_
      refine wp_hd (x := b1) hs rfl ?_
      refine wp_both ?_ ?_
      · refine wp_newZ hs fun p w' hs => ⟨?_, ?_⟩
        · repeat' (first | exact trivial | exact run_ldF hs rfl | refine ⟨?_, fun _ => ?_⟩)
        refine wp_newZ hs fun q w' hs => ⟨?_, ?_⟩
        · repeat' (first | exact trivial | exact run_ldF hs rfl | refine ⟨?_, fun _ => ?_⟩)
        refine wp_stA (b := p) hs rfl rfl (by simp [Value.oneCell']) fun w' hs => ⟨?_, ?_⟩
        · repeat' (first | exact trivial | exact run_ldF hs rfl | refine ⟨?_, fun _ => ?_⟩)
        refine wp_untick ?_
        refine wp_stA (b := q) hs rfl rfl (by simp [Value.oneCell']) fun w' hs => ⟨trivial, ?_⟩
        exact wp_untick (wp_leave ⟨(⟨p, 0, none⟩, ⟨q, 0, none⟩, ()), rfl, p, q, rfl, hs.focB p⟩)
      · refine wp_newZ hs fun q w' hs => ⟨?_, ?_⟩
        · repeat' (first | exact trivial | exact run_ldF hs rfl | refine ⟨?_, fun _ => ?_⟩)
        refine wp_newZ hs fun p w' hs => ⟨?_, ?_⟩
        · repeat' (first | exact trivial | exact run_ldF hs rfl | refine ⟨?_, fun _ => ?_⟩)
        refine wp_stA (b := p) hs rfl rfl (by simp [Value.oneCell']) fun w' hs => ⟨?_, ?_⟩
        · repeat' (first | exact trivial | exact run_ldF hs rfl | refine ⟨?_, fun _ => ?_⟩)
        refine wp_untick ?_
        refine wp_stA (b := q) hs rfl rfl (by simp [Value.oneCell']) fun w' hs => ⟨trivial, ?_⟩
        exact wp_untick (wp_leave ⟨(⟨p, 0, none⟩, ⟨q, 0, none⟩, ()), rfl, p, q, rfl, hs.focB p⟩)
    clear hs
    rintro _ w ⟨p, q, rfl, hs⟩
    -- what a span has; meeting is the same both ways
    have m1 : meetsF b0 b1 a0 a1 = meetsF a0 a1 b0 b1 := by
      unfold meetsF; rw [decide_eq_decide]; split <;> split <;> split <;> split <;> omega
    refine wp_mid (fun v w' => v = (false, ()) ∧ Sat w' (sp2 T.window_Span p a0 a1 :: sp2 T.window_Span q b0 b1 :: sp2 T.towpathref21_Span b b0 b1 :: sp2 T.towpathref21_Span a a0 a1 :: l)) ?_ ?_
    · refine wp_tick fun w2 hw => ?_
      have hs := hs.heap hw
      refine wp_ldA (a0, a1, ()) (b := p) hs rfl rfl ?_
      refine wp_hd (x := a0) (b := a) hs rfl ?_
      refine wp_callS (hasF a0 a1 t, ()) (has_c a0 a1 t hs) rfl fun w' hs => ⟨?_, ?_⟩
      · repeat' (first | exact trivial | exact run_ldF hs rfl | refine ⟨?_, fun _ => ?_⟩)
      refine wp_ld (x := a1) (b := a) hs rfl ?_
      refine wp_ldA (a0, a1, ()) (b := p) hs rfl rfl ?_
      refine wp_ldA (b0, b1, ()) (b := q) hs rfl rfl ?_
      refine wp_hdA (b0, b1, ()) (b := q) hs rfl rfl ?_
      refine wp_hdA (a0, a1, ()) (b := p) hs rfl rfl ?_
      refine wp_ite_f ?_ ?_
      · show (!(hasF a0 a1 t == (decide (a0 ≤ t) && decide (t < a1)))) = false
        unfold hasF; simp
      refine wp_callS (meetsF a0 a1 b0 b1, ()) (meets_c a0 a1 b0 b1 hs) rfl fun w' hs => ⟨?_, ?_⟩
      · repeat' (first | exact trivial | exact run_ldF hs rfl | exact run_ldAF hs rfl rfl | refine ⟨?_, fun _ => ?_⟩)
      refine wp_callS (meetsF b0 b1 a0 a1, ()) (meets_c b0 b1 a0 a1 hs) rfl fun w' hs => ⟨trivial, ?_⟩
      refine wp_untick (wp_leave ⟨(false, ()), ?_, rfl, hs⟩)
      show [Value.bool (!(meetsF a0 a1 b0 b1 == meetsF b0 b1 a0 a1))] = _
      rw [m1]; simp; rfl
    clear hs
    rintro _ w ⟨rfl, hs⟩
    refine wp_ite_f rfl ?_
    -- what both have, they meet in
    refine wp_mid (fun v w' => v = (false, ()) ∧ Sat w' (sp2 T.window_Span p a0 a1 :: sp2 T.window_Span q b0 b1 :: sp2 T.towpathref21_Span b b0 b1 :: sp2 T.towpathref21_Span a a0 a1 :: l)) ?_ ?_
    · refine wp_ldA (a0, a1, ()) (b := p) hs rfl rfl ?_
      refine wp_callS (hasF a0 a1 t, ()) (has_c a0 a1 t hs) rfl fun w' hs => ⟨trivial, ?_⟩
      refine wp_ldA (b0, b1, ()) (b := q) hs rfl rfl ?_
      refine wp_ite (fun h1 => ?_) fun h1 => ?_
      · refine wp_callS (hasF b0 b1 t, ()) (has_c b0 b1 t hs) rfl fun w' hs => ⟨trivial, ?_⟩
        refine wp_ldA (a0, a1, ()) (b := p) hs rfl rfl ?_
        refine wp_ldA (b0, b1, ()) (b := q) hs rfl rfl ?_
        refine wp_ite (fun h2 => ?_) fun h2 => ?_
        · refine wp_callS (meetsF a0 a1 b0 b1, ()) (meets_c a0 a1 b0 b1 hs) rfl fun w' hs => ⟨trivial, ?_⟩
          have h1 : hasF a0 a1 t = true := h1
          have h2 : hasF b0 b1 t = true := h2
          have h3 : meetsF a0 a1 b0 b1 = true := by
            simp only [hasF, Bool.and_eq_true, decide_eq_true_eq] at h1 h2
            unfold meetsF
            exact decide_eq_true (by split <;> split <;> omega)
          refine wp_dn (us' := [.bool false]) (by rw [h3]; rfl) ?_
          exact wp_leave ⟨(false, ()), rfl, rfl, hs⟩
        · exact wp_leave ⟨(false, ()), rfl, rfl, hs⟩
      · exact wp_leave ⟨(false, ()), rfl, rfl, hs⟩
    clear hs
    rintro _ w ⟨rfl, hs⟩
    refine wp_ite_f rfl ?_
    -- spans that meet have a start in both
    have m2 : meetsF a0 a1 b0 b1 = true → (hasF a0 a1 a0 = true ∧ hasF b0 b1 a0 = true) ∨ (hasF a0 a1 b0 = true ∧ hasF b0 b1 b0 = true) := by
      intro h
      unfold meetsF at h
      have h := of_decide_eq_true h
      simp only [hasF, Bool.and_eq_true, decide_eq_true_eq]
      split at h <;> split at h <;> omega
    refine wp_mid (fun v w' => v = (false, ()) ∧ Sat w' (sp2 T.window_Span p a0 a1 :: sp2 T.window_Span q b0 b1 :: sp2 T.towpathref21_Span b b0 b1 :: sp2 T.towpathref21_Span a a0 a1 :: l)) ?_ ?_
    · refine wp_ldA (a0, a1, ()) (b := p) hs rfl rfl ?_
      refine wp_ldA (b0, b1, ()) (b := q) hs rfl rfl ?_
      refine wp_callS (meetsF a0 a1 b0 b1, ()) (meets_c a0 a1 b0 b1 hs) rfl fun w' hs => ⟨trivial, ?_⟩
      refine wp_ldA (a0, a1, ()) (b := p) hs rfl rfl ?_
      refine wp_ld (x := a0) (b := a) hs rfl ?_
      refine wp_ite (fun h0 => ?_) fun h0 => ?_
      · have h0 : meetsF a0 a1 b0 b1 = true := h0
        refine wp_callS (hasF a0 a1 a0, ()) (has_c a0 a1 a0 hs) rfl fun w' hs => ⟨trivial, ?_⟩
        refine wp_ldA (b0, b1, ()) (b := q) hs rfl rfl ?_
        refine wp_ld (x := a0) (b := a) hs rfl ?_
        have fin : ∀ (w : World), Sat w (sp2 T.window_Span p a0 a1 :: sp2 T.window_Span q b0 b1 :: sp2 T.towpathref21_Span b b0 b1 :: sp2 T.towpathref21_Span a a0 a1 :: l) → hasF a0 a1 b0 = true → hasF b0 b1 b0 = true → ∀ Q : Post, (∀ w', Sat w' (sp2 T.window_Span p a0 a1 :: sp2 T.window_Span q b0 b1 :: sp2 T.towpathref21_Span b b0 b1 :: sp2 T.towpathref21_Span a a0 a1 :: l) → Q 1 [.bool false] w') →
            (Prog.call F.window_Span_Has [.agg #[.int .i64 a0, .int .i64 a1], .int .i64 b0] sB (u1 fun b64 =>
              .read (b64 = true) (ld T.window_Span ⟨q, 0, none⟩) (sG [.int .i64, .int .i64]) (u2 fun (n65 : Int) (n66 : Int) => .read (b64 = true) (ld T.int64 (Addr.add ⟨b, 0, none⟩ 0)) (sI .i64) (u1 fun (n67 : Int) =>
              .ite (b64) (.call F.window_Span_Has [.agg #[.int .i64 n65, .int .i64 n66], .int .i64 n67] sB (u1 fun b68 => .done 1 [.bool (not b68)])) (.done 1 [.bool true]))))).wp P tt w Q := by
          intro w hs h5 h6 Q hQ
          refine wp_callS (hasF a0 a1 b0, ()) (has_c a0 a1 b0 hs) rfl fun w' hs => ⟨trivial, ?_⟩
          refine wp_ldA (b0, b1, ()) (b := q) hs rfl rfl ?_
          refine wp_ld (x := b0) (b := b) hs rfl ?_
          refine wp_ite_t h5 ?_
          refine wp_callS (hasF b0 b1 b0, ()) (has_c b0 b1 b0 hs) rfl fun w' hs => ⟨trivial, ?_⟩
          refine wp_dn (us' := [.bool false]) (by rw [h6]; rfl) ?_
          exact hQ w' hs
        refine wp_ite (fun h1 => ?_) fun h1 => ?_
        · have h1 : hasF a0 a1 a0 = true := h1
          refine wp_callS (hasF b0 b1 a0, ()) (has_c b0 b1 a0 hs) rfl fun w' hs => ⟨trivial, ?_⟩
          refine wp_ldA (a0, a1, ()) (b := p) hs rfl rfl ?_
          refine wp_ld (x := b0) (b := b) hs rfl ?_
          refine wp_ite (fun h2 => ?_) fun h2 => ?_
          · have h2 : (!hasF b0 b1 a0) = true := h2
            simp only [Bool.not_eq_true'] at h2
            rcases m2 h0 with ⟨_, h⟩ | ⟨h5, h6⟩
            · rw [h2] at h; cases h
            · exact fin _ hs h5 h6 _ fun w' hs => catch_here ⟨(false, ()), rfl, rfl, hs⟩
          · exact wp_leave ⟨(false, ()), rfl, rfl, hs⟩
        · have h1 : hasF a0 a1 a0 = false := h1
          refine wp_ldA (a0, a1, ()) (b := p) hs rfl rfl ?_
          refine wp_ld (x := b0) (b := b) hs rfl ?_
          refine wp_ite_t rfl ?_
          rcases m2 h0 with ⟨h, _⟩ | ⟨h5, h6⟩
          · rw [h1] at h; cases h
          · exact fin _ hs h5 h6 _ fun w' hs => catch_here ⟨(false, ()), rfl, rfl, hs⟩
      · exact wp_leave ⟨(false, ()), rfl, rfl, hs⟩
    clear hs
    rintro _ w ⟨rfl, hs⟩
    refine wp_ite_f rfl ?_
    -- what is closed stays closed
    refine wp_mid (fun v w' => v = (false, ()) ∧ Sat w' (sp2 T.window_Span p a0 a1 :: sp2 T.window_Span q b0 b1 :: sp2 T.towpathref21_Span b b0 b1 :: sp2 T.towpathref21_Span a a0 a1 :: l)) ?_ ?_
    · refine wp_ldA (a0, a1, ()) (b := p) hs rfl rfl ?_
      refine wp_ite (fun h0 => ?_) fun h0 => ?_
      · have h0 : now ≤ on := of_decide_eq_true h0
        refine wp_callS (closedF a1 g now, ()) (closed_c a0 a1 g now ha1 hg hn hs) rfl fun w' hs => ⟨trivial, ?_⟩
        refine wp_ldA (a0, a1, ()) (b := p) hs rfl rfl ?_
        refine wp_ite (fun h1 => ?_) fun h1 => ?_
        · have h1 : closedF a1 g now = true := h1
          have h1 := of_decide_eq_true h1
          refine wp_callS (closedF a1 g on, ()) (closed_c a0 a1 g on ha1 hg ho hs) rfl fun w' hs => ⟨trivial, ?_⟩
          have h2 : closedF a1 g on = true := decide_eq_true (by omega)
          refine wp_dn (us' := [.bool false]) (by rw [h2]; rfl) ?_
          exact wp_leave ⟨(false, ()), rfl, rfl, hs⟩
        · exact wp_leave ⟨(false, ()), rfl, rfl, hs⟩
      · exact wp_leave ⟨(false, ()), rfl, rfl, hs⟩
    clear hs
    rintro _ w ⟨rfl, hs⟩
    refine wp_ite_f rfl ?_
    -- none is closed ahead of its end; without grace it is closed at its end
    refine wp_mid (fun v w' => v = (false, ()) ∧ Sat w' (sp2 T.window_Span p a0 a1 :: sp2 T.window_Span q b0 b1 :: sp2 T.towpathref21_Span b b0 b1 :: sp2 T.towpathref21_Span a a0 a1 :: l)) ?_ ?_
    · refine wp_tick fun w2 hw => ?_
      have hs := hs.heap hw
      refine wp_ldA (a0, a1, ()) (b := p) hs rfl rfl ?_
      refine wp_callS (closedF a1 g now, ()) (closed_c a0 a1 g now ha1 hg hn hs) rfl fun w' hs => ⟨trivial, ?_⟩
      refine wp_ld (x := a1) (b := a) hs rfl ?_
      refine wp_ldA (a0, a1, ()) (b := p) hs rfl rfl ?_
      refine wp_hd (x := a1) (b := a) hs rfl ?_
      refine wp_ite_f ?_ ?_
      · show (closedF a1 g now && decide (now < a1)) = false
        cases hc : closedF a1 g now with
        | false => rfl
        | true =>
          have hc := of_decide_eq_true hc
          rw [Bool.true_and]
          exact decide_eq_false (by split at hc <;> omega)
      refine wp_ite (fun h1 => ?_) fun h1 => ?_
      · have h1 : g ≤ 0 := of_decide_eq_true h1
        refine wp_callS (closedF a1 g now, ()) (closed_c a0 a1 g now ha1 hg hn hs) rfl fun w' hs => ⟨?_, ?_⟩
        · repeat' (first | exact trivial | exact run_ldF hs rfl | exact run_ldAF hs rfl rfl | refine ⟨?_, fun _ => ?_⟩)
        refine wp_untick ?_
        have h2 : closedF a1 g now = decide (a1 ≤ now) := by unfold closedF; rw [decide_eq_decide]; split <;> omega
        refine wp_dn (us' := [.bool false]) (by rw [h2]; simp) ?_
        exact wp_leave ⟨(false, ()), rfl, rfl, hs⟩
      · exact wp_untick (wp_leave ⟨(false, ()), rfl, rfl, hs⟩)
    clear hs
    rintro _ w ⟨rfl, hs⟩
    refine wp_ite_f rfl ?_
    -- and for lesser numbers, in plain words
    obtain ⟨z1, z2⟩ := tmod40 a1
    obtain ⟨y1, y2⟩ := tmod40 g
    obtain ⟨x1, x2⟩ := tmod40 now
    refine wp_ld (x := a0) (b := a) hs rfl ?_
    refine wp_ld (x := a1) (b := a) hs rfl ?_
    refine wp_newZ hs fun c w' hs => ⟨trivial, ?_⟩
    refine wp_stA (b := c) hs rfl rfl (by simp [Value.oneCell']) fun w' hs => ⟨trivial, ?_⟩
    refine wp_lt ?_
    have hs : Sat w' (sp2 T.window_Span c (Int.tmod a0 1099511627776) (Int.tmod a1 1099511627776) :: sp2 T.window_Span p a0 a1 :: sp2 T.window_Span q b0 b1 :: sp2 T.towpathref21_Span b b0 b1 :: sp2 T.towpathref21_Span a a0 a1 :: l) := hs
    refine wp_mid (fun v w' => v = (if 0 > Int.tmod g 1099511627776 then 0 else Int.tmod g 1099511627776, ()) ∧ Sat w' (sp2 T.window_Span c (Int.tmod a0 1099511627776) (Int.tmod a1 1099511627776) :: sp2 T.window_Span p a0 a1 :: sp2 T.window_Span q b0 b1 :: sp2 T.towpathref21_Span b b0 b1 :: sp2 T.towpathref21_Span a a0 a1 :: l)) ?_ ?_
    · refine wp_ite (fun h => ?_) fun h => ?_
      · have h : Int.tmod g 1099511627776 < 0 := of_decide_eq_true h
        exact wp_leave ⟨(0, ()), rfl, by rw [if_pos h], hs⟩
      · have h : ¬ Int.tmod g 1099511627776 < 0 := of_decide_eq_false h
        exact wp_leave ⟨(Int.tmod g 1099511627776, ()), rfl, by rw [if_neg h], hs⟩
    clear hs
    rintro _ w ⟨rfl, hs⟩
    refine wp_mid (fun v w' => v = (true, ()) ∧ Sat w' l) ?_ (by rintro _ w' ⟨rfl, hs⟩; exact ⟨rfl, rfl, hs⟩)
    refine wp_tick fun w2 hw => ?_
    have hs := hs.heap hw
    refine wp_ldA (Int.tmod a0 1099511627776, Int.tmod a1 1099511627776, ()) (b := c) hs rfl rfl ?_
    refine wp_hd (x := Int.tmod a1 1099511627776) (b := c) hs rfl ?_
    refine wp_callS (closedF (Int.tmod a1 1099511627776) (Int.tmod g 1099511627776) (Int.tmod now 1099511627776), ()) (closed_c (Int.tmod a0 1099511627776) (Int.tmod a1 1099511627776) (Int.tmod g 1099511627776) (Int.tmod now 1099511627776) ⟨by omega, by omega⟩ ⟨by omega, by omega⟩ ⟨by omega, by omega⟩ hs) rfl fun w' hs => ⟨?_, ?_⟩
    · repeat' (first | exact trivial | exact run_ldF hs rfl | exact run_ldAF hs rfl rfl | refine ⟨?_, fun _ => ?_⟩)
    refine wp_untick ?_
    refine wp_ite_t ?_ ?_
    · show (closedF (Int.tmod a1 1099511627776) (Int.tmod g 1099511627776) (Int.tmod now 1099511627776) == decide (IntKind.wrap .i64 (Int.tmod a1 1099511627776 + (if 0 > Int.tmod g 1099511627776 then 0 else Int.tmod g 1099511627776)) ≤ Int.tmod now 1099511627776)) = true
      rw [w64 (by split <;> omega) (by split <;> omega)]
      unfold closedF
      simp
    refine wp_callS (true, ()) (awake _ _ hs) rfl fun w' hs => ⟨trivial, wp_lt ?_⟩
    exact wp_untick (wp_leave ⟨(true, ()), rfl, rfl, hs.tail.tail.tail.tail.tail⟩)

end
end Go.Dec
