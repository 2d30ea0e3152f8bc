/- Sorting, part P: pdqsort sorts. -/
import Derived.Test.YtpjfebedfejmgaaSortH
namespace Go.Dec
set_option linter.unusedVariables false
set_option linter.unusedSimpArgs false

section
variable {P : Program} {I : SortI} {lt : I.E → I.E → Bool} {w : World} {l : List HP} {Q : Post} {d : Sl} {xs ys zs us : List I.E}

theorem ltAt_out {a b p q : Nat} (h : Sw a b xs ys) (hp : p < a ∨ b ≤ p) (hq : q < a ∨ b ≤ q) : ltAt lt ys p q = ltAt lt xs p q := by
  unfold ltAt; rw [h.out hp, h.out hq]

theorem SortedR.out {a b c e : Nat} (h : SortedR lt xs c e) (hs : Sw a b xs ys) (hd : e ≤ a ∨ b ≤ c) : SortedR lt ys c e := fun p q h1 h2 h3 => by
  rw [ltAt_out hs (by omega) (by omega)]; exact h p q h1 h2 h3

def PartQ (lt : I.E → I.E → Bool) (vs : List I.E) (a b m : Nat) : Prop := (∀ k, a ≤ k → k < m → ltAt lt vs m k = false) ∧ (∀ k, m < k → k < b → ltAt lt vs k m = false)

theorem PartQ.left {a b m : Nat} (h : PartQ lt xs a b m) (hm : m ≤ xs.length) (hs : Sw a m xs ys) : PartQ lt ys a b m :=
  ⟨hs.outer' hm (.inr (by omega)) h.1, fun k h1 h2 => by rw [ltAt_out hs (by omega) (by omega)]; exact h.2 k h1 h2⟩
theorem PartQ.right {a b m : Nat} (h : PartQ lt xs a b m) (hb : b ≤ xs.length) (hs : Sw (m + 1) b xs ys) : PartQ lt ys a b m :=
  ⟨fun k h1 h2 => by rw [ltAt_out hs (by omega) (by omega)]; exact h.1 k h1 h2, fun k h1 h2 => hs.outer hb (.inl (by omega)) (fun k k1 k2 => h.2 k (by omega) k2) k (by omega) h2⟩

theorem sorted_parts (lo : LtOk lt) {a b m : Nat} (hm : m < xs.length) (h : PartQ lt xs a b m) (h1 : SortedR lt xs a m) (h2 : SortedR lt xs (m + 1) b) : SortedR lt xs a b := by
  intro p q hp hpq hq
  by_cases c1 : q < m
  · exact h1 p q hp hpq c1
  by_cases c2 : m < p
  · exact h2 p q (by omega) hpq hq
  by_cases c3 : q = m
  · subst c3; exact h.1 p hp hpq
  by_cases c4 : p = m
  · subst c4; exact h.2 q hpq hq
  exact lo.transAt hm (h.2 q (by omega) hq) (h.1 p hp (by omega))

/-- Where the sort of [a, b) stands while it works on [c, e). -/
structure Stand (lt : I.E → I.E → Bool) (xs : List I.E) (a b : Nat) (ys : List I.E) (c e : Nat) : Prop where
  h1 : a ≤ c
  h2 : c ≤ e
  h3 : e ≤ b
  sw : Sw a b xs ys
  pre : Pre lt ys c e
  fin : ∀ zs, Sw c e ys zs → SortedR lt zs c e → SortedR lt zs a b

theorem Stand.step {a b c e : Nat} (h : Stand lt xs a b ys c e) (hb : b ≤ xs.length) (hs : Sw c e ys zs) : Stand lt xs a b zs c e :=
  ⟨h.h1, h.h2, h.h3, h.sw.trans (hs.mono h.h1 h.h3), h.pre.sw (by rw [h.sw.length]; have := h.h3; omega) hs, fun us h1 h2 => h.fin us (hs.trans h1) h2⟩

theorem Stand.end {a b c e : Nat} (h : Stand lt xs a b ys c e) (hs : Sw c e ys zs) (hso : SortedR lt zs c e) : Sw a b xs zs ∧ SortedR lt zs a b :=
  ⟨h.sw.trans (hs.mono h.h1 h.h3), h.fin zs hs hso⟩

theorem Stand.equals (lo : LtOk lt) {a b c e p m : Nat} (h : Stand lt xs a b ys c e) (hb : b ≤ xs.length) (hc : 0 < c) (hp : ltAt lt ys (c - 1) p = false) (hs : Sw c e ys zs) (he : zs[c]? = ys[p]?) (h1 : c < m) (h2 : m ≤ e)
    (h3 : ∀ k, c + 1 ≤ k → k < m → ltAt lt zs c k = false) (h4 : ∀ k, m ≤ k → k < e → ltAt lt zs c k = true) : Stand lt xs a b zs m e := by
  have hst := h.step hb hs
  obtain ⟨g1, g2, g3, gsw, gpre, gfin⟩ := hst
  have hl := gsw.length
  have h3' : ∀ k, c ≤ k → k < m → ltAt lt zs c k = false := fun k k1 k2 => if hk : k = c then by subst hk; exact lo.irrefl _ else h3 k (by omega) k2
  have h4' : ∀ k, m ≤ k → k < e → ltAt lt zs k c = false := fun k k1 k2 => lo.asymmAt (h4 k k1 k2)
  have hcc : ltAt lt zs (c - 1) c = false := by
    unfold ltAt at *
    rw [hs.out (k := c - 1) (by omega), he]; exact hp
  have hkp : ∀ k p, m ≤ k → k < e → c ≤ p → p < m → ltAt lt zs k p = false := fun k p k1 k2 p1 p2 => lo.transAt (q := c) (by omega) (h4' k k1 k2) (h3' p p1 p2)
  refine ⟨by omega, h2, g3, gsw, fun _ k k1 k2 => hkp k (m - 1) k1 k2 (by omega) (by omega), fun us hu hso => gfin us (hu.mono (by omega) (Nat.le_refl _)) fun p q p1 p2 p3 => ?_⟩
  by_cases c1 : q < m
  · rw [ltAt_out hu (by omega) (by omega)]
    exact lo.transAt (q := c - 1) (by omega) (gpre hc q (by omega) (by omega)) (lo.transAt (q := c) (by omega) hcc (h3' p p1 (by omega)))
  by_cases c2 : p < m
  · exact hu.outer (by omega) (.inl c2) (fun k k1 k2 => hkp k p k1 k2 p1 c2) q (by omega) p3
  · exact hso p q (by omega) p2 p3

theorem pdq_c (ok : I.Ok P lt) (im : I.Impl P) (ok2 : I.Ok2 P) (lo : LtOk lt) (x0 : I.E) : ∀ (N a b : Nat) (lim : Int) {w : World} {l : List HP} {d : Sl} {xs : List I.E}, b - a ≤ N → a ≤ b → b ≤ xs.length → xs.length < 576460752303423488 → Pre lt xs a b → Sat w (I.arr d xs :: l) →
    Ret P I.f_pdq ([d.v, .int .i64 a, .int .i64 b, .int .i64 lim] ++ I.ex).toArray w fun vs w' => vs = [] ∧ ∃ ys, Sw a b xs ys ∧ SortedR lt ys a b ∧ Sat w' (I.arr d ys :: l) := by
  intro N
  induction N using Nat.strongRecOn with
  | _ N ih =>
  intro a b lim w l d xs hN hab hb h63 hpre hs
  refine im.pdq ?_
  unfold SortI.pdq
  refine wp_loop (fun n v w => ∃ (c e : Nat) (lim : Int) (wb wp : Bool) (ys : List I.E), v = ((c : Int), (e : Int), lim, wb, wp, ()) ∧ e - c = n ∧ Stand lt xs a b ys c e ∧ Sat w (I.arr d ys :: l)) (b - a) ⟨a, b, lim, true, true, xs, rfl, rfl, ⟨by omega, hab, by omega, .refl _, hpre, fun _ _ h => h⟩, hs⟩ ?_
  clear hs
  rintro n _ w ⟨c, e, lim, wb, wp, ys, rfl, hn, hst, hs⟩
  have hce := hst.h2
  have heb := hst.h3
  have hac := hst.h1
  have hyl := hst.sw.length
  refine wp_mid (fun v w' => ∃ (c' e' : Nat) (lim : Int) (wb wp : Bool) (ys : List I.E), v = ((c' : Int), (e' : Int), lim, wb, wp, ()) ∧ e' - c' < e - c ∧ Stand lt xs a b ys c' e' ∧ Sat w' (I.arr d ys :: l)) ?_ (by
    rintro _ w' ⟨c', e', lim, wb, wp, ys, rfl, hlt, hst, hs⟩
    exact wp_leave ⟨((c' : Int), (e' : Int), lim, wb, wp, ()), e' - c', by omega, rfl, c', e', lim, wb, wp, ys, rfl, rfl, hst, hs⟩)
  refine wp_lw (y := ((e - c : Nat) : Int)) (by dsimp only; rw [w64 (by omega) (by omega)]; omega) ?_
  refine wp_ite (fun hc => ?_) fun hc => ?_
  · refine wp_call (im.ins (ins_c ok lo x0 c e hce (by omega) (by omega) hs)) fun vs w' h => ?_
    obtain ⟨rfl, zs, hsw, hso, hs⟩ := h
    refine ⟨(), rfl, trivial, ?_⟩
    refine wp_pass ?_
    refine wp_pass ?_
    exact ⟨rfl, rfl, zs, (hst.end hsw hso).1, (hst.end hsw hso).2, hs⟩
  have hc : ¬ ((e - c : Nat) : Int) ≤ 12 := of_decide_eq_false hc
  refine wp_ite (fun hc2 => ?_) fun hc2 => ?_
  · refine wp_callS () (heap_c ok im lo x0 c e hce (by omega) (by omega) hs) rfl fun w' h => ?_
    obtain ⟨zs, hsw, hso, hs⟩ := h
    refine ⟨trivial, ?_⟩
    refine wp_pass ?_
    refine wp_pass ?_
    exact ⟨rfl, rfl, zs, (hst.end hsw hso).1, (hst.end hsw hso).2, hs⟩
  refine wp_mid (fun v w' => ∃ (lim : Int) (ys : List I.E), v = (lim, ()) ∧ Stand lt xs a b ys c e ∧ Sat w' (I.arr d ys :: l)) ?_ ?_
  · refine wp_ite (fun hc3 => ?_) fun hc3 => ?_
    · refine wp_callS () (brk_c ok im ok2 c e hce (by omega) (by omega) hs) rfl fun w' h => ?_
      obtain ⟨zs, hsw, hs⟩ := h
      refine ⟨trivial, wp_lt ?_⟩
      exact wp_leave ⟨(_, ()), rfl, _, zs, rfl, hst.step hb hsw, hs⟩
    · exact wp_leave ⟨(lim, ()), rfl, lim, ys, rfl, hst, hs⟩
  clear hs hst hyl
  rintro _ w ⟨lim, ys, rfl, hst, hs⟩
  have hyl := hst.sw.length
  refine wp_call (piv_c ok im ok2 c e (by omega) (by omega) (by omega) hs) fun vs w' h => ?_
  obtain ⟨x, hint, rfl, hx1, hx2, hs⟩ := h
  refine ⟨((x : Int), hint, ()), rfl, trivial, wp_lt (wp_lt ?_)⟩
  refine wp_mid (fun v w' => ∃ (x : Nat) (hint : Int) (ys : List I.E), v = ((x : Int), hint, ()) ∧ c ≤ x ∧ x < e ∧ Stand lt xs a b ys c e ∧ Sat w' (I.arr d ys :: l)) ?_ ?_
  · refine wp_ite (fun hc3 => ?_) fun hc3 => ?_
    · refine wp_callS () (rev_c ok im x0 c e (by omega) (by omega) (by omega) hs) rfl fun w' h => ?_
      obtain ⟨zs, hsw, hs⟩ := h
      refine ⟨trivial, ?_⟩
      refine wp_lw (y := ((e - 1 - (x - c) : Nat) : Int)) (by dsimp only; rw [w64 (x := (e : Int) - 1) (by omega) (by omega), w64 (x := (x : Int) - c) (by omega) (by omega), w64 (by omega) (by omega)]; omega) ?_
      exact wp_leave ⟨(((e - 1 - (x - c) : Nat) : Int), 1, ()), rfl, _, _, zs, rfl, by omega, by omega, hst.step hb hsw, hs⟩
    · exact wp_leave ⟨((x : Int), hint, ()), rfl, x, hint, ys, rfl, hx1, hx2, hst, hs⟩
  clear hs hst hyl hx1 hx2
  rintro _ w ⟨x, hint, ys, rfl, hx1, hx2, hst, hs⟩
  have hyl := hst.sw.length
  refine wp_mid (fun v w' => ∃ (ys : List I.E), Stand lt xs a b ys c e ∧ Sat w' (I.arr d ys :: l)) ?_ ?_
  · refine wp_ite (fun hc3 => ?_) fun hc3 => ?_
    · refine wp_call (pins_c ok im lo x0 c e (by omega) (by omega) (by omega) hst.pre hs) fun vs w' h => ?_
      obtain ⟨q, zs, rfl, hsw, hso, hs⟩ := h
      refine ⟨(q, ()), rfl, trivial, ?_⟩
      refine wp_ite (fun hc4 => ?_) fun hc4 => ?_
      · have hso := hso hc4
        refine wp_pass ?_
        refine wp_pass ?_
        refine wp_pass ?_
        exact ⟨rfl, rfl, zs, (hst.end hsw hso).1, (hst.end hsw hso).2, hs⟩
      · exact wp_leave ⟨(), rfl, zs, hst.step hb hsw, hs⟩
    · exact wp_leave ⟨(), rfl, ys, hst, hs⟩
  clear hs hst hyl
  rintro _ w ⟨ys, hst, hs⟩
  have hyl := hst.sw.length
  refine wp_gcmp ok (f := not) (c - 1) x (fun h => ⟨by have h : (c : Int) > 0 := of_decide_eq_true h; dsimp only; rw [w64 (by omega) (by omega)]; omega, by omega⟩) (fun h => ⟨rfl, by omega⟩) x0 hs fun w' hs => ?_
  refine wp_ite (fun hc3 => ?_) fun hc3 => ?_
  · have hc3 : (decide ((c : Int) > 0) && !ltAt lt ys (c - 1) x) = true := hc3
    simp only [Bool.and_eq_true, decide_eq_true_eq, Bool.not_eq_true'] at hc3
    refine wp_call (peq_c ok im x0 c e x hx1 hx2 (by omega) (by omega) hs) fun vs w' h => ?_
    obtain ⟨m, zs, rfl, hsw, he, h1, h2, h3, h4, hs⟩ := h
    refine ⟨((m : Int), ()), rfl, trivial, wp_lt (wp_lt ?_)⟩
    exact wp_leave ⟨((m : Int), (e : Int), lim, wb, wp, ()), rfl, m, e, lim, wb, wp, zs, rfl, by omega, hst.equals lo hb (by omega) hc3.2 hsw he h1 h2 h3 h4, hs⟩
  · refine wp_call (part_c ok im x0 c e x hx1 hx2 (by omega) (by omega) hs) fun vs w' h => ?_
    obtain ⟨m, q, zs, rfl, hsw, ⟨h1, h2, h3, h4⟩, hs⟩ := h
    have hst2 := hst.step hb hsw
    have hzl := hst2.sw.length
    have hPQ : PartQ lt zs c e m := ⟨fun k k1 k2 => lo.asymmAt (h3 k k1 k2), h4⟩
    refine ⟨((m : Int), q, ()), rfl, trivial, wp_lt (wp_lt (wp_lt ?_))⟩
    refine wp_lw (y := ((m - c : Nat) : Int)) (by dsimp only; rw [w64 (by omega) (by omega)]; omega) ?_
    refine wp_lw (y := ((e - m : Nat) : Int)) (by dsimp only; rw [w64 (by omega) (by omega)]; omega) ?_
    refine wp_lt ?_
    refine wp_mid (fun v w' => ∃ (c' e' : Nat) (bb : Bool) (us : List I.E), v = ((c' : Int), (e' : Int), bb, ()) ∧ e' - c' < e - c ∧ Stand lt xs a b us c' e' ∧ Sat w' (I.arr d us :: l)) ?_ ?_
    · refine wp_ite (fun hc5 => ?_) fun hc5 => ?_
      · refine wp_lt ?_
        refine wp_callS () (ih (m - c) (by omega) c m lim (Nat.le_refl _) h1 (by omega) (by omega) (fun h0 k k1 k2 => hst2.pre h0 k k1 (by omega)) hs) rfl fun w' h => ?_
        obtain ⟨us, husw, huso, hs⟩ := h
        have hul := husw.length
        refine ⟨trivial, ?_⟩
        refine wp_lw (y := ((m + 1 : Nat) : Int)) (by dsimp only; rw [w64 (by omega) (by omega)]; omega) ?_
        refine wp_leave ⟨(((m + 1 : Nat) : Int), (e : Int), _, ()), rfl, m + 1, e, _, us, rfl, by omega, ⟨by omega, by omega, heb, hst2.sw.trans (husw.mono (by omega) (by omega)), fun _ k k1 k2 => ?_, fun vs hv hvs => ?_⟩, hs⟩
        · rw [ltAt_out husw (by omega) (by omega)]; exact h4 k (by omega) k2
        · refine hst2.fin vs ((husw.mono (by omega) (by omega)).trans (hv.mono (by omega) (by omega))) ?_
          have hQ1 := hPQ.left (by omega) husw
          have hQ2 := hQ1.right (by omega) hv
          exact sorted_parts lo (by rw [hv.length]; omega) hQ2 (huso.out hv (by omega)) hvs
      · refine wp_lt ?_
        have em : IntKind.wrap .i64 ((m : Int) + 1) = ((m + 1 : Nat) : Int) := by rw [w64 (by omega) (by omega)]; omega
        rw [em]
        refine wp_callS () (ih (e - (m + 1)) (by omega) (m + 1) e lim (Nat.le_refl _) (by omega) (by omega) (by omega) (fun _ k k1 k2 => h4 k (by omega) k2) hs) rfl fun w' h => ?_
        obtain ⟨us, husw, huso, hs⟩ := h
        have hul := husw.length
        refine ⟨trivial, wp_lt ?_⟩
        refine wp_leave ⟨((c : Int), (m : Int), decide (((e - m : Nat) : Int) ≥ IntKind.wrap .i64 (Int.tdiv ((e - c : Nat) : Int) 8)), ()), rfl, c, m, _, us, rfl, by omega, ⟨by omega, by omega, by omega, hst2.sw.trans (husw.mono (by omega) (by omega)), fun h0 k k1 k2 => ?_, fun vs hv hvs => ?_⟩, hs⟩
        · rw [ltAt_out husw (by omega) (by omega)]; exact hst2.pre h0 k k1 (by omega)
        · refine hst2.fin vs ((husw.mono (by omega) (by omega)).trans (hv.mono (by omega) (by omega))) ?_
          have hQ1 := hPQ.right (by omega) husw
          have hQ2 := hQ1.left (by omega) hv
          exact sorted_parts lo (by rw [hv.length]; omega) hQ2 hvs (huso.out hv (by omega))
    · rintro _ w' ⟨c', e', bb, us, rfl, hlt, hst3, hs⟩
      exact wp_leave ⟨((c' : Int), (e' : Int), lim, bb, q, ()), rfl, c', e', lim, bb, q, us, rfl, hlt, hst3, hs⟩

/-- All of a slice, sorted. -/
theorem pdq_all (ok : I.Ok P lt) (im : I.Impl P) (ok2 : I.Ok2 P) (lo : LtOk lt) (x0 : I.E) (lim : Int) (h63 : xs.length < 576460752303423488) (hs : Sat w (I.arr d xs :: l)) :
    Ret P I.f_pdq ([d.v, .int .i64 0, .int .i64 xs.length, .int .i64 lim] ++ I.ex).toArray w fun vs w' => vs = [] ∧ ∃ ys, ys.Perm xs ∧ ys.Pairwise (fun x y => lt y x = false) ∧ Sat w' (I.arr d ys :: l) := by
  refine Calls.mono (pdq_c ok im ok2 lo x0 xs.length 0 xs.length lim (by omega) (by omega) (Nat.le_refl _) h63 (fun h => absurd h (by omega)) hs) fun e w' ⟨vs, he, hv, ys, hsw, hso, hs⟩ => ⟨vs, he, hv, ys, hsw.perm, ?_, hs⟩
  rw [List.pairwise_iff_getElem]
  intro i j hi hj hij
  have hl := hsw.length
  have := hso i j (by omega) hij (by omega)
  unfold ltAt at this
  rwa [List.getElem?_eq_getElem hi, List.getElem?_eq_getElem hj] at this

end
end Go.Dec
