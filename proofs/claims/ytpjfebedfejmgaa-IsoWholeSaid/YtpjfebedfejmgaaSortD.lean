/- Sorting, part D: a range reversed; heaps. -/
import Derived.Test.YtpjfebedfejmgaaSortC
namespace Go.Dec
set_option linter.unusedVariables false
set_option linter.unusedSimpArgs false

/-- The functions of one type's sort are these. -/
structure SortI.Impl (P : Program) (I : SortI) : Prop where
  sift : ∀ {d : Sl} {lo hi first : Int} {w : World} {R : List Value → World → Prop}, ((I.sift d lo hi first).wp P tt w fun e vs w' => e = 0 ∧ R vs w') → Ret P I.f_sift ([d.v, .int .i64 lo, .int .i64 hi, .int .i64 first] ++ I.ex).toArray w R
  ins : ∀ {d : Sl} {a b : Int} {w : World} {R : List Value → World → Prop}, ((I.ins d a b).wp P tt w fun e vs w' => e = 0 ∧ R vs w') → Ret P I.f_ins ([d.v, .int .i64 a, .int .i64 b] ++ I.ex).toArray w R
  heap : ∀ {d : Sl} {a b : Int} {w : World} {R : List Value → World → Prop}, ((I.heap d a b).wp P tt w fun e vs w' => e = 0 ∧ R vs w') → Ret P I.f_heap ([d.v, .int .i64 a, .int .i64 b] ++ I.ex).toArray w R
  brk : ∀ {d : Sl} {a b : Int} {w : World} {R : List Value → World → Prop}, ((I.brk d a b).wp P tt w fun e vs w' => e = 0 ∧ R vs w') → Ret P I.f_brk ([d.v, .int .i64 a, .int .i64 b] ++ I.ex).toArray w R
  rev : ∀ {d : Sl} {a b : Int} {w : World} {R : List Value → World → Prop}, ((I.rev d a b).wp P tt w fun e vs w' => e = 0 ∧ R vs w') → Ret P I.f_rev ([d.v, .int .i64 a, .int .i64 b] ++ I.ex).toArray w R
  pins : ∀ {d : Sl} {a b : Int} {w : World} {R : List Value → World → Prop}, ((I.pins d a b).wp P tt w fun e vs w' => e = 0 ∧ R vs w') → Ret P I.f_pins ([d.v, .int .i64 a, .int .i64 b] ++ I.ex).toArray w R
  peq : ∀ {d : Sl} {a b p : Int} {w : World} {R : List Value → World → Prop}, ((I.peq d a b p).wp P tt w fun e vs w' => e = 0 ∧ R vs w') → Ret P I.f_peq ([d.v, .int .i64 a, .int .i64 b, .int .i64 p] ++ I.ex).toArray w R
  part : ∀ {d : Sl} {a b p : Int} {w : World} {R : List Value → World → Prop}, ((I.part d a b p).wp P tt w fun e vs w' => e = 0 ∧ R vs w') → Ret P I.f_part ([d.v, .int .i64 a, .int .i64 b, .int .i64 p] ++ I.ex).toArray w R
  pdq : ∀ {d : Sl} {a b p : Int} {w : World} {R : List Value → World → Prop}, ((I.pdq d a b p).wp P tt w fun e vs w' => e = 0 ∧ R vs w') → Ret P I.f_pdq ([d.v, .int .i64 a, .int .i64 b, .int .i64 p] ++ I.ex).toArray w R
  piv : ∀ {d : Sl} {a b : Int} {w : World} {R : List Value → World → Prop}, ((I.piv d a b).wp P tt w fun e vs w' => e = 0 ∧ R vs w') → Ret P I.f_piv ([d.v, .int .i64 a, .int .i64 b] ++ I.ex).toArray w R
  ord2 : ∀ {d : Sl} {a b : Int} {s : Option Addr} {w : World} {R : List Value → World → Prop}, ((I.ord2 d a b s).wp P tt w fun e vs w' => e = 0 ∧ R vs w') → Ret P I.f_ord2 ([d.v, .int .i64 a, .int .i64 b, .pointer s] ++ I.ex).toArray w R
  med : ∀ {d : Sl} {a b c : Int} {s : Option Addr} {w : World} {R : List Value → World → Prop}, ((I.med d a b c s).wp P tt w fun e vs w' => e = 0 ∧ R vs w') → Ret P I.f_med ([d.v, .int .i64 a, .int .i64 b, .int .i64 c, .pointer s] ++ I.ex).toArray w R
  medj : ∀ {d : Sl} {a : Int} {s : Option Addr} {w : World} {R : List Value → World → Prop}, ((I.medj d a s).wp P tt w fun e vs w' => e = 0 ∧ R vs w') → Ret P I.f_medj ([d.v, .int .i64 a, .pointer s] ++ I.ex).toArray w R

section
variable {P : Program} {I : SortI} {lt : I.E → I.E → Bool} {w : World} {l : List HP} {Q : Post} {d : Sl} {xs : List I.E}

theorem rev_c (ok : I.Ok P lt) (im : I.Impl P) (x0 : I.E) (a b : Nat) (hab : a < b) (hb : b ≤ xs.length) (h63 : xs.length < 4611686018427387904) (hs : Sat w (I.arr d xs :: l)) :
    Ret P I.f_rev ([d.v, .int .i64 a, .int .i64 b] ++ I.ex).toArray w fun vs w' => vs = [] ∧ ∃ ys, Sw a b xs ys ∧ Sat w' (I.arr d ys :: l) := im.rev <| by
  unfold SortI.rev
  refine wp_lt ?_
  refine wp_lw (y := ((b - 1 : Nat) : Int)) (by rw [w64 (by omega) (by omega)]; omega) ?_
  refine wp_mid (fun v w' => ∃ ys, Sw a b xs ys ∧ Sat w' (I.arr d ys :: l)) ?_ (fun _ w' h => ⟨rfl, rfl, h⟩)
  refine wp_loop (fun n v w => ∃ (i j : Nat) (ys : List I.E), v = ((i : Int), (j : Int), ()) ∧ a ≤ i ∧ j < b ∧ i + j = a + b - 1 ∧ j = n ∧ Sw a b xs ys ∧ Sat w (I.arr d ys :: l)) (b - 1) ?_ ?_
  · exact ⟨a, b - 1, xs, rfl, by omega, by omega, by omega, rfl, .refl _, hs⟩
  rintro n _ w ⟨i, j, ys, rfl, hi, hj, hij, rfl, hsw, hs⟩
  have hyl := hsw.length
  refine wp_ite (fun hc => ?_) fun hc => ?_
  · have hc : (i : Int) < j := of_decide_eq_true hc
    refine wp_swap ok i j rfl rfl (by omega) (by omega) hs fun w' hs => ?_
    refine wp_lw (y := ((i + 1 : Nat) : Int)) (by rw [w64 (by omega) (by omega)]; omega) ?_
    refine wp_lw (y := ((j - 1 : Nat) : Int)) (by dsimp only; rw [w64 (by omega) (by omega)]; omega) ?_
    exact wp_leave ⟨(((i + 1 : Nat) : Int), ((j - 1 : Nat) : Int), ()), j - 1, by omega, rfl, i + 1, j - 1, _, rfl, by omega, by omega, by omega, rfl, .step hsw (by omega) (by omega) (by omega) (by omega), hs⟩
  · refine wp_pass ?_
    exact wp_leave ⟨(), rfl, ys, hsw, hs⟩

/-! ### Heaps -/
def kid (p c : Nat) : Prop := c = 2 * p + 1 ∨ c = 2 * p + 2
/-- A heap from lo on, but for node r. -/
def HeapBut (lt : I.E → I.E → Bool) (ys : List I.E) (f lo hi r : Nat) : Prop :=
  (∀ p c, lo ≤ p → kid p c → c < hi → p ≠ r → ltAt lt ys (f + p) (f + c) = false) ∧
  (∀ q c, lo ≤ q → kid q r → kid r c → c < hi → ltAt lt ys (f + q) (f + c) = false)
def Heap (lt : I.E → I.E → Bool) (ys : List I.E) (f lo hi : Nat) : Prop := ∀ p c, lo ≤ p → kid p c → c < hi → ltAt lt ys (f + p) (f + c) = false

theorem heap_step (lo' : LtOk lt) {ys : List I.E} {f lo hi r c : Nat} (hf : f + hi ≤ ys.length) (h : HeapBut lt ys f lo hi r) (hlr : lo ≤ r) (hc : kid r c) (hch : c < hi)
    (hbig : ∀ c', kid r c' → c' < hi → ltAt lt ys (f + c) (f + c') = false) (hlt : ltAt lt ys (f + r) (f + c) = true) : HeapBut lt (swapL ys (f + r) (f + c)) f lo hi c := by
  have hrc : r < c := by rcases hc with h | h <;> omega
  refine ⟨fun p k hp hk hkh hpc => ?_, fun q k hq hqc hck hkh => ?_⟩
  · rw [ltAt_swap (by omega) (by omega)]
    unfold tr
    by_cases h1 : p = r
    · subst h1
      rw [if_pos rfl, if_neg (by rcases hk with h | h <;> omega)]
      by_cases h2 : k = c
      · subst h2; rw [if_pos rfl]; exact lo'.asymmAt hlt
      · rw [if_neg (by omega)]; exact hbig k hk hkh
    · rw [if_neg (show ¬ f + p = f + r by omega), if_neg (show ¬ f + p = f + c by omega)]
      by_cases h2 : k = r
      · subst h2
        rw [if_pos rfl]
        exact h.2 p c hp hk hc hch
      · rw [if_neg (show ¬ f + k = f + r by omega)]
        by_cases h3 : k = c
        · exfalso; subst h3; rcases hk with h | h <;> rcases hc with h' | h' <;> omega
        · rw [if_neg (show ¬ f + k = f + c by omega)]; exact h.1 p k hp hk hkh h1
  · have hqr : q = r := by rcases hqc with h | h <;> rcases hc with h' | h' <;> omega
    subst hqr
    have hck' : c < k := by rcases hck with h | h <;> omega
    rw [ltAt_swap (by omega) (by omega)]
    unfold tr
    rw [if_pos rfl, if_neg (show ¬ f + k = f + q by omega), if_neg (show ¬ f + k = f + c by omega)]
    exact h.1 c k (by omega) hck hkh (by omega)

theorem sift_c (ok : I.Ok P lt) (im : I.Impl P) (lo' : LtOk lt) (x0 : I.E) (lo hi f : Nat) (hlo : lo ≤ hi) (hf : f + hi ≤ xs.length) (h63 : xs.length < 2305843009213693952) (hh : HeapBut lt xs f lo hi lo) (hs : Sat w (I.arr d xs :: l)) :
    Ret P I.f_sift ([d.v, .int .i64 lo, .int .i64 hi, .int .i64 f] ++ I.ex).toArray w fun vs w' => vs = [] ∧ ∃ ys, Sw (f + lo) (f + hi) xs ys ∧ Heap lt ys f lo hi ∧ Sat w' (I.arr d ys :: l) := im.sift <| by
  unfold SortI.sift
  refine wp_lt ?_
  refine wp_mid (fun v w' => ∃ ys, Sw (f + lo) (f + hi) xs ys ∧ Heap lt ys f lo hi ∧ Sat w' (I.arr d ys :: l)) ?_ (fun _ w' h => ⟨rfl, rfl, h⟩)
  refine wp_loop (fun n v w => ∃ (r : Nat) (ys : List I.E), v = ((r : Int), ()) ∧ lo ≤ r ∧ r ≤ hi ∧ hi - r = n ∧ Sw (f + lo) (f + hi) xs ys ∧ HeapBut lt ys f lo hi r ∧ Sat w (I.arr d ys :: l)) (hi - lo) ?_ ?_
  · exact ⟨lo, xs, rfl, by omega, hlo, rfl, .refl _, hh, hs⟩
  rintro n _ w ⟨r, ys, rfl, hr, hrh, hn, hsw, hh, hs⟩
  have hyl := hsw.length
  refine wp_lw (y := ((2 * r + 1 : Nat) : Int)) (by rw [w64 (x := 2 * (r : Int)) (by omega) (by omega), w64 (by omega) (by omega)]; omega) ?_
  refine wp_ite (fun hc => ?_) fun hc => ?_
  · have hc : ((2 * r + 1 : Nat) : Int) ≥ hi := of_decide_eq_true hc
    refine wp_pass ?_
    refine wp_leave ⟨(), rfl, ys, hsw, fun p c h1 h2 h3 => hh.1 p c h1 h2 h3 ?_, hs⟩
    rintro rfl
    rcases h2 with h | h <;> omega
  have hc : ¬ ((2 * r + 1 : Nat) : Int) ≥ hi := of_decide_eq_false hc
  have e1 : IntKind.wrap .i64 (((2 * r + 1 : Nat) : Int) + 1) = ((2 * r + 2 : Nat) : Int) := by rw [w64 (by omega) (by omega)]; omega
  have e2 : IntKind.wrap .i64 ((f : Int) + ((2 * r + 1 : Nat) : Int)) = ((f + (2 * r + 1) : Nat) : Int) := by rw [w64 (by omega) (by omega)]; omega
  refine wp_gcmp ok (f := id) (f + (2 * r + 1)) (f + (2 * r + 2)) (fun h => ⟨e2, by omega⟩) (fun h => ?_) x0 hs fun w' hs => ?_
  · have h : IntKind.wrap .i64 (((2 * r + 1 : Nat) : Int) + 1) < (hi : Int) := of_decide_eq_true h
    rw [e1] at h
    refine ⟨?_, by omega⟩
    rw [e2, w64 (by omega) (by omega)]; omega
  have key : ∃ c, (if decide (IntKind.wrap .i64 (((2 * r + 1 : Nat) : Int) + 1) < (hi : Int)) && id (ltAt lt ys (f + (2 * r + 1)) (f + (2 * r + 2))) then ((2 * r + 2 : Nat) : Int) else ((2 * r + 1 : Nat) : Int)) = ((c : Nat) : Int) ∧ kid r c ∧ c < hi ∧ ∀ c', kid r c' → c' < hi → ltAt lt ys (f + c) (f + c') = false := by
    rw [e1]
    by_cases h1 : ((2 * r + 2 : Nat) : Int) < hi
    · cases h2 : ltAt lt ys (f + (2 * r + 1)) (f + (2 * r + 2)) with
      | true =>
        refine ⟨2 * r + 2, by rw [decide_eq_true h1]; rfl, .inr rfl, by omega, fun c' hk _ => ?_⟩
        rcases hk with rfl | rfl
        · exact lo'.asymmAt h2
        · exact lo'.irrefl _
      | false =>
        refine ⟨2 * r + 1, by simp, .inl rfl, by omega, fun c' hk _ => ?_⟩
        rcases hk with rfl | rfl
        · exact lo'.irrefl _
        · exact h2
    · refine ⟨2 * r + 1, by rw [decide_eq_false h1]; simp, .inl rfl, by omega, fun c' hk hc' => ?_⟩
      rcases hk with rfl | rfl
      · exact lo'.irrefl _
      · omega
  obtain ⟨c, hce, hck, hch, hbig⟩ := key
  have hrc : r < c := by rcases hck with h | h <;> omega
  have hcb : c ≤ 2 * r + 2 := by rcases hck with h | h <;> omega
  refine wp_mid (fun v w' => v = ((c : Int), ()) ∧ Sat w' (I.arr d ys :: l)) ?_ ?_
  · refine wp_ite (fun h => ?_) fun h => ?_
    · have h : (decide (IntKind.wrap .i64 (((2 * r + 1 : Nat) : Int) + 1) < (hi : Int)) && id (ltAt lt ys (f + (2 * r + 1)) (f + (2 * r + 2)))) = true := h
      rw [h, if_pos rfl] at hce
      exact wp_lw (e1.trans hce) (wp_leave ⟨((c : Int), ()), rfl, rfl, hs⟩)
    · have h : (decide (IntKind.wrap .i64 (((2 * r + 1 : Nat) : Int) + 1) < (hi : Int)) && id (ltAt lt ys (f + (2 * r + 1)) (f + (2 * r + 2)))) = false := h
      rw [h, if_neg (by simp)] at hce
      rw [hce]
      exact wp_leave ⟨((c : Int), ()), rfl, rfl, hs⟩
  rintro _ w ⟨rfl, hs⟩
  have e3 : IntKind.wrap .i64 ((f : Int) + (r : Int)) = ((f + r : Nat) : Int) := by rw [w64 (by omega) (by omega)]; omega
  have e4 : IntKind.wrap .i64 ((f : Int) + (c : Int)) = ((f + c : Nat) : Int) := by rw [w64 (by omega) (by omega)]; omega
  refine wp_plain ok (f + r) (f + c) e3 e4 (by omega) (by omega) hs fun w' hs => ?_
  refine wp_ite (fun h => ?_) fun h => ?_
  · have h : (!ltAt lt ys (f + r) (f + c)) = true := h
    simp only [Bool.not_eq_true'] at h
    refine wp_pass ?_
    refine wp_pass ?_
    refine ⟨rfl, rfl, ys, hsw, fun p k h1 h2 h3 => ?_, hs⟩
    by_cases hp : p = r
    · subst hp; exact lo'.transAt (q := f + c) (by omega) h (hbig k h2 h3)
    · exact hh.1 p k h1 h2 h3 hp
  · have h : (!ltAt lt ys (f + r) (f + c)) = false := h
    simp only [Bool.not_eq_false'] at h
    refine wp_swap ok (f + r) (f + c) e3 e4 (by omega) (by omega) hs fun w' hs => ?_
    refine wp_lt ?_
    exact wp_leave ⟨((c : Int), ()), hi - c, by omega, rfl, c, _, rfl, by omega, by omega, rfl, .step hsw (by omega) (by omega) (by omega) (by omega), heap_step lo' (by omega) hh hr hck hch hbig h, hs⟩

theorem heap_of_but {ys : List I.E} {f lo hi : Nat} (h : Heap lt ys f (lo + 1) hi) : HeapBut lt ys f lo hi lo :=
  ⟨fun p c h1 h2 h3 h4 => h p c (by omega) h2 h3, fun q c h1 h2 h3 h4 => by rcases h2 with h | h <;> omega⟩

/-- The root of a heap is the greatest. -/
theorem heap_root (lo' : LtOk lt) {ys : List I.E} {f hi : Nat} (hf : f + hi ≤ ys.length) (h : Heap lt ys f 0 hi) : ∀ k, k < hi → ltAt lt ys f (f + k) = false := by
  intro k
  induction k using Nat.strongRecOn with
  | _ k ih =>
    intro hk
    by_cases h0 : k = 0
    · subst h0; exact lo'.irrefl _
    · have hp : kid ((k - 1) / 2) k := by unfold kid; omega
      have h1 := ih ((k - 1) / 2) (by omega) (by omega)
      have h2 := h ((k - 1) / 2) k (by omega) hp hk
      exact lo'.transAt (q := f + (k - 1) / 2) (by omega) h1 h2

theorem heap_c (ok : I.Ok P lt) (im : I.Impl P) (lo' : LtOk lt) (x0 : I.E) (a b : Nat) (hab : a ≤ b) (hb : b ≤ xs.length) (h63 : xs.length < 2305843009213693952) (hs : Sat w (I.arr d xs :: l)) :
    Ret P I.f_heap ([d.v, .int .i64 a, .int .i64 b] ++ I.ex).toArray w fun vs w' => vs = [] ∧ ∃ ys, Sw a b xs ys ∧ SortedR lt ys a b ∧ Sat w' (I.arr d ys :: l) := im.heap <| by
  unfold SortI.heap
  refine wp_lt ?_
  obtain ⟨n, rfl⟩ : ∃ n, b = a + n := ⟨b - a, by omega⟩
  refine wp_lw (y := (n : Int)) (by rw [w64 (by omega) (by omega)]; omega) ?_
  refine wp_lw (y := if n = 0 then 0 else (((n - 1) / 2 : Nat) : Int)) ?_ ?_
  · rw [w64 (x := (n : Int) - 1) (by omega) (by omega)]
    split
    · rename_i h; subst h; decide
    · rw [Int.tdiv_eq_ediv_of_nonneg (by omega), w64 (by omega) (by omega)]; omega
  refine wp_mid (fun v w' => ∃ ys, Sw a (a + n) xs ys ∧ Heap lt ys a 0 n ∧ Sat w' (I.arr d ys :: l)) ?_ ?_
  · refine wp_loop (fun m v w => ∃ (i : Nat) (ys : List I.E), v = ((i : Int) - 1, ()) ∧ i = m ∧ i ≤ n + 1 ∧ Sw a (a + n) xs ys ∧ Heap lt ys a i n ∧ Sat w (I.arr d ys :: l)) (if n = 0 then 1 else (n - 1) / 2 + 1) ?_ ?_
    · refine ⟨_, xs, ?_, rfl, ?_, .refl _, fun p c h1 h2 h3 => ?_, hs⟩
      · split <;> simp
      · split <;> omega
      · exfalso
        split at h1 <;> rcases h2 with h | h <;> omega
    rintro m _ w ⟨i, ys, rfl, rfl, hi, hsw, hh, hs⟩
    have hyl := hsw.length
    refine wp_ite (fun hc => ?_) fun hc => ?_
    · have hc : (i : Int) - 1 ≥ 0 := of_decide_eq_true hc
      obtain ⟨j, rfl⟩ : ∃ j, i = j + 1 := ⟨i - 1, by omega⟩
      have e : ((j + 1 : Nat) : Int) - 1 = j := by omega
      rw [e]
      refine wp_callS () (sift_c ok im lo' x0 j n a (by omega) (by omega) (by omega) (heap_of_but hh) hs) rfl fun w' h => ?_
      obtain ⟨zs, hz, hzh, hs⟩ := h
      refine ⟨trivial, ?_⟩
      refine wp_lw (y := (j : Int) - 1) (w64 (by dsimp only; omega) (by dsimp only; omega)) ?_
      exact wp_leave ⟨((j : Int) - 1, ()), j, by omega, rfl, j, zs, rfl, rfl, by omega, hsw.trans (hz.mono (by omega) (by omega)), hzh, hs⟩
    · have hc : ¬ (i : Int) - 1 ≥ 0 := of_decide_eq_false hc
      refine wp_pass ?_
      refine wp_leave ⟨(), rfl, ys, hsw, ?_, hs⟩
      rwa [show i = 0 by omega] at hh
  rintro _ w ⟨ys, hsw, hh, hs⟩
  refine wp_lw (y := (n : Int) - 1) (w64 (by omega) (by omega)) ?_
  refine wp_mid (fun v w' => ∃ ys, Sw a (a + n) xs ys ∧ SortedR lt ys a (a + n) ∧ Sat w' (I.arr d ys :: l)) ?_ (fun _ w' h => ⟨rfl, rfl, h⟩)
  refine wp_loop (fun m v w => ∃ (i : Nat) (ys : List I.E), v = ((i : Int) - 1, ()) ∧ i = m ∧ i ≤ n ∧ Sw a (a + n) xs ys ∧ Heap lt ys a 0 i ∧ SortedR lt ys (a + i) (a + n) ∧ (∀ p q, p < i → i ≤ q → q < n → ltAt lt ys (a + q) (a + p) = false) ∧ Sat w (I.arr d ys :: l)) n ?_ ?_
  · exact ⟨n, ys, rfl, rfl, by omega, hsw, hh, fun p q h1 h2 h3 => by omega, fun p q h1 h2 h3 => by omega, hs⟩
  rintro m _ w ⟨i, ys, rfl, rfl, hi, hsw, hh, hso, hpq, hs⟩
  have hyl := hsw.length
  refine wp_ite (fun hc => ?_) fun hc => ?_
  · have hc : (i : Int) - 1 ≥ 0 := of_decide_eq_true hc
    obtain ⟨j, rfl⟩ : ∃ j, i = j + 1 := ⟨i - 1, by omega⟩
    have e : ((j + 1 : Nat) : Int) - 1 = j := by omega
    rw [e]
    refine wp_swap ok a (a + j) rfl (by dsimp only; rw [w64 (by omega) (by omega)]; omega) (by omega) (by omega) hs fun w' hs => ?_
    have hroot := heap_root lo' (by omega) hh
    have hat : ∀ p q, ltAt lt (swapL ys a (a + j)) p q = ltAt lt ys (tr a (a + j) p) (tr a (a + j) q) := fun p q => ltAt_swap (by omega) (by omega) p q
    have hbut : HeapBut lt (swapL ys a (a + j)) a 0 j 0 := by
      refine ⟨fun p c h1 h2 h3 h4 => ?_, fun q c h1 h2 h3 h4 => by rcases h2 with h | h <;> omega⟩
      rw [hat]
      unfold tr
      rw [if_neg (show ¬ a + p = a by omega), if_neg (show ¬ a + p = a + j by rcases h2 with h | h <;> omega), if_neg (show ¬ a + c = a by rcases h2 with h | h <;> omega), if_neg (show ¬ a + c = a + j by omega)]
      exact hh p c h1 h2 (by omega)
    have hso' : SortedR lt (swapL ys a (a + j)) (a + j) (a + n) := fun p q h1 h2 h3 => by
      rw [hat]
      unfold tr
      rw [if_neg (show ¬ q = a by omega), if_neg (show ¬ q = a + j by omega)]
      by_cases hp : p = a + j
      · subst hp
        by_cases hj : j = 0
        · subst hj
          simp only [Nat.add_zero, if_true]
          obtain ⟨q', rfl⟩ : ∃ q', q = a + q' := ⟨q - a, by omega⟩
          exact hpq 0 q' (by omega) (by omega) (by omega)
        · rw [if_neg (by omega), if_pos rfl]
          obtain ⟨q', rfl⟩ : ∃ q', q = a + q' := ⟨q - a, by omega⟩
          exact hpq 0 q' (by omega) (by omega) (by omega)
      · rw [if_neg (show ¬ p = a by omega), if_neg hp]
        exact hso p q (by omega) h2 h3
    have hpq' : ∀ p q, p < j → j ≤ q → q < n → ltAt lt (swapL ys a (a + j)) (a + q) (a + p) = false := fun p q h1 h2 h3 => by
      have hp' : ∃ p', tr a (a + j) (a + p) = a + p' ∧ p' < j + 1 := by
        unfold tr
        split
        · exact ⟨j, rfl, by omega⟩
        · exact ⟨p, by rw [if_neg (by omega)], by omega⟩
      obtain ⟨p', hp', hlt⟩ := hp'
      rw [hat, hp']
      unfold tr
      rw [if_neg (show ¬ a + q = a by omega)]
      by_cases hq : a + q = a + j
      · rw [if_pos hq]; exact hroot p' hlt
      · rw [if_neg hq]; exact hpq p' q hlt (by omega) h3
    refine wp_callS () (sift_c ok im lo' x0 0 j a (by omega) (by rw [swapL_length]; omega) (by rw [swapL_length]; omega) hbut hs) rfl fun w' h => ?_
    obtain ⟨zs, hz, hzh, hs⟩ := h
    refine ⟨trivial, ?_⟩
    refine wp_lw (y := (j : Int) - 1) (w64 (by dsimp only; omega) (by dsimp only; omega)) ?_
    have hz1 : Sw a (a + n) (swapL ys a (a + j)) zs := hz.mono (by omega) (by omega)
    refine wp_leave ⟨((j : Int) - 1, ()), j, by omega, rfl, j, zs, rfl, rfl, by omega, (Sw.step hsw (by omega) (by omega) (by omega) (by omega)).trans hz1, hzh, fun p q h1 h2 h3 => ?_, fun p q h1 h2 h3 => ?_, hs⟩
    · have hso' := hso' p q h1 h2 h3
      unfold ltAt at *
      rw [hz.out (by omega), hz.out (by omega)]
      exact hso'
    · -- what holds of all that the heap has
      have hall := Sw.all hz (by rw [swapL_length]; omega) (p := fun x => ∀ q y, j ≤ q → q < n → (swapL ys a (a + j))[a + q]? = some y → lt y x = false) (fun k x hk1 hk2 hx q y hq1 hq2 hy => by
        obtain ⟨k', rfl⟩ : ∃ k', k = a + k' := ⟨k - a, by omega⟩
        have := hpq' k' q (by omega) hq1 hq2
        unfold ltAt at this
        rw [hx, hy] at this
        exact this)
      unfold ltAt
      cases hx : zs[a + p]? with
      | none => split <;> simp_all
      | some x =>
        cases hy : zs[a + q]? with
        | none => rfl
        | some y =>
          rw [hz.out (by omega)] at hy
          exact hall (a + p) x (by omega) (by omega) hx q y h2 h3 hy
  · have hc : ¬ (i : Int) - 1 ≥ 0 := of_decide_eq_false hc
    refine wp_pass ?_
    refine wp_leave ⟨(), rfl, ys, hsw, ?_, hs⟩
    have : i = 0 := by omega
    subst this
    exact hso

end
end Go.Dec
