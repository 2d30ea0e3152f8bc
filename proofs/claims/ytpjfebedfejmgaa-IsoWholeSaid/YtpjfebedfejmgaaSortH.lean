/- Sorting, part H: pivots; patterns broken. -/
import Derived.Test.YtpjfebedfejmgaaSortG
namespace Go.Dec
set_option linter.unusedVariables false
set_option linter.unusedSimpArgs false

/-- What is known of the sort's helpers. -/
structure SortI.Ok2 (P : Program) (I : SortI) : Prop where
  one : One P I.ti
  zer : Zer P I.ti (.int .i64 0)
  xone : One P I.xs
  xzer : Zer P I.xs (.int .u64 0)
  next : ∀ {b : Nat} {u : Int} {w : World} {l : List HP}, Sat w (pt b (.cells #[.int .u64 u] I.xs) :: l) → Ret P I.fNext #[.pointer (some ⟨b, 0, none⟩)] w fun vs w' => ∃ v u', vs = [.int .u64 v] ∧ Sat w' (pt b (.cells #[.int .u64 u'] I.xs) :: l)
  pow : ∀ {n : Nat} {w : World} {l : List HP}, 8 ≤ n → n < 1152921504606846976 → Sat w l → Ret P I.fPow #[.int .i64 n] w fun vs w' => ∃ m : Nat, vs = [.int .u64 m] ∧ 1 ≤ m ∧ m ≤ 2 * n ∧ Sat w' l

section
variable {P : Program} {I : SortI} {lt : I.E → I.E → Bool} {w : World} {l : List HP} {Q : Post} {d : Sl} {xs ys : List I.E}

abbrev SortI.ctr (I : SortI) (c : Nat) (n : Int) : HP := pt c (.cells #[.int .i64 n] I.ti)

theorem ord2_c (ok : I.Ok P lt) (im : I.Impl P) (ok2 : I.Ok2 P) (a b c : Nat) (n : Int) (ha : a < xs.length) (hb : b < xs.length) (h63 : xs.length < 2305843009213693952) (hs : Sat w (I.arr d xs :: I.ctr c n :: l)) :
    Ret P I.f_ord2 ([d.v, .int .i64 a, .int .i64 b, .pointer (some ⟨c, 0, none⟩)] ++ I.ex).toArray w fun vs w' => ∃ (x y : Nat) (n : Int), vs = [.int .i64 x, .int .i64 y] ∧ ((x = a ∧ y = b) ∨ (x = b ∧ y = a)) ∧ Sat w' (I.arr d xs :: I.ctr c n :: l) := im.ord2 <| by
  haveI := ok2.one
  unfold SortI.ord2
  refine wp_plain ok b a rfl rfl hb ha hs fun w' hs => ?_
  refine wp_ite (fun hc => ?_) fun hc => ?_
  · refine wp_ex (⟨c, 0, none⟩, ()) rfl ?_
    refine wp_ld (x := n) hs rfl ?_
    refine wp_ex (⟨c, 0, none⟩, ()) rfl ?_
    refine wp_st1 hs rfl rfl rfl fun w' hs => ⟨trivial, ?_⟩
    refine wp_lt (wp_lt ?_)
    exact ⟨rfl, b, a, _, rfl, .inr ⟨rfl, rfl⟩, (hs.focS d)⟩
  · refine wp_lt (wp_lt ?_)
    exact ⟨rfl, a, b, n, rfl, .inl ⟨rfl, rfl⟩, hs⟩

theorem med_c (ok : I.Ok P lt) (im : I.Impl P) (ok2 : I.Ok2 P) (a b e c : Nat) (n : Int) (ha : a < xs.length) (hb : b < xs.length) (he : e < xs.length) (h63 : xs.length < 2305843009213693952) (hs : Sat w (I.arr d xs :: I.ctr c n :: l)) :
    Ret P I.f_med ([d.v, .int .i64 a, .int .i64 b, .int .i64 e, .pointer (some ⟨c, 0, none⟩)] ++ I.ex).toArray w fun vs w' => ∃ (x : Nat) (n : Int), vs = [.int .i64 x] ∧ (x = a ∨ x = b ∨ x = e) ∧ Sat w' (I.arr d xs :: I.ctr c n :: l) := im.med <| by
  unfold SortI.med
  refine wp_call (ord2_c ok im ok2 a b c n ha hb h63 hs) fun vs w' h => ?_
  obtain ⟨x, y, n, rfl, h1, hs⟩ := h
  refine ⟨((x : Int), (y : Int), ()), rfl, trivial, wp_lt (wp_lt ?_)⟩
  refine wp_call (ord2_c ok im ok2 y e c n (by omega) he h63 hs) fun vs w' h => ?_
  obtain ⟨x2, y2, n, rfl, h2, hs⟩ := h
  refine ⟨((x2 : Int), (y2 : Int), ()), rfl, trivial, wp_lt (wp_lt ?_)⟩
  refine wp_call (ord2_c ok im ok2 x x2 c n (by omega) (by omega) h63 hs) fun vs w' h => ?_
  obtain ⟨x3, y3, n, rfl, h3, hs⟩ := h
  refine ⟨((x3 : Int), (y3 : Int), ()), rfl, trivial, wp_lt (wp_lt (wp_lt ?_))⟩
  exact ⟨rfl, y3, n, rfl, by omega, hs⟩

theorem medj_c (ok : I.Ok P lt) (im : I.Impl P) (ok2 : I.Ok2 P) (a c : Nat) (n : Int) (h0 : 1 ≤ a) (ha : a + 1 < xs.length) (h63 : xs.length < 2305843009213693952) (hs : Sat w (I.arr d xs :: I.ctr c n :: l)) :
    Ret P I.f_medj ([d.v, .int .i64 a, .pointer (some ⟨c, 0, none⟩)] ++ I.ex).toArray w fun vs w' => ∃ (x : Nat) (n : Int), vs = [.int .i64 x] ∧ a - 1 ≤ x ∧ x ≤ a + 1 ∧ Sat w' (I.arr d xs :: I.ctr c n :: l) := im.medj <| by
  unfold SortI.medj
  have e1 : IntKind.wrap .i64 ((a : Int) - 1) = ((a - 1 : Nat) : Int) := by rw [w64 (by omega) (by omega)]; omega
  have e2 : IntKind.wrap .i64 ((a : Int) + 1) = ((a + 1 : Nat) : Int) := by rw [w64 (by omega) (by omega)]; omega
  rw [e1, e2]
  refine wp_call (med_c ok im ok2 (a - 1) a (a + 1) c n (by omega) (by omega) (by omega) h63 hs) fun vs w' h => ?_
  obtain ⟨x, n, rfl, h1, hs⟩ := h
  refine ⟨((x : Int), ()), rfl, trivial, wp_lt ?_⟩
  exact ⟨rfl, x, n, rfl, by omega, by omega, hs⟩

theorem piv_c (ok : I.Ok P lt) (im : I.Impl P) (ok2 : I.Ok2 P) (a b : Nat) (hab : a + 8 ≤ b) (hb : b ≤ xs.length) (h63 : xs.length < 1152921504606846976) (hs : Sat w (I.arr d xs :: l)) :
    Ret P I.f_piv ([d.v, .int .i64 a, .int .i64 b] ++ I.ex).toArray w fun vs w' => ∃ (x : Nat) (h : Int), vs = [.int .i64 x, .int .i64 h] ∧ a ≤ x ∧ x < b ∧ Sat w' (I.arr d xs :: l) := im.piv <| by
  haveI := ok2.one
  haveI := ok2.zer
  unfold SortI.piv
  obtain ⟨n, rfl⟩ : ∃ n, b = a + n := ⟨b - a, by omega⟩
  refine wp_lw (y := (n : Int)) (by rw [w64 (by omega) (by omega)]; omega) ?_
  refine wp_newZ hs fun c w' hs => ⟨trivial, ?_⟩
  have hs : Sat w' (I.arr d xs :: I.ctr c 0 :: l) := hs.focS d
  have e4 : Int.tdiv (n : Int) 4 = ((n / 4 : Nat) : Int) := by rw [Int.tdiv_eq_ediv_of_nonneg (by omega)]; omega
  have e0 : IntKind.wrap .i64 (Int.tdiv (n : Int) 4) = ((n / 4 : Nat) : Int) := by rw [e4, w64 (by omega) (by omega)]
  refine wp_lw (y := ((a + n / 4 : Nat) : Int)) (by rw [e0, w64 (x := _ * _) (by omega) (by omega), w64 (by omega) (by omega)]; omega) ?_
  refine wp_lw (y := ((a + n / 4 * 2 : Nat) : Int)) (by rw [e0, w64 (x := _ * _) (by omega) (by omega), w64 (by omega) (by omega)]; omega) ?_
  refine wp_lw (y := ((a + n / 4 * 3 : Nat) : Int)) (by rw [e0, w64 (x := _ * _) (by omega) (by omega), w64 (by omega) (by omega)]; omega) ?_
  refine wp_mid (fun v w' => ∃ (x : Nat) (m : Int), v = ((x : Int), ()) ∧ a ≤ x ∧ x < a + n ∧ Sat w' (I.arr d xs :: I.ctr c m :: l)) ?_ ?_
  · refine wp_ite (fun hc => ?_) fun hc => ?_
    · refine wp_mid (fun v w' => ∃ (x y z : Nat) (m : Int), v = ((x : Int), (y : Int), (z : Int), ()) ∧ a ≤ x ∧ x < a + n ∧ a ≤ y ∧ y < a + n ∧ a ≤ z ∧ z < a + n ∧ Sat w' (I.arr d xs :: I.ctr c m :: l)) ?_ ?_
      · refine wp_ite (fun hc => ?_) fun hc => ?_
        · have hc : (n : Int) ≥ 50 := of_decide_eq_true hc
          refine wp_call (medj_c ok im ok2 (a + n / 4) c _ (by omega) (by omega) (by omega) hs) fun vs w' h => ?_
          obtain ⟨x, m, rfl, h1, h2, hs⟩ := h
          refine ⟨((x : Int), ()), rfl, trivial, wp_lt ?_⟩
          refine wp_call (medj_c ok im ok2 (a + n / 4 * 2) c _ (by omega) (by omega) (by omega) hs) fun vs w' h => ?_
          obtain ⟨y, m, rfl, h3, h4, hs⟩ := h
          refine ⟨((y : Int), ()), rfl, trivial, wp_lt ?_⟩
          refine wp_call (medj_c ok im ok2 (a + n / 4 * 3) c _ (by omega) (by omega) (by omega) hs) fun vs w' h => ?_
          obtain ⟨z, m, rfl, h5, h6, hs⟩ := h
          refine ⟨((z : Int), ()), rfl, trivial, wp_lt ?_⟩
          exact wp_leave ⟨((x : Int), (y : Int), (z : Int), ()), rfl, x, y, z, m, rfl, by omega, by omega, by omega, by omega, by omega, by omega, hs⟩
        · exact wp_leave ⟨(((a + n / 4 : Nat) : Int), ((a + n / 4 * 2 : Nat) : Int), ((a + n / 4 * 3 : Nat) : Int), ()), rfl, a + n / 4, a + n / 4 * 2, a + n / 4 * 3, _, rfl, by omega, by omega, by omega, by omega, by omega, by omega, hs⟩
      · rintro _ w' ⟨x, y, z, m, rfl, h1, h2, h3, h4, h5, h6, hs⟩
        refine wp_call (med_c ok im ok2 x y z c m (by omega) (by omega) (by omega) (by omega) hs) fun vs w' h => ?_
        obtain ⟨r, m, rfl, h7, hs⟩ := h
        refine ⟨((r : Int), ()), rfl, trivial, wp_lt ?_⟩
        exact wp_leave ⟨((r : Int), ()), rfl, r, m, rfl, by omega, by omega, hs⟩
    · exact wp_leave ⟨(((a + n / 4 * 2 : Nat) : Int), ()), rfl, a + n / 4 * 2, _, rfl, by omega, by omega, hs⟩
  · rintro _ w' ⟨x, m, rfl, h1, h2, hs⟩
    refine wp_ld (x := m) hs rfl ?_
    refine wp_lt ?_
    refine wp_ite (fun hc => ?_) fun hc => ?_
    · exact wp_lt ⟨rfl, x, _, rfl, h1, h2, (hs.focB c).tail⟩
    · refine wp_lt ?_
      refine wp_ite (fun hc => ?_) fun hc => ?_
      · exact wp_lt ⟨rfl, x, _, rfl, h1, h2, (hs.focB c).tail⟩
      · exact wp_lt ⟨rfl, x, _, rfl, h1, h2, (hs.focB c).tail⟩

theorem and_lt {x : Int} {m : Nat} (hm : 1 ≤ m) (hm2 : m ≤ 2305843009213693952) : IntKind.wrap .i64 (IntKind.wrap .u64 (((BitVec.toNat (BitVec.ofInt 64 x &&& BitVec.ofInt 64 (IntKind.wrap .u64 ((m : Int) - 1))) : Nat) : Int))) = (((BitVec.toNat (BitVec.ofInt 64 x &&& BitVec.ofInt 64 (IntKind.wrap .u64 ((m : Int) - 1))) : Nat) : Int)) ∧
    (BitVec.toNat (BitVec.ofInt 64 x &&& BitVec.ofInt 64 (IntKind.wrap .u64 ((m : Int) - 1)))) < m := by
  have hu : ∀ z : Int, IntKind.wrap .u64 z = z % 18446744073709551616 := fun z => by simp [IntKind.wrap, IntKind.bits, IntKind.signed]
  have h1 : IntKind.wrap .u64 ((m : Int) - 1) = ((m - 1 : Nat) : Int) := by rw [hu]; omega
  rw [h1]
  have h2 : (BitVec.toNat (BitVec.ofInt 64 x &&& BitVec.ofInt 64 ((m - 1 : Nat) : Int))) < m := by
    rw [BitVec.toNat_and]
    have : (BitVec.ofInt 64 ((m - 1 : Nat) : Int)).toNat = m - 1 := by rw [BitVec.toNat_ofInt]; omega
    rw [this]
    have := Nat.and_le_right (n := (BitVec.ofInt 64 x).toNat) (m := m - 1)
    omega
  refine ⟨?_, h2⟩
  generalize (BitVec.toNat (BitVec.ofInt 64 x &&& BitVec.ofInt 64 ((m - 1 : Nat) : Int))) = r at *
  rw [hu, w64 (by omega) (by omega)]; omega

theorem brk_c (ok : I.Ok P lt) (im : I.Impl P) (ok2 : I.Ok2 P) (a b : Nat) (hab : a ≤ b) (hb : b ≤ xs.length) (h63 : xs.length < 576460752303423488) (hs : Sat w (I.arr d xs :: l)) :
    Ret P I.f_brk ([d.v, .int .i64 a, .int .i64 b] ++ I.ex).toArray w fun vs w' => vs = [] ∧ ∃ ys, Sw a b xs ys ∧ Sat w' (I.arr d ys :: l) := im.brk <| by
  haveI := ok2.xone
  haveI := ok2.xzer
  unfold SortI.brk
  obtain ⟨n, rfl⟩ : ∃ n, b = a + n := ⟨b - a, by omega⟩
  refine wp_lw (y := (n : Int)) (by rw [w64 (by omega) (by omega)]; omega) ?_
  refine wp_mid (fun v w' => ∃ ys, Sw a (a + n) xs ys ∧ Sat w' (I.arr d ys :: l)) ?_ (fun _ w' h => ⟨rfl, rfl, h⟩)
  refine wp_ite (fun hc => ?_) fun hc => ?_
  · have hc : (n : Int) ≥ 8 := of_decide_eq_true hc
    refine wp_newZ hs fun c w' hs => ⟨trivial, ?_⟩
    refine wp_st1 hs rfl rfl rfl fun w' hs => ⟨trivial, ?_⟩
    refine wp_call (ok2.pow (n := n) (by omega) (by omega) hs) fun vs w' h => ?_
    obtain ⟨m, rfl, hm1, hm2, hs⟩ := h
    refine ⟨((m : Int), ()), rfl, trivial, wp_lt ?_⟩
    have e4 : Int.tdiv (n : Int) 4 = ((n / 4 : Nat) : Int) := by rw [Int.tdiv_eq_ediv_of_nonneg (by omega)]; omega
    have e0 : IntKind.wrap .i64 ((a : Int) + IntKind.wrap .i64 (IntKind.wrap .i64 (Int.tdiv n 4) * 2)) = ((a + n / 4 * 2 : Nat) : Int) := by
      rw [e4, w64 (x := ((n / 4 : Nat) : Int)) (by omega) (by omega), w64 (x := _ * _) (by omega) (by omega), w64 (by omega) (by omega)]; omega
    rw [e0]
    refine wp_lw (y := ((a + n / 4 * 2 - 1 : Nat) : Int)) (by rw [w64 (by omega) (by omega)]; omega) ?_
    have e1 : IntKind.wrap .i64 (((a + n / 4 * 2 : Nat) : Int) + 1) = ((a + n / 4 * 2 + 1 : Nat) : Int) := by rw [w64 (by omega) (by omega)]; omega
    rw [e1]
    refine wp_mid (fun v w' => ∃ ys, Sw a (a + n) xs ys ∧ Sat w' (I.arr d ys :: l)) ?_ (fun _ w' h => wp_leave ⟨(), rfl, h⟩)
    have hs : ∃ u, Sat w' (pt c (.cells #[.int .u64 u] I.xs) :: I.arr d xs :: l) := ⟨_, hs⟩
    obtain ⟨u, hs⟩ := hs
    refine wp_loop (fun k v w => ∃ (i : Nat) (u : Int) (ys : List I.E), v = ((i : Int), ()) ∧ a + n / 4 * 2 - 1 ≤ i ∧ i ≤ a + n / 4 * 2 + 2 ∧ a + n / 4 * 2 + 2 - i = k ∧ Sw a (a + n) xs ys ∧ Sat w (pt c (.cells #[.int .u64 u] I.xs) :: I.arr d ys :: l)) 3 ⟨a + n / 4 * 2 - 1, u, xs, rfl, by omega, by omega, by omega, .refl _, hs⟩ ?_
    clear hs
    rintro k _ w ⟨i, u, ys, rfl, hi1, hi2, hk, hsw, hs⟩
    have hyl := hsw.length
    refine wp_ite (fun hc2 => ?_) fun hc2 => ?_
    · have hc2 : (i : Int) ≤ ((a + n / 4 * 2 + 1 : Nat) : Int) := of_decide_eq_true hc2
      refine wp_call (ok2.next hs) fun vs w' h => ?_
      obtain ⟨v, u', rfl, hs⟩ := h
      refine ⟨(v, ()), rfl, trivial, ?_⟩
      obtain ⟨ea, el⟩ := and_lt (x := v) hm1 (by omega)
      refine wp_lw ea ?_
      generalize BitVec.toNat (BitVec.ofInt 64 v &&& BitVec.ofInt 64 (IntKind.wrap .u64 ((m : Int) - 1))) = r at *
      refine wp_mid (fun v w' => ∃ q : Nat, v = ((q : Int), ()) ∧ q < n ∧ Sat w' (pt c (.cells #[.int .u64 u'] I.xs) :: I.arr d ys :: l)) ?_ ?_
      · refine wp_ite (fun hc3 => ?_) fun hc3 => ?_
        · have hc3 : (r : Int) ≥ n := of_decide_eq_true hc3
          refine wp_lw (y := ((r - n : Nat) : Int)) (by rw [w64 (by omega) (by omega)]; omega) ?_
          exact wp_leave ⟨(((r - n : Nat) : Int), ()), rfl, r - n, rfl, by omega, hs⟩
        · have hc3 : ¬ (r : Int) ≥ n := of_decide_eq_false hc3
          exact wp_leave ⟨((r : Int), ()), rfl, r, rfl, by omega, hs⟩
      · rintro _ w' ⟨q, rfl, hq, hs⟩
        have hs := hs.focS d
        refine wp_swap ok i (a + q) rfl (by dsimp only; rw [w64 (by omega) (by omega)]; omega) (by omega) (by omega) hs fun w' hs => ?_
        refine wp_lw (y := ((i + 1 : Nat) : Int)) (by dsimp only; rw [w64 (by omega) (by omega)]; omega) ?_
        exact wp_leave ⟨(((i + 1 : Nat) : Int), ()), a + n / 4 * 2 + 2 - (i + 1), by omega, rfl, i + 1, u', _, rfl, by omega, by omega, rfl, .step hsw (by omega) (by omega) (by omega) (by omega), hs.focB c⟩
    · refine wp_pass ?_
      exact wp_leave ⟨(), rfl, ys, hsw, (hs.focS d).perm (List.Perm.swap _ _ _) |>.tail⟩
  · exact wp_leave ⟨(), rfl, xs, .refl _, hs⟩

end
end Go.Dec
