/- Sorting, part E: scans; partition. -/
import Derived.Test.YtpjfebedfejmgaaSortD
namespace Go.Dec
set_option linter.unusedVariables false
set_option linter.unusedSimpArgs false

section
variable {P : Program} {I : SortI} {lt : I.E → I.E → Bool} {w : World} {l : List HP} {Q : Post} {d : Sl} {xs : List I.E}

theorem scan_up1 (ok : I.Ok P lt) (x0 : I.E) {e e1 e2 : Nat} {f : Bool → Bool} (i j a : Nat) {K : Int × Unit → Prog} (h12 : Nat.beq e e1 = false := by rfl) (hij : i ≤ j + 1) (hj : j < xs.length) (ha : a < xs.length) (h63 : xs.length < 2305843009213693952) (hs : Sat w (I.arr d xs :: l))
    (h : ∀ (r : Nat) w', i ≤ r → r ≤ j + 1 → (∀ k, i ≤ k → k < r → f (ltAt lt xs k a) = true) → (r ≤ j → f (ltAt lt xs r a) = false) → Sat w' (I.arr d xs :: l) → (K ((r : Int), ())).wp P tt w' Q) :
    (Prog.bind e [.one (.int .i64)] (.loop e1 [.one (.int .i64)] ((i : Int), ()) (u1 fun (n : Int) => (.bind e2 [.one .bool] (.tick <| .ex [.adr] (c1 fun z => decide (n ≤ (j : Int)) = true → 0 ≤ n ∧ n < ((d.len : Nat) : Int) ∧ d.a = some z) (u1 fun a' => .read (decide (n ≤ (j : Int)) = true) (ld I.T (Addr.add a' (Int.toNat n * I.sz))) (.one I.s) (fun x =>
      .ex [.adr] (c1 fun z => decide (n ≤ (j : Int)) = true → 0 ≤ (a : Int) ∧ (a : Int) < ((d.len : Nat) : Int) ∧ d.a = some z) (u1 fun a' => .read (decide (n ≤ (j : Int)) = true) (ld I.T (Addr.add a' (Int.toNat (a : Int) * I.sz))) (.one I.s) (fun y =>
      .ite (decide (n ≤ (j : Int))) (I.less x y (fun b => .untick (.done e2 [.bool (f b)]))) (.untick (.done e2 [.bool false]))))))) (u1 fun b => .ite b (.lt (.int .i64) (IntKind.wrap .i64 (n + 1)) fun n' => .done e1 [.int .i64 n']) (.done e [.int .i64 n]))))) K).wp P tt w Q := by
  refine wp_mid (fun v w' => ∃ r : Nat, v = ((r : Int), ()) ∧ i ≤ r ∧ r ≤ j + 1 ∧ (∀ k, i ≤ k → k < r → f (ltAt lt xs k a) = true) ∧ (r ≤ j → f (ltAt lt xs r a) = false) ∧ Sat w' (I.arr d xs :: l)) ?_ (by rintro _ w' ⟨r, rfl, h1, h2, h3, h4, hs⟩; exact h r w' h1 h2 h3 h4 hs)
  refine wp_loop (fun m v w => ∃ r : Nat, v = ((r : Int), ()) ∧ i ≤ r ∧ r ≤ j + 1 ∧ j + 1 - r = m ∧ (∀ k, i ≤ k → k < r → f (ltAt lt xs k a) = true) ∧ Sat w (I.arr d xs :: l)) (j + 1 - i) ⟨i, rfl, by omega, hij, rfl, fun k h1 h2 => by omega, hs⟩ ?_
  rintro m _ w ⟨r, rfl, h1, h2, h3, h4, hs⟩
  refine wp_gcmp ok (f := f) r a (fun hg => ⟨rfl, by have hg : (r : Int) ≤ (j : Int) := of_decide_eq_true hg; omega⟩) (fun _ => ⟨rfl, ha⟩) x0 hs fun w' hs => ?_
  refine wp_ite (fun hc => ?_) fun hc => ?_
  · have hc : (decide ((r : Int) ≤ (j : Int)) && f (ltAt lt xs r a)) = true := hc
    simp only [Bool.and_eq_true, decide_eq_true_eq] at hc
    refine wp_lw (y := ((r + 1 : Nat) : Int)) (by dsimp only; rw [w64 (by omega) (by omega)]; omega) ?_
    refine wp_leave ⟨(((r + 1 : Nat) : Int), ()), j + 1 - (r + 1), by omega, rfl, r + 1, rfl, by omega, by omega, rfl, fun k k1 k2 => ?_, hs⟩
    by_cases hk : k = r
    · subst hk; exact hc.2
    · exact h4 k (by omega) (by omega)
  · have hc : (decide ((r : Int) ≤ (j : Int)) && f (ltAt lt xs r a)) = false := hc
    refine wp_pass ?_ h12
    refine wp_leave ⟨((r : Int), ()), rfl, r, rfl, h1, h2, h4, fun hr => ?_, hs⟩
    rwa [decide_eq_true (show (r : Int) ≤ (j : Int) by omega), Bool.true_and] at hc

theorem scan_dn1 (ok : I.Ok P lt) (x0 : I.E) {e e1 e2 : Nat} {f : Bool → Bool} (i j a : Nat) {K : Int × Unit → Prog} (h12 : Nat.beq e e1 = false := by rfl) (hij : i ≤ j + 1) (hi1 : 1 ≤ i) (hj : j < xs.length) (ha : a < xs.length) (h63 : xs.length < 2305843009213693952) (hs : Sat w (I.arr d xs :: l))
    (h : ∀ (r : Nat) w', i ≤ r + 1 → r ≤ j → (∀ k, r < k → k ≤ j → f (ltAt lt xs k a) = true) → (i ≤ r → f (ltAt lt xs r a) = false) → Sat w' (I.arr d xs :: l) → (K ((r : Int), ())).wp P tt w' Q) :
    (Prog.bind e [.one (.int .i64)] (.loop e1 [.one (.int .i64)] ((j : Int), ()) (u1 fun (n : Int) => (.bind e2 [.one .bool] (.tick <| .ex [.adr] (c1 fun z => decide ((i : Int) ≤ n) = true → 0 ≤ n ∧ n < ((d.len : Nat) : Int) ∧ d.a = some z) (u1 fun a' => .read (decide ((i : Int) ≤ n) = true) (ld I.T (Addr.add a' (Int.toNat n * I.sz))) (.one I.s) (fun x =>
      .ex [.adr] (c1 fun z => decide ((i : Int) ≤ n) = true → 0 ≤ (a : Int) ∧ (a : Int) < ((d.len : Nat) : Int) ∧ d.a = some z) (u1 fun a' => .read (decide ((i : Int) ≤ n) = true) (ld I.T (Addr.add a' (Int.toNat (a : Int) * I.sz))) (.one I.s) (fun y =>
      .ite (decide ((i : Int) ≤ n)) (I.less x y (fun b => .untick (.done e2 [.bool (f b)]))) (.untick (.done e2 [.bool false]))))))) (u1 fun b => .ite b (.lt (.int .i64) (IntKind.wrap .i64 (n - 1)) fun n' => .done e1 [.int .i64 n']) (.done e [.int .i64 n]))))) K).wp P tt w Q := by
  refine wp_mid (fun v w' => ∃ r : Nat, v = ((r : Int), ()) ∧ i ≤ r + 1 ∧ r ≤ j ∧ (∀ k, r < k → k ≤ j → f (ltAt lt xs k a) = true) ∧ (i ≤ r → f (ltAt lt xs r a) = false) ∧ Sat w' (I.arr d xs :: l)) ?_ (by rintro _ w' ⟨r, rfl, h1, h2, h3, h4, hs⟩; exact h r w' h1 h2 h3 h4 hs)
  refine wp_loop (fun m v w => ∃ r : Nat, v = ((r : Int), ()) ∧ i ≤ r + 1 ∧ r ≤ j ∧ r = m ∧ (∀ k, r < k → k ≤ j → f (ltAt lt xs k a) = true) ∧ Sat w (I.arr d xs :: l)) j ⟨j, rfl, hij, by omega, rfl, fun k h1 h2 => by omega, hs⟩ ?_
  rintro m _ w ⟨r, rfl, h1, h2, h3, h4, hs⟩
  refine wp_gcmp ok (f := f) r a (fun hg => ⟨rfl, by have hg : (i : Int) ≤ (r : Int) := of_decide_eq_true hg; omega⟩) (fun _ => ⟨rfl, ha⟩) x0 hs fun w' hs => ?_
  refine wp_ite (fun hc => ?_) fun hc => ?_
  · have hc : (decide ((i : Int) ≤ (r : Int)) && f (ltAt lt xs r a)) = true := hc
    simp only [Bool.and_eq_true, decide_eq_true_eq] at hc
    refine wp_lw (y := ((r - 1 : Nat) : Int)) (by dsimp only; rw [w64 (by omega) (by omega)]; omega) ?_
    refine wp_leave ⟨(((r - 1 : Nat) : Int), ()), r - 1, by omega, rfl, r - 1, rfl, by omega, by omega, rfl, fun k k1 k2 => ?_, hs⟩
    by_cases hk : k = r
    · subst hk; exact hc.2
    · exact h4 k (by omega) (by omega)
  · have hc : (decide ((i : Int) ≤ (r : Int)) && f (ltAt lt xs r a)) = false := hc
    refine wp_pass ?_ h12
    refine wp_leave ⟨((r : Int), ()), rfl, r, rfl, h1, h2, h4, fun hr => ?_, hs⟩
    rwa [decide_eq_true (show (i : Int) ≤ (r : Int) by omega), Bool.true_and] at hc

theorem scan_up2 (ok : I.Ok P lt) (x0 : I.E) {e e1 e2 : Nat} {f : Bool → Bool} (i j a : Nat) {K : Int × Unit → Prog} (h12 : Nat.beq e e1 = false := by rfl) (hij : i ≤ j + 1) (hj : j < xs.length) (ha : a < xs.length) (h63 : xs.length < 2305843009213693952) (hs : Sat w (I.arr d xs :: l))
    (h : ∀ (r : Nat) w', i ≤ r → r ≤ j + 1 → (∀ k, i ≤ k → k < r → f (ltAt lt xs a k) = true) → (r ≤ j → f (ltAt lt xs a r) = false) → Sat w' (I.arr d xs :: l) → (K ((r : Int), ())).wp P tt w' Q) :
    (Prog.bind e [.one (.int .i64)] (.loop e1 [.one (.int .i64)] ((i : Int), ()) (u1 fun (n : Int) => (.bind e2 [.one .bool] (.tick <| .ex [.adr] (c1 fun z => decide (n ≤ (j : Int)) = true → 0 ≤ (a : Int) ∧ (a : Int) < ((d.len : Nat) : Int) ∧ d.a = some z) (u1 fun a' => .read (decide (n ≤ (j : Int)) = true) (ld I.T (Addr.add a' (Int.toNat (a : Int) * I.sz))) (.one I.s) (fun x =>
      .ex [.adr] (c1 fun z => decide (n ≤ (j : Int)) = true → 0 ≤ n ∧ n < ((d.len : Nat) : Int) ∧ d.a = some z) (u1 fun a' => .read (decide (n ≤ (j : Int)) = true) (ld I.T (Addr.add a' (Int.toNat n * I.sz))) (.one I.s) (fun y =>
      .ite (decide (n ≤ (j : Int))) (I.less x y (fun b => .untick (.done e2 [.bool (f b)]))) (.untick (.done e2 [.bool false]))))))) (u1 fun b => .ite b (.lt (.int .i64) (IntKind.wrap .i64 (n + 1)) fun n' => .done e1 [.int .i64 n']) (.done e [.int .i64 n]))))) K).wp P tt w Q := by
  refine wp_mid (fun v w' => ∃ r : Nat, v = ((r : Int), ()) ∧ i ≤ r ∧ r ≤ j + 1 ∧ (∀ k, i ≤ k → k < r → f (ltAt lt xs a k) = true) ∧ (r ≤ j → f (ltAt lt xs a r) = false) ∧ Sat w' (I.arr d xs :: l)) ?_ (by rintro _ w' ⟨r, rfl, h1, h2, h3, h4, hs⟩; exact h r w' h1 h2 h3 h4 hs)
  refine wp_loop (fun m v w => ∃ r : Nat, v = ((r : Int), ()) ∧ i ≤ r ∧ r ≤ j + 1 ∧ j + 1 - r = m ∧ (∀ k, i ≤ k → k < r → f (ltAt lt xs a k) = true) ∧ Sat w (I.arr d xs :: l)) (j + 1 - i) ⟨i, rfl, by omega, hij, rfl, fun k h1 h2 => by omega, hs⟩ ?_
  rintro m _ w ⟨r, rfl, h1, h2, h3, h4, hs⟩
  refine wp_gcmp ok (f := f) a r (fun _ => ⟨rfl, ha⟩) (fun hg => ⟨rfl, by have hg : (r : Int) ≤ (j : Int) := of_decide_eq_true hg; omega⟩) x0 hs fun w' hs => ?_
  refine wp_ite (fun hc => ?_) fun hc => ?_
  · have hc : (decide ((r : Int) ≤ (j : Int)) && f (ltAt lt xs a r)) = true := hc
    simp only [Bool.and_eq_true, decide_eq_true_eq] at hc
    refine wp_lw (y := ((r + 1 : Nat) : Int)) (by dsimp only; rw [w64 (by omega) (by omega)]; omega) ?_
    refine wp_leave ⟨(((r + 1 : Nat) : Int), ()), j + 1 - (r + 1), by omega, rfl, r + 1, rfl, by omega, by omega, rfl, fun k k1 k2 => ?_, hs⟩
    by_cases hk : k = r
    · subst hk; exact hc.2
    · exact h4 k (by omega) (by omega)
  · have hc : (decide ((r : Int) ≤ (j : Int)) && f (ltAt lt xs a r)) = false := hc
    refine wp_pass ?_ h12
    refine wp_leave ⟨((r : Int), ()), rfl, r, rfl, h1, h2, h4, fun hr => ?_, hs⟩
    rwa [decide_eq_true (show (r : Int) ≤ (j : Int) by omega), Bool.true_and] at hc

theorem scan_dn2 (ok : I.Ok P lt) (x0 : I.E) {e e1 e2 : Nat} {f : Bool → Bool} (i j a : Nat) {K : Int × Unit → Prog} (h12 : Nat.beq e e1 = false := by rfl) (hij : i ≤ j + 1) (hi1 : 1 ≤ i) (hj : j < xs.length) (ha : a < xs.length) (h63 : xs.length < 2305843009213693952) (hs : Sat w (I.arr d xs :: l))
    (h : ∀ (r : Nat) w', i ≤ r + 1 → r ≤ j → (∀ k, r < k → k ≤ j → f (ltAt lt xs a k) = true) → (i ≤ r → f (ltAt lt xs a r) = false) → Sat w' (I.arr d xs :: l) → (K ((r : Int), ())).wp P tt w' Q) :
    (Prog.bind e [.one (.int .i64)] (.loop e1 [.one (.int .i64)] ((j : Int), ()) (u1 fun (n : Int) => (.bind e2 [.one .bool] (.tick <| .ex [.adr] (c1 fun z => decide ((i : Int) ≤ n) = true → 0 ≤ (a : Int) ∧ (a : Int) < ((d.len : Nat) : Int) ∧ d.a = some z) (u1 fun a' => .read (decide ((i : Int) ≤ n) = true) (ld I.T (Addr.add a' (Int.toNat (a : Int) * I.sz))) (.one I.s) (fun x =>
      .ex [.adr] (c1 fun z => decide ((i : Int) ≤ n) = true → 0 ≤ n ∧ n < ((d.len : Nat) : Int) ∧ d.a = some z) (u1 fun a' => .read (decide ((i : Int) ≤ n) = true) (ld I.T (Addr.add a' (Int.toNat n * I.sz))) (.one I.s) (fun y =>
      .ite (decide ((i : Int) ≤ n)) (I.less x y (fun b => .untick (.done e2 [.bool (f b)]))) (.untick (.done e2 [.bool false]))))))) (u1 fun b => .ite b (.lt (.int .i64) (IntKind.wrap .i64 (n - 1)) fun n' => .done e1 [.int .i64 n']) (.done e [.int .i64 n]))))) K).wp P tt w Q := by
  refine wp_mid (fun v w' => ∃ r : Nat, v = ((r : Int), ()) ∧ i ≤ r + 1 ∧ r ≤ j ∧ (∀ k, r < k → k ≤ j → f (ltAt lt xs a k) = true) ∧ (i ≤ r → f (ltAt lt xs a r) = false) ∧ Sat w' (I.arr d xs :: l)) ?_ (by rintro _ w' ⟨r, rfl, h1, h2, h3, h4, hs⟩; exact h r w' h1 h2 h3 h4 hs)
  refine wp_loop (fun m v w => ∃ r : Nat, v = ((r : Int), ()) ∧ i ≤ r + 1 ∧ r ≤ j ∧ r = m ∧ (∀ k, r < k → k ≤ j → f (ltAt lt xs a k) = true) ∧ Sat w (I.arr d xs :: l)) j ⟨j, rfl, hij, by omega, rfl, fun k h1 h2 => by omega, hs⟩ ?_
  rintro m _ w ⟨r, rfl, h1, h2, h3, h4, hs⟩
  refine wp_gcmp ok (f := f) a r (fun _ => ⟨rfl, ha⟩) (fun hg => ⟨rfl, by have hg : (i : Int) ≤ (r : Int) := of_decide_eq_true hg; omega⟩) x0 hs fun w' hs => ?_
  refine wp_ite (fun hc => ?_) fun hc => ?_
  · have hc : (decide ((i : Int) ≤ (r : Int)) && f (ltAt lt xs a r)) = true := hc
    simp only [Bool.and_eq_true, decide_eq_true_eq] at hc
    refine wp_lw (y := ((r - 1 : Nat) : Int)) (by dsimp only; rw [w64 (by omega) (by omega)]; omega) ?_
    refine wp_leave ⟨(((r - 1 : Nat) : Int), ()), r - 1, by omega, rfl, r - 1, rfl, by omega, by omega, rfl, fun k k1 k2 => ?_, hs⟩
    by_cases hk : k = r
    · subst hk; exact hc.2
    · exact h4 k (by omega) (by omega)
  · have hc : (decide ((i : Int) ≤ (r : Int)) && f (ltAt lt xs a r)) = false := hc
    refine wp_pass ?_ h12
    refine wp_leave ⟨((r : Int), ()), rfl, r, rfl, h1, h2, h4, fun hr => ?_, hs⟩
    rwa [decide_eq_true (show (i : Int) ≤ (r : Int) by omega), Bool.true_and] at hc

end
end Go.Dec
