/- Isolation: a list of calls, opened for rows' frames. -/
import Derived.Test.YtpjfebedfejmgaaGreatOpenZ
import Derived.Test.YtpjfebedfejmgaaGreatO1
import Derived.Test.YtpjfebedfejmgaaGreatT2
namespace Go.Dec
open Go.ChangeShapes Go.WideShapes Go.RowKit Go.Deep
set_option linter.unusedVariables false
section
variable {H : Type} {enc : TypeId × Value → H} {P : Program} {w : World} {base : Nat} {spare : Nat → Bool} {held : Bool}

theorem trod_fields {t : TypeId} {fs : Array Field} {n C : Nat} {cs : List Value} {y : DataW H × List MemPlace} (ht : P.underlying t = some (.struct fs)) (hd : DataW.trod enc P w base spare held n t cs = some y) (hC : P.cellsOf t = C) :
    cs.length = C ∧ ∃ n', ∀ (j : Nat) (f : Field), fs[j]? = some f → ∃ y, DataW.trod enc P w base spare held n' f.type ((cs.drop f.offset).take (P.cellsOf f.type)) = some y := by
  obtain ⟨ys, n', hn', hy, hlen, hyl, hf⟩ := DataW.trod_struct ht hd
  refine ⟨by rw [hlen, hC], n', fun j f hj => ?_⟩
  have hjl : j < fs.size := (Array.getElem?_eq_some_iff.1 hj).1
  have h1 := hf j f hj
  rw [List.getElem?_eq_getElem (by omega)] at h1
  exact ⟨_, h1⟩

theorem read_rec {t : TypeId} {f0 f1 f2 f3 : Field} {n : Nat} {cs : List Value} {y : DataW H × List MemPlace} (ht : P.underlying t = some (.struct #[f0, f1, f2, f3])) (hC : P.cellsOf t = 4) (k0 : P.underlying f0.type = some .string) (k1 : P.underlying f1.type = some .string) (k2 : P.underlying f2.type = some .bool) (k3 : P.underlying f3.type = some (.int .i64))
    (o0 : f0.offset = 0) (o1 : f1.offset = 1) (o2 : f2.offset = 2) (o3 : f3.offset = 3) (c0 : P.cellsOf f0.type = 1) (c1 : P.cellsOf f1.type = 1) (c2 : P.cellsOf f2.type = 1) (c3 : P.cellsOf f3.type = 1)
    (hd : DataW.trod enc P w base spare held n t cs = some y) : ∃ r : RecM, cs = encR r ∧ True := by
  obtain ⟨hl, n', hf⟩ := trod_fields ht hd hC
  match cs, hl with
  | [v0, v1, v2, v3], _ =>
    obtain ⟨y0, h0⟩ := hf 0 f0 rfl
    obtain ⟨y1, h1⟩ := hf 1 f1 rfl
    obtain ⟨y2, h2⟩ := hf 2 f2 rfl
    obtain ⟨y3, h3⟩ := hf 3 f3 rfl
    rw [o0, c0] at h0
    rw [o1, c1] at h1
    rw [o2, c2] at h2
    rw [o3, c3] at h3
    obtain ⟨s0, q0, -, -⟩ := DataW.trod_string k0 h0
    obtain ⟨s1, q1, -, -⟩ := DataW.trod_string k1 h1
    obtain ⟨b2, q2, -⟩ := DataW.trod_bool k2 h2
    obtain ⟨n3, q3, -, -⟩ := DataW.trod_int k3 h3
    simp at q0 q1 q2 q3
    subst q0 q1 q2 q3
    exact ⟨⟨s0, s1, b2, n3⟩, rfl, trivial⟩

theorem read_op {t tr : TypeId} {f0 f1 f2 f3 b0 b1 b2 b3 b4 b5 b6 : Field} {n : Nat} {cs : List Value} {y : DataW H × List MemPlace} (ht : P.underlying t = some (.struct #[f0, f1, f2, f3])) (hC : P.cellsOf t = 10)
    (k0 : P.underlying f0.type = some (.int .i64)) (k1 : P.underlying f1.type = some (.struct #[b0, b1, b2, b3, b4, b5, b6])) (k2 : P.underlying f2.type = some .bool) (k3 : P.underlying f3.type = some (.int .i64))
    (o0 : f0.offset = 0) (o1 : f1.offset = 1) (o2 : f2.offset = 8) (o3 : f3.offset = 9) (c0 : P.cellsOf f0.type = 1) (c1 : P.cellsOf f1.type = 7) (c2 : P.cellsOf f2.type = 1) (c3 : P.cellsOf f3.type = 1)
    (hone : oneCellFields P #[b0, b1, b2, b3, b4, b5, b6] = true) (l0 : P.underlying b0.type = some (.int .i64)) (l1 : P.underlying b1.type = some (.int .i64)) (l2 : P.underlying b2.type = some (.int .i64)) (l3 : P.underlying b3.type = some (.int .i64)) (l4 : P.underlying b4.type = some (.int .i64)) (l5 : P.underlying b5.type = some (.int .i64))
    (l6 : P.underlying b6.type = some (.slice tr)) (hR : P.cellsOf tr = 4) (hrec : ∀ (n : Nat) (cs : List Value) (y : DataW H × List MemPlace), cs.length = 4 → DataW.trod enc P w base spare held n tr cs = some y → ∃ r : RecM, cs = encR r ∧ True)
    (hd : DataW.trod enc P w base spare held n t cs = some y) : ∃ o : OpI, cs = encO o ∧ Rd w 4 o.b.x (o.b.rs.flatMap encR) := by
  obtain ⟨hl, n', hf⟩ := trod_fields ht hd hC
  match cs, hl with
  | [v0, v1, v2, v3, v4, v5, v6, v7, v8, v9], _ =>
    obtain ⟨y0, h0⟩ := hf 0 f0 rfl
    obtain ⟨y1, h1⟩ := hf 1 f1 rfl
    obtain ⟨y2, h2⟩ := hf 2 f2 rfl
    obtain ⟨y3, h3⟩ := hf 3 f3 rfl
    rw [o0, c0] at h0
    rw [o1, c1] at h1
    rw [o2, c2] at h2
    rw [o3, c3] at h3
    obtain ⟨n0, q0, -, -⟩ := DataW.trod_int k0 h0
    obtain ⟨b8, q8, -⟩ := DataW.trod_bool k2 h2
    obtain ⟨n9, q9, -, -⟩ := DataW.trod_int k3 h3
    have h1 : DataW.trod enc P w base spare held n' f1.type [v1, v2, v3, v4, v5, v6, v7] = some y1 := h1
    obtain ⟨-, m, hg⟩ := trod_fields k1 h1 c1
    have one : ∀ (j : Nat) (f : Field) (u : Value), #[b0, b1, b2, b3, b4, b5, b6][j]? = some f → [v1, v2, v3, v4, v5, v6, v7][j]? = some u → ∃ y, DataW.trod enc P w base spare held m f.type [u] = some y := fun j f u hj hu => by
      obtain ⟨ho, hk⟩ := hone_of hone j f hj
      obtain ⟨y, h1⟩ := hg j f hj
      rw [ho, hk] at h1
      obtain ⟨hjl, rfl⟩ := List.getElem?_eq_some_iff.1 hu
      have hone' : ([v1, v2, v3, v4, v5, v6, v7].drop j).take 1 = [[v1, v2, v3, v4, v5, v6, v7][j]] := by
        rw [List.drop_eq_getElem_cons hjl]; rfl
      rw [hone'] at h1
      exact ⟨y, h1⟩
    obtain ⟨z0, e0⟩ := one 0 b0 v1 rfl rfl
    obtain ⟨z1, e1⟩ := one 1 b1 v2 rfl rfl
    obtain ⟨z2, e2⟩ := one 2 b2 v3 rfl rfl
    obtain ⟨z3, e3⟩ := one 3 b3 v4 rfl rfl
    obtain ⟨z4, e4⟩ := one 4 b4 v5 rfl rfl
    obtain ⟨z5, e5⟩ := one 5 b5 v6 rfl rfl
    obtain ⟨z6, e6⟩ := one 6 b6 v7 rfl rfl
    obtain ⟨m0, p0, -, -⟩ := DataW.trod_int l0 e0
    obtain ⟨m1, p1, -, -⟩ := DataW.trod_int l1 e1
    obtain ⟨m2, p2, -, -⟩ := DataW.trod_int l2 e2
    obtain ⟨m3, p3, -, -⟩ := DataW.trod_int l3 e3
    obtain ⟨m4, p4, -, -⟩ := DataW.trod_int l4 e4
    obtain ⟨m5, p5, -, -⟩ := DataW.trod_int l5 e5
    obtain ⟨x, rs, p6, -, -, -, -, hrd⟩ := trod_rows l6 hR (by decide) hrec e6
    simp at q0 q8 q9 p0 p1 p2 p3 p4 p5
    subst q0 q8 q9 p0 p1 p2 p3 p4 p5 p6
    exact ⟨⟨n0, ⟨m0, m1, m2, m3, m4, m5, x, rs⟩, b8, n9⟩, rfl, hrd⟩

theorem len_max8 {x : Sl} {n : Nat} (h1 : x.len ≤ x.cap) (h2 : x.len = n) (h3 : x.cap ≤ maxLen) : n ≤ 9223372036854775807 := by
  have : maxLen = 9223372036854775807 := by decide
  omega
theorem opJ_whole {W : World} {o : OpI} (h : Rd W 4 o.b.x (o.b.rs.flatMap encR)) : OpJ [whole W] o := ⟨fun w hs => rd_keep hs.of_whole.1 h⟩
/-- A value that is a slice, its datum's steps. -/
theorem trod_of {t e : TypeId} {r : Reach} {b0 : Nat} {v : Value} {d : DataW H} {ps : List MemPlace} (ht : P.underlying t = some (.slice e)) (hval : Value.okWide P w r b0 t v) (hd : DataW.Trod enc P w base spare held t v d ps) : ∃ (fuel : Nat) (y : DataW H × List MemPlace), DataW.trod enc P w base spare held fuel t [v] = some y := by
  obtain ⟨a0, len0, cap0, rfl⟩ := okWide_slice ht hval
  obtain ⟨fuel, hf⟩ := hd
  exact ⟨fuel, _, hf⟩
end
end Go.Dec
