/- Isolation: a batch, opened for rows' frames. -/
import Derived.Test.YtpjfebedfejmgaaGreatOpenZ
import Derived.Test.YtpjfebedfejmgaaGreatR1
namespace Go.Dec
open Go.ChangeShapes Go.WideShapes Go.RowKit Go.Deep
set_option linter.unusedVariables false
section
variable {H : Type} {enc : TypeId × Value → H} {P : Program} {w : World} {base : Nat} {spare : Nat → Bool} {held : Bool}

theorem trod_slice_cell {t e : TypeId} {fuel : Nat} {v : Value} {y : DataW H × List MemPlace} (ht : P.underlying t = some (.slice e)) (hd : DataW.trod enc P w base spare held fuel t [v] = some y) : ∃ x : Sl, v = .slice x.a x.len x.cap := by
  rcases DataW.trod_slice ht hd with ⟨hcs, -⟩ | ⟨a, len, cap, elems, rest, n, _, hcs, -⟩
  · exact ⟨⟨none, 0, 0⟩, by simpa using hcs⟩
  · exact ⟨⟨some a, len, cap⟩, by simpa using hcs⟩

theorem open_b7 {r : Reach} {b0 : Nat} {t e : TypeId} {f0 f1 f2 f3 f4 f5 f6 : Field} {v : Value} {d : DataW H} {ps : List MemPlace} (ht : P.underlying t = some (.struct #[f0, f1, f2, f3, f4, f5, f6]))
    (hone : oneCellFields P #[f0, f1, f2, f3, f4, f5, f6] = true) (hC : P.cellsOf t = 7) (k0 : P.underlying f0.type = some (.int .i64)) (k1 : P.underlying f1.type = some (.int .i64)) (k2 : P.underlying f2.type = some (.int .i64)) (k3 : P.underlying f3.type = some (.int .i64))
    (k4 : P.underlying f4.type = some (.int .i64)) (k5 : P.underlying f5.type = some (.int .i64)) (k6 : P.underlying f6.type = some (.slice e))
    (hval : Value.okWide P w r b0 t v) (hd : DataW.Trod enc P w base spare held t v d ps) : ∃ b : BatM, v = .agg (encB7 b).toArray := by
  obtain ⟨cs, rfl, hsz⟩ := okWide_struct ht hval
  obtain ⟨fuel, hf⟩ := hd
  obtain ⟨ys, n', hn', hy, hlen, hyl, hf⟩ := DataW.trod_struct ht hf
  have hcs : (Value.agg cs).cells.toList = cs.toList := rfl
  rw [hcs] at hlen hf
  rw [hC] at hlen
  have one : ∀ (j : Nat) (f : Field), #[f0, f1, f2, f3, f4, f5, f6][j]? = some f → ∃ (u : Value) (y : DataW H × List MemPlace), cs.toList[j]? = some u ∧ DataW.trod enc P w base spare held n' f.type [u] = some y := fun j f hj => by
    obtain ⟨ho, hk⟩ := hone_of hone j f hj
    have hjl : j < 7 := (Array.getElem?_eq_some_iff.1 hj).1
    have h1 := hf j f hj
    rw [ho, hk] at h1
    have hone' : (cs.toList.drop j).take 1 = [cs.toList[j]'(by omega)] := by
      rw [List.drop_eq_getElem_cons (by omega)]; rfl
    have hyl : ys.length = 7 := hyl
    rw [hone', List.getElem?_eq_getElem (by omega)] at h1
    exact ⟨_, _, List.getElem?_eq_getElem (by omega), h1⟩
  match hcl : cs.toList, hlen with
  | [v0, v1, v2, v3, v4, v5, v6], _ =>
    rw [hcl] at one
    obtain ⟨u0, y0, e0, h0⟩ := one 0 f0 rfl
    obtain ⟨u1, y1, e1, h1⟩ := one 1 f1 rfl
    obtain ⟨u2, y2, e2, h2⟩ := one 2 f2 rfl
    obtain ⟨u3, y3, e3, h3⟩ := one 3 f3 rfl
    obtain ⟨u4, y4, e4, h4⟩ := one 4 f4 rfl
    obtain ⟨u5, y5, e5, h5⟩ := one 5 f5 rfl
    obtain ⟨u6, y6, e6, h6⟩ := one 6 f6 rfl
    obtain rfl : v0 = u0 := by simpa using e0
    obtain rfl : v1 = u1 := by simpa using e1
    obtain rfl : v2 = u2 := by simpa using e2
    obtain rfl : v3 = u3 := by simpa using e3
    obtain rfl : v4 = u4 := by simpa using e4
    obtain rfl : v5 = u5 := by simpa using e5
    obtain rfl : v6 = u6 := by simpa using e6
    obtain ⟨n0, q0, -, -⟩ := DataW.trod_int k0 h0
    obtain ⟨n1, q1, -, -⟩ := DataW.trod_int k1 h1
    obtain ⟨n2, q2, -, -⟩ := DataW.trod_int k2 h2
    obtain ⟨n3, q3, -, -⟩ := DataW.trod_int k3 h3
    obtain ⟨n4, q4, -, -⟩ := DataW.trod_int k4 h4
    obtain ⟨n5, q5, -, -⟩ := DataW.trod_int k5 h5
    obtain ⟨x, q6⟩ := trod_slice_cell k6 h6
    simp only [List.cons.injEq, and_true] at q0 q1 q2 q3 q4 q5
    subst q0 q1 q2 q3 q4 q5 q6
    refine ⟨⟨n0, n1, n2, n3, n4, n5, x, []⟩, ?_⟩
    congr 1
    apply Array.ext'
    rw [hcl]; rfl
end
end Go.Dec
