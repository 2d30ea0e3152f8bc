/- Disks: a list of calls, opened for rows' frames. -/
import Derived.Test.YtnfaklmndojeaaaOpen2
import Derived.Test.YtnfaklmndojeaaaGrow
import Derived.Test.YtnfaklmndojeaaaE7
namespace Go.Dec
open Go.ChangeShapes Go.WideShapes Go.RowKit Go.Deep
set_option linter.unusedVariables false
section
variable {H : Type} {enc : TypeId × Value → H} {P : Program} {w : World} {base : Nat} {held : Bool}

theorem open_ops {r : Reach} {b0 : Nat} {t e g : TypeId} {f0 f1 f2 f3 f4 f5 : Field} {v : Value} {d : DataW H} {ps : List MemPlace} (ht : P.underlying t = some (.slice e)) (he : P.underlying e = some (.struct #[f0, f1, f2, f3, f4, f5]))
    (hone : oneCellFields P #[f0, f1, f2, f3, f4, f5] = true) (hC : P.cellsOf e = 6) (k0 : P.underlying f0.type = some (.int .i64)) (k1 : P.underlying f1.type = some .string) (k2 : P.underlying f2.type = some .string) (k3 : P.underlying f3.type = some .string)
    (k4 : P.underlying f4.type = some (.int .i64)) (k5 : P.underlying f5.type = some (.slice g)) (kg : P.underlying g = some (.int .i64)) (cg : P.cellsOf g = 1)
    (hval : Value.okWide P w r b0 t v) (hd : DataW.Trod enc P w base (fun _ => true) held t v d ps) :
    ∃ (x : Sl) (ops : List OpM), v = x.v ∧ x.len ≤ x.cap ∧ x.len = ops.length ∧ x.cap ≤ maxLen ∧ (∀ o ∈ ops, (Lit.int .i64 o.n).wf = true ∧ o.px.len ≤ o.px.cap ∧ Rd w 1 o.px (o.ps.flatMap encI)) ∧ Rd w 6 x (ops.flatMap encOp) := by
  refine open_rows (fs := #[f0, f1, f2, f3, f4, f5]) ht he hone hC (Nat.zero_lt_succ 5) (fun n vs hl hf => ?_) hval hd
  match vs, hl with
  | [v0, v1, v2, v3, v4, v5], _ =>
    obtain ⟨u0, y0, e0, h0⟩ := hf 0 f0 rfl
    obtain ⟨u1, y1, e1, h1⟩ := hf 1 f1 rfl
    obtain ⟨u2, y2, e2, h2⟩ := hf 2 f2 rfl
    obtain ⟨u3, y3, e3, h3⟩ := hf 3 f3 rfl
    obtain ⟨u4, y4, e4, h4⟩ := hf 4 f4 rfl
    obtain ⟨u5, y5, e5, h5⟩ := hf 5 f5 rfl
    obtain rfl : v0 = u0 := by simpa using e0
    obtain rfl : v1 = u1 := by simpa using e1
    obtain rfl : v2 = u2 := by simpa using e2
    obtain rfl : v3 = u3 := by simpa using e3
    obtain rfl : v4 = u4 := by simpa using e4
    obtain rfl : v5 = u5 := by simpa using e5
    obtain ⟨n0, q0, -, -⟩ := DataW.trod_int k0 h0
    obtain ⟨s1, q1, -, -⟩ := DataW.trod_string k1 h1
    obtain ⟨s2, q2, -, -⟩ := DataW.trod_string k2 h2
    obtain ⟨s3, q3, -, -⟩ := DataW.trod_string k3 h3
    obtain ⟨n4, q4, -, w4⟩ := DataW.trod_int k4 h4
    obtain ⟨x, zs, q5, hcap, -, -, hrd⟩ := trod_islice k5 kg cg h5
    simp only [List.cons.injEq, and_true] at q0 q1 q2 q3 q4
    subst q0 q1 q2 q3 q4 q5
    exact ⟨⟨n0, s1, s2, s3, n4, x, zs⟩, rfl, w4, hcap, hrd⟩

theorem wf_int {n : Int} (h : (Lit.int .i64 n).wf = true) : -9223372036854775808 ≤ n ∧ n ≤ 9223372036854775807 := by
  have := wf64 h
  omega
theorem len_max {x : Sl} {n : Nat} (h1 : x.len ≤ x.cap) (h2 : x.len = n) (h3 : x.cap ≤ maxLen) : n ≤ 9223372036854775807 := by
  have : maxLen = 9223372036854775807 := by decide
  omega
theorem opIn_whole {W : World} {o : OpM} (h : (Lit.int .i64 o.n).wf = true ∧ o.px.len ≤ o.px.cap ∧ Rd W 1 o.px (o.ps.flatMap encI)) :
    (-9223372036854775808 ≤ o.n ∧ o.n ≤ 9223372036854775807) ∧ o.px.len ≤ o.px.cap ∧ ∀ w, Sat w [whole W] → Rd w 1 o.px (o.ps.flatMap encI) :=
  ⟨wf_int h.1, h.2.1, fun w hs => rd_keep hs.of_whole.1 h.2.2⟩
end
end Go.Dec
