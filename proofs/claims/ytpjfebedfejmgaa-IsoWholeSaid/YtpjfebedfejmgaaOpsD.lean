/- Ops, part D: elements of slices, read; numbers. -/
import Derived.Test.YtpjfebedfejmgaaOpsC
namespace Go.Dec
set_option linter.unusedVariables false
set_option linter.unusedSimpArgs false

/-! ### Numbers -/
theorem wrap_eq (x : Int) : IntKind.wrap .i64 x = if x % 18446744073709551616 ≥ 9223372036854775808 then x % 18446744073709551616 - 18446744073709551616 else x % 18446744073709551616 := by
  by_cases h : x % 18446744073709551616 ≥ 9223372036854775808
  · rw [if_pos h]; simp [IntKind.wrap, IntKind.bits, IntKind.signed, h]
  · rw [if_neg h]; simp [IntKind.wrap, IntKind.bits, IntKind.signed]; omega

theorem w64 {x : Int} (h0 : -9223372036854775808 ≤ x) (h1 : x < 9223372036854775808) : IntKind.wrap .i64 x = x := by
  rw [wrap_eq]; split <;> omega

theorem wrap_fit (x : Int) : -9223372036854775808 ≤ IntKind.wrap .i64 x ∧ IntKind.wrap .i64 x < 9223372036854775808 := by
  rw [wrap_eq]; split <;> omega

/-! ### Memory at an address -/
/-- At A, memory reads vs. -/
def At (w : World) (A : Addr) (vs : List Value) : Prop :=
  ∃ b o arr T fr, A = ⟨b, o, none⟩ ∧ w.heap[b]? = some (.cells arr T fr) ∧ ∀ i, i < vs.length → arr[o + i]? = vs[i]?

section
variable {P : Program} {w : World} {l : List HP} {Q : Post} {S : World → Prop} {A : Addr} {vs : List Value} {T : TypeId}

theorem At.add (h : At w A vs) (n : Nat) : At w (A.add n) (vs.drop n) := by
  obtain ⟨b, o, arr, T, fr, rfl, hb, hc⟩ := h
  refine ⟨b, o + n, arr, T, fr, by rw [add_mk], hb, fun i hi => ?_⟩
  rw [List.length_drop] at hi
  rw [Nat.add_assoc, hc _ (by omega), List.getElem?_drop]

theorem At.take (h : At w A vs) (n : Nat) : At w A (vs.take n) := by
  obtain ⟨b, o, arr, T, fr, rfl, hb, hc⟩ := h
  refine ⟨b, o, arr, T, fr, rfl, hb, fun i hi => ?_⟩
  rw [List.length_take] at hi
  rw [hc _ (by omega), List.getElem?_take, if_pos (by omega)]

theorem At.ld1 [hT : One P T] {v : Value} (h : At w A vs) (hv : vs[0]? = some v) : (ld T A).run P w = .ok v w := by
  obtain ⟨b, o, arr, T, fr, rfl, hb, hc⟩ := h
  have hlt : 0 < vs.length := (List.getElem?_eq_some_iff.1 hv).1
  exact run_ld1 hT.ok.1 hb (by have := hc 0 hlt; rw [Nat.add_zero] at this; rw [this, hv])

theorem At.fld [hT : One P T] {v : Value} {n : Nat} (h : At w A vs) (hv : vs[n]? = some v) : (ld T (A.add n)).run P w = .ok v w :=
  (h.add n).ld1 (by rw [List.getElem?_drop]; exact hv)

theorem At.ldA {n : Nat} [hT : Agg P T n] (h : At w A vs) (hn : vs.length = n) : (ld T A).run P w = .ok (.agg vs.toArray) w := by
  obtain ⟨b, o, arr, T', fr, rfl, hb, hc⟩ := h
  have hsz : o + n ≤ arr.size ∨ n = 0 := by
    by_cases h0 : n = 0
    · exact .inr h0
    · left
      have := hc (n - 1) (by omega)
      rw [List.getElem?_eq_getElem (by omega)] at this
      have := (Array.getElem?_eq_some_iff.1 this).1
      omega
  rcases hsz with hsz | h0
  · rw [run_ldA hT.ok.1 hT.ok.2 hb hsz]
    congr 2
    apply Array.ext_getElem?
    intro i
    rw [Array.getElem?_extract]
    by_cases hi : i < n
    · rw [if_pos (by omega), hc i (by omega)]; simp
    · rw [if_neg (by omega)]; simp [List.getElem?_eq_none (by omega : vs.length ≤ i)]
  · subst h0
    obtain rfl := List.length_eq_zero_iff.1 hn
    simp only [ld, Instr.loadAt, Instr.sureAddr, loadVar, Sem.run_bind, Sem.run_pure, Result.andThen_ok, run_isAgg hT.ok.1, if_true, run_sizeOf' hT.ok.2, loadCells, loadCellsFrom]

/-! ### Elements -/
theorem flat_length {α : Type} {enc : α → List Value} {sz : Nat} (henc : ∀ x, (enc x).length = sz) : ∀ (xs : List α), (xs.flatMap enc).length = xs.length * sz
  | [] => by simp
  | x :: r => by simp [henc, flat_length henc r, Nat.add_mul, Nat.add_comm]

theorem flat_get {α : Type} {enc : α → List Value} {sz : Nat} (henc : ∀ x, (enc x).length = sz) : ∀ (xs : List α) (i : Nat) (hi : i < xs.length), ((xs.flatMap enc).drop (i * sz)).take sz = enc xs[i]
  | x :: r, 0, hi => by simp [henc, List.take_left' (henc x)]
  | x :: r, i + 1, hi => by
    simp only [List.flatMap_cons, List.getElem_cons_succ]
    rw [Nat.add_mul, Nat.one_mul, Nat.add_comm, List.drop_append, List.drop_eq_nil_of_le (by rw [henc]; omega), henc, Nat.add_sub_cancel_left, List.nil_append]
    exact flat_get henc r i (by simpa using hi)

theorem Rd.len {sz : Nat} {x : Sl} {α : Type} {enc : α → List Value} {xs : List α} (henc : ∀ x, (enc x).length = sz) (hsz : 0 < sz) (h : Rd w sz x (xs.flatMap enc)) : x.len = xs.length := by
  have := h.1
  rw [flat_length henc] at this
  exact (Nat.eq_of_mul_eq_mul_right hsz this).symm

/-- Element i of a slice: where it lies, and what it reads. -/
theorem Rd.el {sz : Nat} {x : Sl} {α : Type} {enc : α → List Value} {xs : List α} (henc : ∀ x, (enc x).length = sz) (h : Rd w sz x (xs.flatMap enc)) (hne : 0 < x.len) :
    ∃ a, x.a = some a ∧ ∀ (i : Nat) (hi : i < xs.length), At w (a.add (i * sz)) (enc xs[i]) := by
  obtain ⟨hlen, h0 | ⟨b, off, arr, T', fr, ha, hb, hcs⟩⟩ := h
  · omega
  · refine ⟨_, ha, fun i hi => ?_⟩
    have h1 : At w ⟨b, off, none⟩ (xs.flatMap enc) := ⟨b, off, arr, T', fr, rfl, hb, hcs⟩
    have h2 := (h1.add (i * sz)).take sz
    rwa [flat_get henc xs i hi] at h2

theorem wp_rd {g : Prop} {m : Sem Value} {p : Pr} {x : p.D} {f : p.D → Prog} (hm : m.run P w = .ok (p.mk x) w) (h : (f x).wp P S w Q) : (Prog.read g m (.one (.one p)) (u1 f)).wp P S w Q :=
  ⟨(x, ()), fun _ => by cases p <;> exact hm, h⟩

theorem wp_hold {g : Prop} {m : Sem Value} {p : Pr} {x : p.D} {f : p.D → Prog} (hm : m.run P w = .ok (p.mk x) w)
    (h : (f x).wp P (fun w' => S w' ∧ (g → m.run P w' = .ok ((Sh.one (.one p)).mk (x, ())) w')) w Q) : (Prog.hold g m (.one (.one p)) (u1 f)).wp P S w Q :=
  ⟨(x, ()), fun _ => by cases p <;> exact hm, h⟩

theorem wp_rdA {g : Prop} {m : Sem Value} {ps : List Pr} (x : HL ps) {k : HL ps → Prog} (hm : m.run P w = .ok (.agg (HL.vals ps x).toArray) w) (h : (k x).wp P S w Q) : (Prog.read g m (.one (.agg ps)) k).wp P S w Q :=
  ⟨x, fun _ => hm, h⟩

theorem wp_holdA {g : Prop} {m : Sem Value} {ps : List Pr} (x : HL ps) {k : HL ps → Prog} (hm : m.run P w = .ok (.agg (HL.vals ps x).toArray) w)
    (h : (k x).wp P (fun w' => S w' ∧ (g → m.run P w' = .ok ((Sh.one (.agg ps)).mk x) w')) w Q) : (Prog.hold g m (.one (.agg ps)) k).wp P S w Q :=
  ⟨x, fun _ => hm, h⟩

end
end Go.Dec
