/- Ops, part W: slices made; slices of slices; elements read under a guard; the end of a slice. -/
import Derived.Test.YtpjfebedfejmgaaGreatOpsZ
import Derived.Laws.MakeOwn
namespace Go.Dec
set_option linter.unusedVariables false
set_option linter.unusedSimpArgs false

def encSl (x : Sl) : List Value := [.slice x.a x.len x.cap]
instance : Enc1 encSl .slc (fun x => x) := ⟨fun _ => rfl⟩
instance : EncN encSl 1 := ⟨fun _ => rfl, by decide, by simp [encSl, Value.oneCell']⟩

section
variable {w : World} {l r : List HP} {sz : Nat} {x : Sl}
theorem drop_flat {α : Type} {enc : α → List Value} [hE : EncN enc sz] : ∀ (xs : List α) (n : Nat), (xs.flatMap enc).drop (n * sz) = (xs.drop n).flatMap enc
  | [], n => by simp
  | x :: xs, 0 => by simp
  | x :: xs, n + 1 => by
    rw [List.flatMap_cons, Nat.succ_mul, Nat.add_comm, ← List.drop_drop, List.drop_left' (hE.len x), drop_flat xs n, List.drop_succ_cons]
theorem FocR.post {α : Type} {enc : α → List Value} [hE : EncN enc sz] {xs : List α} [hf : FocR l x sz (xs.flatMap enc)] {n m c : Nat} (hm : x.len ≤ m) : FocR l ⟨cutA x.a sz n m, x.len - n, c⟩ sz ((xs.drop n).flatMap enc) := ⟨fun w hs => by
  obtain ⟨hlen, h0⟩ := hf.rd w hs
  have hl : x.len = xs.length := (hf.rd w hs).len hE.len hE.pos
  refine ⟨by rw [flat_len, List.length_drop, hl], ?_⟩
  by_cases hn : x.len - n = 0
  · exact .inl hn
  · right
    rcases h0 with h0 | ⟨b, off, arr, T, fr, ha, hb, hc⟩
    · omega
    · refine ⟨b, off + n * sz, arr, T, fr, ?_, hb, fun i hi => ?_⟩
      · show cutA x.a sz n m = _
        unfold cutA
        rw [if_neg (by omega), ha, Option.map_some, add_mk]
      · rw [← drop_flat, List.length_drop] at hi
        rw [Nat.add_assoc, hc (n * sz + i) (by omega), ← drop_flat, List.getElem?_drop]⟩
end

section
variable {w : World} {l r : List HP} {Q : Post} {S : World → Prop}
theorem wp_make {P : Program} {t el : TypeId} {sz bytes : Nat} {c : Int} {k : Sl → Prog} [ht : SlT P t el sz bytes] (n : Nat) (hs : Sat w l) (h : ∀ x w', Sat w' (slc el sz x [] :: l) → (k x).wp P S w' Q) (hc : c = n := by first | rfl | omega) (hb : n * bytes ≤ 281474976710656 ∧ n ≤ 9223372036854775807 := by omega) (hS : ∀ w', S w' := by exact fun _ => trivial) :
    (Prog.act (Instr.makeSlice t (.int .i64 0) (.int .i64 c)) sL (u1 k)).wp P S w Q := by
  subst hc
  obtain ⟨i, z, hi, h2, h3, h4, h5⟩ := ht.parts
  have hrun := run_make (P := P) w t el i z ht.ok.1 hi h4 .i64 .i64 0 n (Int.le_refl _) (by omega) (by rw [h3, ← Int.natCast_mul, Nat.mul_comm]; omega) (by omega)
  simp only [Int.toNat_zero, Int.toNat_natCast] at hrun
  have hp := hs.push (o := .cells (madeCells z.cells (n * i.size)) el) (w' := w.alloc (.cells (madeCells z.cells (n * i.size)) el)) rfl
  refine ⟨(⟨some ⟨w.heap.size, 0, none⟩, 0, n⟩, ()), _, hrun, hS _, h ⟨some ⟨w.heap.size, 0, none⟩, 0, n⟩ _ ?_⟩
  refine hp.imp fun p hp => .inr ⟨w.heap.size, 0, _, _, rfl, hp, by simp, Nat.zero_le _, ?_, fun i hi => by simp at hi, unfrozen_zero _ _⟩
  rw [size_madeCells, h2]; simp

/-- An element of one cell, read under a guard. -/
theorem wp_ix1g {P : Program} {T : TypeId} {sz : Nat} {α : Type} {enc : α → List Value} {xs : List α} {i i' : Int} {x : Sl} {g g' : Prop} {p : Pr} {f : p.D → Prog} (hs : Sat w l) [hf : FocR l x sz (xs.flatMap enc)] [hE : EncN enc sz] [hT : One P T]
    (y : p.D) (hg : g → ∃ n, ∃ hn : n < xs.length, i = (n : Int) ∧ enc xs[n] = [p.mk y]) (h : (f y).wp P S w Q) (hgg : g' → g := by exact id) (hi' : i' = i := by rfl) :
    (Prog.ex [.adr] (c1 fun a => g → 0 ≤ i ∧ i < ((x.len : Nat) : Int) ∧ x.a = some a) (u1 fun a => .read g' (ld T (Addr.add a (Int.toNat i' * sz))) (.one (.one p)) (u1 f))).wp P S w Q := by
  subst hi'
  have hr := hf.rd w hs
  have hl : x.len = xs.length := hr.len hE.len hE.pos
  by_cases hgc : g
  · obtain ⟨n, hn, hin, hen⟩ := hg hgc
    subst hin
    obtain ⟨a, ha, he⟩ := hr.el hE.len (by omega)
    refine ⟨(a, ()), fun _ => ⟨by omega, by omega, ha⟩, (y, ()), fun _ => ?_, h⟩
    have := he n hn
    rw [hen] at this
    have h2 := At.ld1 (P := P) (T := T) this rfl
    cases p <;> exact h2
  · exact ⟨(⟨0, 0, none⟩, ()), fun h => absurd h hgc, (y, ()), fun h => absurd (hgg h) hgc, h⟩

/-- One cell of an element, read under a guard. -/
theorem wp_ixFgg {P : Program} {T : TypeId} {sz : Nat} {α : Type} {enc : α → List Value} {xs : List α} {i i' : Int} {j : Nat} {x : Sl} {g g' : Prop} {p : Pr} {dec : α → p.D} {f : p.D → Prog} (hs : Sat w l) [hf : FocR l x sz (xs.flatMap enc)] [hE : EncN enc sz] [hD : EncF enc j p dec] [hT : One P T]
    (y : p.D) (hg : g → ∃ n, ∃ hn : n < xs.length, i = (n : Int) ∧ dec xs[n] = y) (h : (f y).wp P S w Q) (hgg : g' → g := by exact id) (hi' : i' = i := by rfl) :
    (Prog.ex [.adr] (c1 fun a => g → 0 ≤ i ∧ i < ((x.len : Nat) : Int) ∧ x.a = some a) (u1 fun a => .read g' (ld T (Addr.add (Addr.add a (Int.toNat i' * sz)) j)) (.one (.one p)) (u1 f))).wp P S w Q := by
  subst hi'
  by_cases hgc : g
  · obtain ⟨n, hn, hin, hen⟩ := hg hgc
    subst hin hen
    obtain ⟨a, ha, hl, hr⟩ := run_ixF (P := P) (T := T) (j := j) (enc := enc) (p := p) (dec := dec) (x := x) hs hn
    exact ⟨(a, ()), fun _ => ⟨by omega, by omega, ha⟩, (dec xs[n], ()), fun _ => by rw [Int.toNat_natCast]; exact hr, h⟩
  · exact ⟨(⟨0, 0, none⟩, ()), fun h => absurd h hgc, (y, ()), fun h => absurd (hgg h) hgc, h⟩
/-- One cell of an element at a place that is told. -/
theorem wp_ixF0 {P : Program} {T : TypeId} {sz : Nat} {α : Type} {enc : α → List Value} {xs : List α} {ii : Int} {m j : Nat} {x : Sl} {g' : Prop} {p : Pr} {dec : α → p.D} {f : p.D → Prog} (hs : Sat w l) [hf : FocR l x sz (xs.flatMap enc)] [hE : EncN enc sz] [hD : EncF enc j p dec] [hT : One P T]
    (n : Nat) (hn : n < xs.length) (h : (f (dec xs[n])).wp P S w Q) (hm : m = n * sz := by rfl) (hi : ii = n := by rfl) :
    (Prog.ex [.adr] (c1 fun a => (0 : Int) ≤ ii ∧ ii < ((x.len : Nat) : Int) ∧ x.a = some a) (u1 fun a => .read g' (ld T (Addr.add (Addr.add a m) j)) (.one (.one p)) (u1 f))).wp P S w Q := by
  subst hm hi
  obtain ⟨a, ha, hl, hr⟩ := run_ixF (P := P) (T := T) (j := j) (enc := enc) (p := p) (dec := dec) (x := x) hs hn
  exact ⟨(a, ()), ⟨by omega, by omega, ha⟩, (dec xs[n], ()), fun _ => hr, h⟩
end
end Go.Dec
