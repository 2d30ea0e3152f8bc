/- Slices of structs of whatever fields, opened for rows' frames. -/
import Derived.Test.YtpjfebedfejmgaaOpen2
namespace Go.Dec
open Go.ChangeShapes Go.WideShapes Go.RowKit Go.Deep
set_option linter.unusedVariables false
section
variable {H : Type} {enc : TypeId × Value → H} {P : Program} {w : World} {base : Nat} {spare : Nat → Bool} {held : Bool}

theorem trod_rows {α : Type} {encA : α → List Value} {good : α → Prop} {C : Nat} {t e : TypeId} {fuel : Nat} {v : Value} {y : DataW H × List MemPlace} (ht : P.underlying t = some (.slice e)) (hC : P.cellsOf e = C) (hpos : 0 < C)
    (hread : ∀ (n : Nat) (cs : List Value) (y : DataW H × List MemPlace), cs.length = C → DataW.trod enc P w base spare held n e cs = some y → ∃ o : α, cs = encA o ∧ good o)
    (hd : DataW.trod enc P w base spare held fuel t [v] = some y) :
    ∃ (x : Sl) (xs : List α), v = x.v ∧ x.len ≤ x.cap ∧ x.len = xs.length ∧ x.cap ≤ maxLen ∧ (∀ o ∈ xs, good o) ∧ Rd w C x (xs.flatMap encA) := by
  rcases DataW.trod_slice ht hd with ⟨hcs, -⟩ | ⟨a, len, cap, elems, rest, n, _, hcs, -, hb, hl, hm, hlen, hel, -, -⟩
  · obtain rfl : v = .slice none 0 0 := by simpa using hcs
    exact ⟨⟨none, 0, 0⟩, [], rfl, Nat.le_refl _, rfl, Nat.zero_le _, (fun o ho => by cases ho), (Nat.zero_mul _).symm, .inl rfl⟩
  · obtain rfl : v = .slice (some a) len cap := by simpa using hcs
    have each : ∀ i, i < len → ∃ o : α, good o ∧ (encA o).length = C ∧ ∀ j, j < C → w.cell? (a.add (i * C + j)) = (encA o)[j]? := by
      intro i hi
      have h1 := hel i hi
      rw [List.getElem?_eq_getElem (by omega), Option.bind_eq_some_iff] at h1
      obtain ⟨cs', hc, ht'⟩ := h1
      rw [hC] at hc
      obtain ⟨_, hcl, hat⟩ := World.cells?_some hc
      obtain ⟨o, ho, hg⟩ := hread n cs' _ hcl ht'
      refine ⟨o, hg, by rw [← ho]; exact hcl, fun j hj => ?_⟩
      rw [← Go.Deep.add_add, hat j hj, ho]
    have hall : ∀ k, k ≤ len → ∃ xs : List α, xs.length = k ∧ (∀ o ∈ xs, good o) ∧ (xs.flatMap encA).length = k * C ∧ ∀ i, i < k * C → w.cell? (a.add i) = (xs.flatMap encA)[i]? := by
      intro k
      induction k with
      | zero => exact fun _ => ⟨[], rfl, (fun o ho => by cases ho), by simp, fun i hi => by omega⟩
      | succ k ih =>
        intro hk
        obtain ⟨xs, h1, h2, h3, h4⟩ := ih (by omega)
        obtain ⟨o, ho, hol, hc⟩ := each k (by omega)
        refine ⟨xs ++ [o], by simp [h1], fun u hu => ?_, by simp [h3, hol, Nat.succ_mul], fun i hi => ?_⟩
        · rcases List.mem_append.1 hu with hu | hu
          · exact h2 u hu
          · rw [List.mem_singleton.1 hu]; exact ho
        · rw [List.flatMap_append, List.flatMap_singleton]
          by_cases hik : i < k * C
          · rw [List.getElem?_append_left (by omega), h4 i hik]
          · rw [List.getElem?_append_right (by omega), h3]
            rw [Nat.succ_mul] at hi
            have := hc (i - k * C) (by omega)
            rw [show k * C + (i - k * C) = i by omega] at this
            exact this
    obtain ⟨xs, h1, h2, h3, h4⟩ := hall len (Nat.le_refl _)
    exact ⟨⟨some a, len, cap⟩, xs, rfl, hl, h1.symm, hm, h2, rd_cells h3 hpos fun i hi => h4 i (by rw [← h3]; exact hi)⟩
end
end Go.Dec
