/- Parameters that are slices of structs, opened for rows' frames. -/
import Derived.Deep.Slices
import Derived.Deep.Fields
import Derived.Test.YtpjfebedfejmgaaOpen
namespace Go.Dec
open Go.ChangeShapes Go.WideShapes Go.RowKit Go.Deep
set_option linter.unusedVariables false
section
variable {H : Type} {enc : TypeId × Value → H} {P : Program} {w : World} {base : Nat} {spare : Nat → Bool} {held : Bool}

theorem rd_cells {a : Addr} {cs : List Value} {len cap sz : Nat} (hlen : cs.length = len * sz) (hpos : 0 < sz) (hcell : ∀ i, i < cs.length → w.cell? (a.add i) = cs[i]?) : Rd w sz ⟨some a, len, cap⟩ cs := by
  refine ⟨hlen, ?_⟩
  by_cases h0 : len = 0
  · exact .inl h0
  · right
    have hpos2 : 0 < cs.length := by rw [hlen]; exact Nat.mul_pos (by omega) hpos
    have hc0 := hcell 0 hpos2
    obtain ⟨b, off, spot⟩ := a
    have e0 : (Addr.mk b off spot).add 0 = ⟨b, off, spot⟩ := rfl
    rw [e0, List.getElem?_eq_getElem hpos2] at hc0
    unfold World.cell? at hc0
    dsimp only at hc0
    cases hb : w.heap[b]? with
    | none => rw [hb] at hc0; cases hc0
    | some o =>
      rw [hb] at hc0
      cases o with
      | cells arr T fr =>
        dsimp only at hc0
        cases spot with
        | some x => simp at hc0
        | none =>
          refine ⟨b, off, arr, T, fr, rfl, hb, fun i hi => ?_⟩
          have hci := hcell i hi
          rw [add_mk, cell_of hb] at hci
          rw [hci]
      | _ => cases hc0

theorem open_rows {α : Type} {encA : α → List Value} {good : α → Prop} {r : Reach} {b0 : Nat} {t e : TypeId} {fs : Array Field} {v : Value} {d : DataW H} {ps : List MemPlace} (ht : P.underlying t = some (.slice e)) (he : P.underlying e = some (.struct fs))
    (hone : oneCellFields P fs = true) (hC : P.cellsOf e = fs.size) (hpos : 0 < fs.size)
    (hread : ∀ (n : Nat) (vs : List Value), vs.length = fs.size → (∀ (j : Nat) (f : Field), fs[j]? = some f → ∃ (u : Value) (y : DataW H × List MemPlace), vs[j]? = some u ∧ DataW.trod enc P w base spare held n f.type [u] = some y) → ∃ o : α, vs = encA o ∧ good o)
    (hval : Value.okWide P w r b0 t v) (hd : DataW.Trod enc P w base spare held t v d ps) :
    ∃ (x : Sl) (xs : List α), v = x.v ∧ x.len ≤ x.cap ∧ x.len = xs.length ∧ x.cap ≤ maxLen ∧ (∀ o ∈ xs, good o) ∧ Rd w fs.size x (xs.flatMap encA) := by
  obtain ⟨a0, len0, cap0, rfl⟩ := okWide_slice ht hval
  obtain ⟨fuel, hf⟩ := hd
  rcases DataW.trod_slice ht hf with ⟨hcs, -⟩ | ⟨a, len, cap, elems, rest, n, _, hcs, -, hb, hl, hm, hlen, hel, -, -⟩
  · have hcs : (Value.slice a0 len0 cap0) = .slice none 0 0 := by simpa [Value.cells] using hcs
    injection hcs with h1 h2 h3
    subst h1 h2 h3
    exact ⟨⟨none, 0, 0⟩, [], rfl, Nat.le_refl _, rfl, Nat.zero_le _, (fun o ho => by cases ho), (Nat.zero_mul _).symm, .inl rfl⟩
  · have hcs : (Value.slice a0 len0 cap0) = .slice (some a) len cap := by simpa [Value.cells] using hcs
    injection hcs with h1 h2 h3
    subst h1 h2 h3
    have each : ∀ i, i < len0 → ∃ o : α, good o ∧ (encA o).length = fs.size ∧ ∀ j, j < fs.size → w.cell? (a.add (i * fs.size + j)) = (encA o)[j]? := by
      intro i hi
      have h1 := hel i hi
      rw [List.getElem?_eq_getElem (by omega), Option.bind_eq_some_iff] at h1
      obtain ⟨cs', hc, ht'⟩ := h1
      rw [hC] at hc
      obtain ⟨ys, n', hn', hy, hlen', hyl, hf⟩ := DataW.trod_struct he ht'
      obtain ⟨_, hcl, hat⟩ := World.cells?_some hc
      obtain ⟨o, ho, hg⟩ := hread n' cs' hcl fun j f hj => by
        obtain ⟨ho, hk⟩ := hone_of hone j f hj
        have hjl : j < fs.size := (Array.getElem?_eq_some_iff.1 hj).1
        have h1 := hf j f hj
        rw [ho, hk] at h1
        have hone' : (cs'.drop j).take 1 = [cs'[j]'(by omega)] := by
          rw [List.drop_eq_getElem_cons (by omega)]; rfl
        rw [hone', List.getElem?_eq_getElem (by omega)] at h1
        exact ⟨_, _, List.getElem?_eq_getElem (by omega), h1⟩
      refine ⟨o, hg, by rw [← ho]; exact hcl, fun j hj => ?_⟩
      rw [← Go.Deep.add_add, hat j hj, ho]
    have hall : ∀ k, k ≤ len0 → ∃ xs : List α, xs.length = k ∧ (∀ o ∈ xs, good o) ∧ (xs.flatMap encA).length = k * fs.size ∧ ∀ i, i < k * fs.size → w.cell? (a.add i) = (xs.flatMap encA)[i]? := by
      intro k
      induction k with
      | zero => exact fun _ => ⟨[], rfl, (fun o ho => by cases ho), by simp, fun i hi => by omega⟩
      | succ k ih =>
        intro hk
        obtain ⟨xs, h1, h2, h3, h4⟩ := ih (by omega)
        obtain ⟨o, ho, hol, hc⟩ := each k (by omega)
        refine ⟨xs ++ [o], by simp [h1], fun u hu => ?_, by simp [h3, hol, Nat.succ_mul], fun i hi => ?_⟩
        · rcases List.mem_append.1 hu with hu | hu
          · exact h2 u hu
          · rw [List.mem_singleton.1 hu]; exact ho
        · rw [List.flatMap_append, List.flatMap_singleton]
          by_cases hik : i < k * fs.size
          · rw [List.getElem?_append_left (by omega), h4 i hik]
          · rw [List.getElem?_append_right (by omega), h3]
            rw [Nat.succ_mul] at hi
            have := hc (i - k * fs.size) (by omega)
            rw [show k * fs.size + (i - k * fs.size) = i by omega] at this
            exact this
    obtain ⟨xs, h1, h2, h3, h4⟩ := hall len0 (Nat.le_refl _)
    exact ⟨⟨some a, len0, cap0⟩, xs, rfl, hl, h1.symm, hm, h2, rd_cells h3 hpos fun i hi => h4 i (by rw [← h3]; exact hi)⟩

/-- A field that is a slice of numbers. -/
theorem trod_islice {t e : TypeId} {k : IntKind} {fuel : Nat} {v : Value} {y : DataW H × List MemPlace} (ht : P.underlying t = some (.slice e)) (he : P.underlying e = some (.int k)) (hc : P.cellsOf e = 1)
    (hd : DataW.trod enc P w base spare held fuel t [v] = some y) :
    ∃ (x : Sl) (zs : List Int), v = x.v ∧ x.len ≤ x.cap ∧ zs.length = x.len ∧ (∀ n ∈ zs, (Lit.int k n).wf = true) ∧ Rd w 1 x (zs.flatMap fun n => [Value.int k n]) := by
  rcases open_ints ht he hc hd with ⟨hcs, -⟩ | ⟨a, len, cap, zs, hcs, _, hl, hm, hz, -, hcell, hw⟩
  · obtain rfl : v = .slice none 0 0 := by simpa using hcs
    exact ⟨⟨none, 0, 0⟩, [], rfl, Nat.le_refl _, rfl, (fun n hn => by cases hn), rfl, .inl rfl⟩
  · obtain rfl : v = .slice (some a) len cap := by simpa using hcs
    have hz : len ≤ zs.length := by rw [hz]; split <;> omega
    have hmap : ∀ zs : List Int, (zs.flatMap fun n => [Value.int k n]) = zs.map (Value.int k) := fun zs => by induction zs with
      | nil => rfl
      | cons z r ih => rw [List.flatMap_cons, ih]; rfl
    refine ⟨⟨some a, len, cap⟩, zs.take len, rfl, hl, by simp; omega, fun n hn => hw n (List.mem_of_mem_take hn), rd_cells (by rw [hmap]; simp; omega) (by decide) fun i hi => ?_⟩
    rw [hmap] at hi ⊢
    simp only [List.length_map, List.length_take] at hi
    rw [hcell i (by omega)]
    simp [show i < len by omega, show i < zs.length by omega]

end
end Go.Dec
