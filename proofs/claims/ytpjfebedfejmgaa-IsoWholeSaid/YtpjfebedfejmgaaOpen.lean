/- Parameters, opened for rows' frames. -/
import Derived.ChangeSlices
import Derived.ChangeMaps5
import Derived.ChangeSame
import Derived.Test.YtpjfebedfejmgaaOpsG
import Derived.RowKit3
namespace Go.Dec
open Go.ChangeShapes Go.WideShapes Go.RowKit
set_option linter.unusedVariables false
section
variable {H : Type} {enc : TypeId × Value → H} {P : Program} {w : World} {base : Nat} {sp : Nat → Bool} {held : Bool}

theorem open_ints2 {r : Reach} {b0 : Nat} {t : TypeId} {f0 f1 : Field} {k : IntKind} {v : Value} {d : DataW H} {ps : List MemPlace} (ht : P.underlying t = some (.struct #[f0, f1])) (h0 : P.underlying f0.type = some (.int k)) (h1 : P.underlying f1.type = some (.int k))
    (o0 : f0.offset = 0) (o1 : f1.offset = 1) (c0 : P.cellsOf f0.type = 1) (c1 : P.cellsOf f1.type = 1) (ct : P.cellsOf t = 2) (hval : Value.okWide P w r b0 t v) (hd : DataW.Trod enc P w base sp held t v d ps) :
    ∃ x y : Int, v = .agg #[.int k x, .int k y] ∧ ps = [] ∧ (Lit.int k x).wf = true ∧ (Lit.int k y).wf = true := by
  unfold Value.okWide at hval
  rw [ht] at hval
  obtain ⟨cs, rfl, hsz, _⟩ := hval
  obtain ⟨fuel, hf⟩ := hd
  obtain ⟨y0, y1, n, he, hl, hy0, hy1⟩ := trod_struct2 ht hf
  rw [o0, c0] at hy0
  rw [o1, c1] at hy1
  obtain ⟨x, e0, rfl, wx⟩ := DataW.trod_int h0 hy0
  obtain ⟨y, e1, rfl, wy⟩ := DataW.trod_int h1 hy1
  simp only [Prod.mk.injEq] at he
  refine ⟨x, y, ?_, by simpa using he.2, wx, wy⟩
  have hcs : (Value.agg cs).cells.toList = cs.toList := rfl
  rw [hcs] at e0 e1 hl
  rw [ct] at hl
  congr 1
  apply Array.ext'
  match hc : cs.toList, hl with
  | [a, b], _ =>
    rw [hc] at e0 e1
    simp at e0 e1
    subst e0 e1
    rfl

theorem open_islice {r : Reach} {b0 : Nat} {t e : TypeId} {k : IntKind} {v : Value} {d : DataW H} {ps : List MemPlace} (ht : P.underlying t = some (.slice e)) (he : P.underlying e = some (.int k)) (hc : P.cellsOf e = 1)
    (hval : Value.okWide P w r b0 t v) (hd : DataW.Trod enc P w base (fun _ => true) held t v d ps) :
    ∃ (x : Sl) (zs : List Int), v = x.v ∧ x.len ≤ x.cap ∧ zs.length = x.len ∧ (∀ n ∈ zs, (Lit.int k n).wf = true) ∧ Rd w 1 x (zs.flatMap fun n => [Value.int k n]) := by
  obtain ⟨a0, len, cap, rfl⟩ := okWide_slice ht hval
  obtain ⟨fuel, hf⟩ := hd
  rcases open_ints ht he hc hf with ⟨hcs, -⟩ | ⟨a, len', cap', zs, hcs, _, hl, hm, hz, -, hcell, hw⟩
  · have hcs : (Value.slice a0 len cap) = .slice none 0 0 := by simpa [Value.cells] using hcs
    injection hcs with h1 h2 h3
    subst h1 h2 h3
    exact ⟨⟨none, 0, 0⟩, [], rfl, Nat.le_refl _, rfl, (fun n hn => by cases hn), rfl, .inl rfl⟩
  · have hcs : (Value.slice a0 len cap) = .slice (some a) len' cap' := by simpa [Value.cells] using hcs
    injection hcs with h1 h2 h3
    subst h1 h2 h3
    have hz : zs.length = cap := by simpa using hz
    refine ⟨⟨some a, len, cap⟩, zs.take len, rfl, hl, by simp; omega, fun n hn => hw n (List.mem_of_mem_take hn), ?_⟩
    have hmap : ∀ zs : List Int, (zs.flatMap fun n => [Value.int k n]) = zs.map (Value.int k) := fun zs => by induction zs with
      | nil => rfl
      | cons z r ih => rw [List.flatMap_cons, ih]; rfl
    rw [hmap]
    refine ⟨by simp; omega, ?_⟩
    by_cases h0 : len = 0
    · exact .inl h0
    · right
      have hc0 := hcell 0 (by omega)
      obtain ⟨b, off, spot⟩ := a
      have e0 : (Addr.mk b off spot).add 0 = ⟨b, off, spot⟩ := rfl
      rw [e0] at hc0
      unfold World.cell? at hc0
      dsimp only at hc0
      cases hb : w.heap[b]? with
      | none => rw [hb] at hc0; cases hc0
      | some o =>
        rw [hb] at hc0
        cases o with
        | cells arr T fr =>
          dsimp only at hc0
          cases spot with
          | some x => simp at hc0
          | none =>
            refine ⟨b, off, arr, T, fr, rfl, hb, fun i hi => ?_⟩
            simp only [List.length_map, List.length_take] at hi
            have hci := hcell i (by omega)
            rw [add_mk, cell_of hb] at hci
            rw [hci]
            simp [show i < len by omega, show i < zs.length by omega]
        | _ => cases hc0

theorem rd_keep {W W' : World} (hb : ∀ (b : Nat) (o : Obj), W.heap[b]? = some o → W'.heap[b]? = some o) {sz : Nat} {x : Sl} {cs : List Value} (h : Rd W sz x cs) : Rd W' sz x cs :=
  ⟨h.1, h.2.imp id fun ⟨b, off, arr, T, fr, ha, h1, h2⟩ => ⟨b, off, arr, T, fr, ha, hb _ _ h1, h2⟩⟩

end
end Go.Dec
