/- Bytes that a row is handed, opened. -/
import Derived.Test.YtpjfebedfejmgaaOpenZ
import Derived.Test.YtpjfebedfejmgaaOpsZ
namespace Go.Dec
open Go.ChangeShapes Go.WideShapes Go.RowKit
set_option linter.unusedVariables false
theorem wfu8 {n : Int} (h : (Lit.int .u8 n).wf = true) : 0 ≤ n ∧ n < 256 := by
  simp [Lit.wf, IntKind.min, IntKind.max, IntKind.signed, IntKind.bits] at h
  omega
section
variable {H : Type} {enc : TypeId × Value → H} {P : Program} {w : World} {base : Nat} {held : Bool}
theorem open_bytes {r : Reach} {b0 : Nat} {t e : TypeId} {v : Value} {d : DataW H} {ps : List MemPlace} (ht : P.underlying t = some (.slice e)) (he : P.underlying e = some (.int .u8)) (hc : P.cellsOf e = 1)
    (hval : Value.okWide P w r b0 t v) (hd : DataW.Trod enc P w base (fun _ => true) held t v d ps) :
    ∃ (x : Sl) (bs : List UInt8), v = x.v ∧ x.len ≤ x.cap ∧ bs.length = x.len ∧ Rd w 1 x (bs.flatMap encU) := by
  obtain ⟨x, zs, rfl, h1, h2, h3, h4⟩ := open_islice ht he hc hval hd
  refine ⟨x, zs.map fun n => UInt8.ofNat n.toNat, rfl, h1, by simpa using h2, ?_⟩
  have e : (zs.map fun n => UInt8.ofNat n.toNat).flatMap encU = zs.flatMap fun n => [Value.int .u8 n] := by
    clear h2 h4
    induction zs with
    | nil => rfl
    | cons z zs ih =>
      have hz := wfu8 (h3 z (List.mem_cons_self ..))
      rw [List.map_cons, List.flatMap_cons, List.flatMap_cons, ih fun n hn => h3 n (List.mem_cons_of_mem _ hn)]
      congr 1
      unfold encU
      simp
      omega
  rw [e]; exact h4
end
end Go.Dec
