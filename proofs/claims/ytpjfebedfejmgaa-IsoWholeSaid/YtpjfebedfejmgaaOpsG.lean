/- Ops, part G: bytes and strings; a cell's store at an address that is told. -/
import Derived.Test.YtpjfebedfejmgaaOpsF
import Derived.Laws.BytesArg
namespace Go.Dec
set_option linter.unusedVariables false
set_option linter.unusedSimpArgs false

/-- A slice type of bytes; a string type. -/
class ByT (P : Program) (t : TypeId) : Prop where
  ok : ∃ e, P.underlying t = some (.slice e) ∧ P.underlying e = some (.int .u8)
class StT (P : Program) (t : TypeId) : Prop where
  ok : P.underlying t = some .string

def u8s (ns : List Int) : List Value := ns.map fun n => .int .u8 n

section
variable {P : Program} {w : World} {l r : List HP} {Q : Post} {S : World → Prop} {T T' t d : TypeId} {b off : Nat} {A : Addr} {cs : Array Value}

theorem At.str [ht : ByT P t] [hd : StT P d] {ns : List Int} {len cap : Nat} (h : At w A (u8s ns)) (hl : len = ns.length) : (convert t d (.slice (some A) len cap)).run P w = .ok (.string (strOfNums ns)) w := by
  obtain ⟨e, h1, h2⟩ := ht.ok
  obtain ⟨b, o, arr, T, fr, rfl, hb, hc⟩ := h
  refine run_convert_bytes_arg w t e h1 h2 b o len cap ns hl.symm (fun i hi => ?_) d hd.ok
  rw [cell_of hb, hc i (by simp [u8s]; omega)]
  simp [u8s, show i < ns.length by omega]

theorem wp_stAt {v : Value} {k : Prog} (hs : Sat w l) [hb : FocB l b (.cells cs T' (0, 0)) r] [hT : One P T] (hA : A = ⟨b, off, none⟩) (hsz : off + 1 ≤ cs.size) (hv : v.cells = #[v]) (hone : v.oneCell' = true)
    (h : ∀ w', Sat w' (pt b (.cells (cs.setIfInBounds off v) T' (0, 0)) :: r) → S w' ∧ k.wp P S w' Q) : (Prog.actU (st T A v) k).wp P S w Q := by
  subst hA
  exact wp_st1 hs (Nat.ble_eq_true_of_le hsz) hv hone h

end
end Go.Dec
