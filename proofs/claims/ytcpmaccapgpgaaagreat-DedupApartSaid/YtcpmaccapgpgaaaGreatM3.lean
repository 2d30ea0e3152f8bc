/- maps.Clone, at a map of structs (turned from the kit's worked contract). -/
import Derived.Laws.Externs
import Derived.MapKept
import Derived.WalkKit
import Derived.Test.YtcpmaccapgpgaaaGreatD5
namespace Go.Proofs.YtcpmaccapgpgaaaGreat
open Go.RowKit Go.Maps Go.Proofs Go.Shelf Go.Dec
set_option linter.unusedVariables false
set_option linter.unusedSimpArgs false

section
variable {P : Program} (w : World)
theorem eqlIn_nil (d : Nat) (t k e : TypeId) (p : Option Nat) (h : P.underlying t = some (.map k e)) : (Op.equalIn (d + 1) t (.map p) (.map none)).run P w = .ok p.isNone w := by
  cases p <;> simp [Op.equalIn, run_underlying h]
theorem eql_nil (t k e : TypeId) (p : Option Nat) (h : P.underlying t = some (.map k e)) : (binOp .eql t (.map p) (.map none)).run P w = .ok (.bool p.isNone) w := by
  simp only [binOp]
  simp [show Op.equal t (.map p) (.map none) = Op.equalIn (9999 + 1) t (.map p) (.map none) from rfl, eqlIn_nil w 9999 t k e p h]
theorem assert_map (t xT k e : TypeId) (v : Value) (h : P.underlying t = some (.map k e)) : (Instr.typeAssert (.iface t v) xT t false).run P w = .ok v w := by
  simp [Instr.typeAssert, run_underlying h, go_sem, Result.andThen]
theorem clone_run {r : Nat} {es : Array MapEntry} {clock : Nat} (t : TypeId) (hb : w.heap[r]? = some (.map es clock)) :
    (Extern.MapsClone.clone #[.iface t (.map (some r))]).run P w = .ok (.iface t (.map (some w.heap.size))) (w.alloc (.map es clock)) := by
  have e : Extern.MapsClone.clone #[.iface t (.map (some r))] = (getObj r >>= fun o => match o with
      | .map entries clock => (newObj (.map entries clock) >>= fun n => pure (.iface t (.map (some n))))
      | _ => stuck "maps.clone: a map expected") := rfl
  rw [e]
  simp [MapKept.run_getObj_map hb, Result.andThen, go_sem]
end

set_option maxRecDepth 100000 in
set_option maxHeartbeats 2000000 in
theorem mclone_in (b : Nat) (es : Array MapEntry) (clock : Nat) (w : World) (hb : w.heap[b]? = some (.map es clock)) :
    Calls Tryz.prog 32 #[.map (some b)] w fun e w' => e = .returned (.map (some w.heap.size)) ∧ w' = w.alloc (.map es clock) := by
  have hq := fun w => eql_nil (P := Tryz.prog) w 45 _ _ (some b) Tryz.underlying45
  go_enter Tryz.func32, Tryz.ntmps32
  go_wp2
  rw [run_callFunc_extern Tryz.func66 (by kernel_rfl) (by kernel_rfl) (by kernel_rfl) (e := Extern.MapsClone.clone) (by kernel_rfl), clone_run w 45 hb]
  simp only [Result.andThen]
  rw [Oper.upon_value]
  go_wp2
  rw [assert_map _ 45 _ _ _ _ Tryz.underlying45]
  simp only [Result.andThen]
  rw [Oper.upon_value]
  go_wp2
  go_ret
  exact ⟨rfl, rfl⟩
end Go.Proofs.YtcpmaccapgpgaaaGreat

namespace Go.Dec
open Go.Proofs Go.Proofs.YtcpmaccapgpgaaaGreat
section
variable {w : World} {l r : List HP}
theorem mclone_c (m : Nat) (es : List (Int × RowA)) (hs : Sat w (mapP ekI evW m es :: l)) : Ret P F.maps_Clone_map_int64_dedup_Row_int64_dedup_Row #[.map (some m)] w fun vs w' => ∃ m' : Nat, vs = [.map (some m')] ∧ Sat w' (mapP ekI evW m' es :: mapP ekI evW m es :: l) := by
  obtain ⟨E, c, hok, hs1⟩ := hs.mapOpen
  refine Calls.mono (mclone_in m E c w hs1.get) ?_
  rintro e w' ⟨he, rfl⟩
  refine ⟨[.map (some w.heap.size)], by rw [he]; rfl, w.heap.size, rfl, ?_⟩
  exact (hs.push (o := .map E c) (w' := w.alloc (.map E c)) rfl).mapShut hok
end
end Go.Dec
