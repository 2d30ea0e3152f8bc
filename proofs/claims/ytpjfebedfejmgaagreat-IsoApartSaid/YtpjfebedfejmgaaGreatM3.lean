/- maps.Clone, at the view's two maps (turned from the kit's worked contract). -/
import Derived.Laws.Externs
import Derived.MapKept
import Derived.WalkKit
import Derived.Test.YtpjfebedfejmgaaGreatV4
namespace Go.Proofs.YtpjfebedfejmgaaGreat
open Go.RowKit Go.Proofs Go.Dec
set_option linter.unusedVariables false
set_option linter.unusedSimpArgs false

section
variable {P : Program} (w : World)
theorem eqlIn_nil (d : Nat) (t k e : TypeId) (p : Option Nat) (h : P.underlying t = some (.map k e)) : (Op.equalIn (d + 1) t (.map p) (.map none)).run P w = .ok p.isNone w := by
  cases p <;> simp [Op.equalIn, run_underlying h]
theorem eql_nil (t k e : TypeId) (p : Option Nat) (h : P.underlying t = some (.map k e)) : (binOp .eql t (.map p) (.map none)).run P w = .ok (.bool p.isNone) w := by
  simp only [binOp]
  simp [show Op.equal t (.map p) (.map none) = Op.equalIn (9999 + 1) t (.map p) (.map none) from rfl, eqlIn_nil w 9999 t k e p h]
theorem assert_map (t xT k e : TypeId) (v : Value) (h : P.underlying t = some (.map k e)) : (Instr.typeAssert (.iface t v) xT t false).run P w = .ok v w := by
  simp [Instr.typeAssert, run_underlying h, go_sem, Result.andThen]
theorem clone_run {r : Nat} {es : Array MapEntry} {clock : Nat} (t : TypeId) (hb : w.heap[r]? = some (.map es clock)) :
    (Extern.MapsClone.clone #[.iface t (.map (some r))]).run P w = .ok (.iface t (.map (some w.heap.size))) (w.alloc (.map es clock)) := by
  have e : Extern.MapsClone.clone #[.iface t (.map (some r))] = (getObj r >>= fun o => match o with
      | .map entries clock => (newObj (.map entries clock) >>= fun n => pure (.iface t (.map (some n))))
      | _ => stuck "maps.clone: a map expected") := rfl
  rw [e]
  simp [MapKept.run_getObj_map hb, Result.andThen, go_sem]
end

set_option maxRecDepth 100000 in
set_option maxHeartbeats 2000000 in
theorem clone1_in (b : Nat) (es : Array MapEntry) (clock : Nat) (w : World) (hb : w.heap[b]? = some (.map es clock)) :
    Calls Tryz.prog 20 #[.map (some b)] w fun e w' => e = .returned (.map (some w.heap.size)) ∧ w' = w.alloc (.map es clock) := by
  have hq := fun w => eql_nil (P := Tryz.prog) w 40 _ _ (some b) Tryz.underlying40
  go_enter Tryz.func20, Tryz.ntmps20
  go_wp2
  rw [run_callFunc_extern Tryz.func53 (by kernel_rfl) (by kernel_rfl) (by kernel_rfl) (e := Extern.MapsClone.clone) (by kernel_rfl), clone_run w 40 hb]
  simp only [Result.andThen]
  rw [Oper.upon_value]
  go_wp2
  rw [assert_map _ 40 _ _ _ _ Tryz.underlying40]
  simp only [Result.andThen]
  rw [Oper.upon_value]
  go_wp2
  go_ret
  exact ⟨rfl, rfl⟩
set_option maxRecDepth 100000 in
set_option maxHeartbeats 2000000 in
theorem clone2_in (b : Nat) (es : Array MapEntry) (clock : Nat) (w : World) (hb : w.heap[b]? = some (.map es clock)) :
    Calls Tryz.prog 21 #[.map (some b)] w fun e w' => e = .returned (.map (some w.heap.size)) ∧ w' = w.alloc (.map es clock) := by
  have hq := fun w => eql_nil (P := Tryz.prog) w 41 _ _ (some b) Tryz.underlying41
  go_enter Tryz.func21, Tryz.ntmps21
  go_wp2
  rw [run_callFunc_extern Tryz.func53 (by kernel_rfl) (by kernel_rfl) (by kernel_rfl) (e := Extern.MapsClone.clone) (by kernel_rfl), clone_run w 41 hb]
  simp only [Result.andThen]
  rw [Oper.upon_value]
  go_wp2
  rw [assert_map _ 41 _ _ _ _ Tryz.underlying41]
  simp only [Result.andThen]
  rw [Oper.upon_value]
  go_wp2
  go_ret
  exact ⟨rfl, rfl⟩
end Go.Proofs.YtpjfebedfejmgaaGreat

namespace Go.Dec
open Go.Proofs Go.Proofs.YtpjfebedfejmgaaGreat
section
variable {w : World} {l r : List HP}
theorem clone1_c (m : Nat) (es : List (Int × TxnA)) (hs : Sat w (mapP ekI evX m es :: l)) : Ret P F.maps_Clone_map_int64_iso_life_int64_iso_life #[.map (some m)] w fun vs w' => ∃ m' : Nat, vs = [.map (some m')] ∧ Sat w' (mapP ekI evX m' es :: mapP ekI evX m es :: l) := by
  obtain ⟨E, c, hok, hs1⟩ := hs.mapOpen
  refine Calls.mono (clone1_in m E c w hs1.get) ?_
  rintro e w' ⟨he, rfl⟩
  refine ⟨[.map (some w.heap.size)], by rw [he]; rfl, w.heap.size, rfl, ?_⟩
  exact (hs.push (o := .map E c) (w' := w.alloc (.map E c)) rfl).mapShut hok
theorem clone2_c (m : Nat) (es : List ((Int × Int) × TxnA)) (hs : Sat w (mapP ekK evX m es :: l)) : Ret P F.maps_Clone_map_iso_key_iso_life_iso_key_iso_life #[.map (some m)] w fun vs w' => ∃ m' : Nat, vs = [.map (some m')] ∧ Sat w' (mapP ekK evX m' es :: mapP ekK evX m es :: l) := by
  obtain ⟨E, c, hok, hs1⟩ := hs.mapOpen
  refine Calls.mono (clone2_in m E c w hs1.get) ?_
  rintro e w' ⟨he, rfl⟩
  refine ⟨[.map (some w.heap.size)], by rw [he]; rfl, w.heap.size, rfl, ?_⟩
  exact (hs.push (o := .map E c) (w' := w.alloc (.map E c)) rfl).mapShut hok
end
end Go.Dec
