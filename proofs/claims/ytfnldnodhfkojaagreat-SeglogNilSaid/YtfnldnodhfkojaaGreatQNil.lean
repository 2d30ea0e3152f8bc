/- SeglogNil: whatever the input, the law's function returns true and changes nothing. (The frame is the kit's skeleton, its arguments kept as they stand.) -/
import Derived.Test.YtfnldnodhfkojaaGreatRows
import Derived.Test.YtfnldnodhfkojaaGreatQNil1
import Derived.Test.YtfnldnodhfkojaaGreatQNil2
import Derived.Test.YtfnldnodhfkojaaGreatQNil3
import Derived.Test.YtfnldnodhfkojaaGreatQNil4
import Derived.Test.YtfnldnodhfkojaaGreatQNil5
import Derived.Test.YtfnldnodhfkojaaGreatQNil6
import Derived.Test.YtfnldnodhfkojaaGreatQNil7
import Derived.WalkKit
import Derived.ProofKit
import Derived.OpenShut
namespace Go.Proofs.YtfnldnodhfkojaaGreat.seglogNil
open Go.ChangeShapes Go.WideShapes Go.ChangeAt Go.RowKit Go.ChangeMaps
set_option linter.unusedVariables false

theorem own : ownKnob Tryz.prog.godebug = none := by kernel_rfl

theorem kept : Dec.celledB Tryz.prog [2, 3, 4] = true := by kernel_rfl

set_option maxRecDepth 100000 in
theorem lifted (os : Os) (started : os.Started) (H : Type) (enc : TypeId × Value → H) :
    ReturnsInHanded {} Tryz.checked os 12 .any (Rows.seglogNilSpec.pre6 enc Tryz.prog Tryz.f12 Rows.seglogNilRow.domain false) (Rows.seglogNilSpec.post enc Tryz.prog Tryz.f12 false true false false) := by
  refine returnsInHanded_of_change (C := Tryz.checked) own started (by kernel_rfl) Tryz.func12
    (ChangeSpec.witness6 (enc := enc) (C := Tryz.checked) false ⟨#[], #[.int .i64 0, .int .i64 0], []⟩ 8 (by kernel_rfl) (by kernel_rfl) (by kernel_rfl) (by kernel_rfl)) ?_
  intro W base args ds gs before hval0 hW hcnd _
  have hval : ∀ (j : Nat) t v, Tryz.f12.params[j]? = some t → args[j]? = some v → Value.okWide Tryz.prog W .any base t v := hval0
  have hW' := hW
  obtain ⟨p, q, hA0, hV, rfl, hfz, hnd⟩ := hW
  have hA : DataW.TrodAll enc Tryz.prog W 0 (fun _ => true) true Tryz.f12.params.toList args.toList ds p := hA0
  have hA1 := hA
  rw [Tryz.params12] at hA hval
  obtain ⟨v0, vs0, d0, ds0, p0, q0, hargs, rfl, rfl, h0, r0⟩ := trodAll_cons hA
  obtain ⟨v1, vs1, d1, ds1, p1, q1, rfl, rfl, rfl, h1, r1⟩ := trodAll_cons r0
  obtain ⟨rfl, rfl, rfl⟩ := trodAll_nil r1
  obtain rfl : args = #[v0, v1] := by cases args; simp_all
  obtain ⟨rfl, rfl⟩ := trodVars_none hV
  obtain ⟨a0, rfl, rfl, rfl, w0⟩ := open_int Tryz.underlying2 (hval 0 2 v0 rfl rfl) h0
  obtain ⟨a1, rfl, rfl, rfl, w1⟩ := open_int Tryz.underlying3 (hval 1 3 v1 rfl rfl) h1
  refine Calls.mono (Dec.nil6_law a0 a1 (Dec.Sat.whole W)) fun e W' ⟨vs, he, hv, hs⟩ => ?_
  subst hv
  subst he
  exact ⟨_, rfl, Dec.post_keep (pa := _) (pv := []) hW' hs (fun _ _ _ => (trodAll_cons_mk (shut_bool Tryz.underlying4 _) trodAll_mk0)) (fun sp hsp => Dec.trodAll_keep kept hs.of_whole.1 _ _ _ _ (by rw [Tryz.params12]; decide) hA1 fun x hx => hsp x (List.mem_append_left _ hx)) (fun _ _ => rfl) rfl
    (ok_one (by kernel_rfl) rfl (okWide_bool_mk Tryz.underlying4 _))⟩

theorem over : Rows.seglogNilRow.holds Tryz.pinned (OpenSpec.ofChange Rows.seglogNilSpec) :=
  OpenClaim.holds_of_wide 12 Tryz.f12 rfl rfl rfl rfl rfl rfl rfl ⟨rfl, rfl, rfl, rfl, rfl⟩ rfl rfl rfl rfl rfl (by kernel_rfl) Tryz.func12 (by kernel_rfl)
    (of_decide_eq_true (by kernel_rfl)) (by unfold Func.isWrapper; first | (rw [if_pos (by decide +kernel)]; kernel_rfl) | (rw [if_neg (by decide +kernel)]; exact ⟨rfl, rfl⟩))
    (fun os started H enc _ => lifted os started H enc)

theorem proved : Rows.SeglogNilSaid :=
  over
end Go.Proofs.YtfnldnodhfkojaaGreat.seglogNil
