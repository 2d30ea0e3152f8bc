/- OffsetsHold: whatever the input, the law's function returns true and changes nothing. (The frame is the kit's skeleton, its arguments kept as they stand.) -/
import Derived.Test.YtogdpmpccmpekaaGreatRows
import Derived.Test.YtogdpmpccmpekaaGreatQHold1
import Derived.Test.YtogdpmpccmpekaaGreatQHold2
import Derived.Test.YtogdpmpccmpekaaGreatQHold3
import Derived.Test.YtogdpmpccmpekaaGreatQHold4
import Derived.Test.YtogdpmpccmpekaaGreatQHold5
import Derived.Test.YtogdpmpccmpekaaGreatQHold6
import Derived.Test.YtogdpmpccmpekaaGreatQHold7
import Derived.WalkKit
import Derived.ProofKit
import Derived.OpenShut
namespace Go.Proofs.YtogdpmpccmpekaaGreat.offsetsHold
open Go.ChangeShapes Go.WideShapes Go.ChangeAt Go.RowKit Go.ChangeMaps
set_option linter.unusedVariables false

theorem own : ownKnob Tryz.prog.godebug = none := by kernel_rfl

theorem kept : Dec.zq0 Tryz.prog [2, 3, 4, 43, 36, 38, 22] = true := by kernel_rfl

set_option maxRecDepth 100000 in
theorem lifted (os : Os) (started : os.Started) (H : Type) (enc : TypeId × Value → H) :
    ReturnsInHanded {} Tryz.checked os 3 .any (Rows.offsetsHoldSpec.pre6 enc Tryz.prog Tryz.f3 Rows.offsetsHoldRow.domain false) (Rows.offsetsHoldSpec.post enc Tryz.prog Tryz.f3 false true false false) := by
  refine returnsInHanded_of_change (C := Tryz.checked) own started (by kernel_rfl) Tryz.func3
    (ChangeSpec.witness6 (enc := enc) (C := Tryz.checked) false ⟨#[], #[.slice none 0 0], []⟩ 8 (by kernel_rfl) (by kernel_rfl) (by kernel_rfl) (by kernel_rfl)) ?_
  intro W base args ds gs before hval0 hW hcnd _
  have hval : ∀ (j : Nat) t v, Tryz.f3.params[j]? = some t → args[j]? = some v → Value.okWide Tryz.prog W .any base t v := hval0
  have hW' := hW
  obtain ⟨p, q, hA0, hV, rfl, hfz, hnd⟩ := hW
  have hA : DataW.TrodAll enc Tryz.prog W 0 (fun _ => true) true Tryz.f3.params.toList args.toList ds p := hA0
  have hA1 := hA
  rw [Tryz.params3] at hA hval
  obtain ⟨v0, vs0, d0, ds0, p0, q0, hargs, rfl, rfl, h0, r0⟩ := trodAll_cons hA
  obtain ⟨rfl, rfl, rfl⟩ := trodAll_nil r0
  obtain rfl : args = #[v0] := by cases args; simp_all
  obtain ⟨rfl, rfl⟩ := trodVars_none hV
  obtain ⟨fu0, yy0, ht0⟩ := Dec.z0ax Tryz.underlying22 (hval 0 22 v0 rfl rfl) h0
  obtain ⟨a0, os_, rfl, hcap0, hlen0, hmx0, hos, hrd0⟩ := Dec.zxn (C := 7) (encA := Dec.zbu) (good := fun o => Dec.Rd W 4 o.x (o.cs.flatMap Dec.z0b) ∧ o.x.len ≤ o.x.cap) Tryz.underlying22 (by kernel_rfl) (by decide) (fun n cs y _ h => Dec.z0as Tryz.underlying38 (by kernel_rfl) (by kernel_rfl) Tryz.underlying3 Tryz.underlying2 Tryz.underlying3 Tryz.underlying3 Tryz.underlying2 Tryz.underlying4 Tryz.underlying36 (by kernel_rfl) (fun n cs y _ h => (Dec.z0ar Tryz.underlying43 (by kernel_rfl) Tryz.underlying3 Tryz.underlying2 Tryz.underlying3 Tryz.underlying3 rfl rfl rfl rfl (by kernel_rfl) (by kernel_rfl) (by kernel_rfl) (by kernel_rfl) h).imp fun _ e => ⟨e, trivial⟩) h) ht0
  refine Calls.mono (Dec.z0a8 a0 os_ (Dec.z0ah hrd0) (fun o ho => ⟨Dec.z0ah (hos o ho).1, (hos o ho).2⟩) (Dec.Sat.whole W)) fun e W' ⟨vs, he, hv, hs⟩ => ?_
  subst hv
  subst he
  exact ⟨_, rfl, Dec.z0ai (pa := _) (pv := []) hW' hs (fun _ _ _ => (trodAll_cons_mk (shut_bool Tryz.underlying4 _) trodAll_mk0)) (fun sp hsp => Dec.zmz kept hs.of_whole.1 _ _ _ _ (by rw [Tryz.params3]; decide) hA1 fun x hx => hsp x (List.mem_append_left _ hx)) (fun _ _ => rfl) rfl
    (ok_one (by kernel_rfl) rfl (okWide_bool_mk Tryz.underlying4 _))⟩

set_option maxHeartbeats 4000000 in
theorem closed : joinedFacts Tryz.pinned.checked.prog 3 Tryz.f3 Rows.offsetsHoldSpec Rows.offsetsHoldRow = true := by
  unfold joinedFacts
  (repeat' with_reducible refine Bool.and_eq_true_iff.2 ⟨?_, ?_⟩)
  all_goals (as_aux_lemma => kernel_rfl)

set_option maxHeartbeats 4000000 in
theorem over : Rows.offsetsHoldRow.holds Tryz.pinned (OpenSpec.ofChange Rows.offsetsHoldSpec) :=
  OpenClaim.holds_of_wide 3 Tryz.f3 rfl rfl rfl rfl rfl rfl rfl ⟨rfl, rfl, rfl, rfl, rfl⟩ rfl rfl rfl rfl rfl (by as_aux_lemma => kernel_rfl) Tryz.func3 closed
    (of_decide_eq_true (by as_aux_lemma => kernel_rfl)) (by as_aux_lemma => unfold Func.isWrapper; first | (rw [if_pos (by decide +kernel)]; kernel_rfl) | (rw [if_neg (by decide +kernel)]; exact ⟨rfl, rfl⟩))
    (fun os started H enc _ => lifted os started H enc)

theorem proved : Rows.OffsetsHoldSaid :=
  over
end Go.Proofs.YtogdpmpccmpekaaGreat.offsetsHold
