/- DedupStable: whatever the input, the law's function returns true and changes nothing. (The frame is the kit's skeleton, its arguments kept as they stand.) -/
import Derived.Test.YtcpmaccapgpgaaaRows
import Derived.WalkKit
import Derived.ProofKit
import Derived.OpenShut
import Derived.Test.YtcpmaccapgpgaaaOpenZ
import Derived.Test.YtcpmaccapgpgaaaL3
import Derived.Test.YtcpmaccapgpgaaaO2
namespace Go.Proofs.Ytcpmaccapgpgaaa.dedupStable
open Go.ChangeShapes Go.WideShapes Go.ChangeAt Go.RowKit Go.ChangeMaps
set_option linter.unusedVariables false

theorem own : ownKnob Try.prog.godebug = none := by kernel_rfl

theorem kept : Dec.celledB Try.prog [2, 3, 4, 9, 29, 69, 31, 34, 22] = true := by kernel_rfl

set_option maxRecDepth 100000 in
theorem lifted (os : Os) (started : os.Started) (H : Type) (enc : TypeId × Value → H) :
    ReturnsInHanded {} Try.checked os 4 .any (Rows.dedupStableSpec.pre6 enc Try.prog Try.f4 Rows.dedupStableRow.domain false) (Rows.dedupStableSpec.post enc Try.prog Try.f4 false true false false) := by
  refine returnsInHanded_of_change (C := Try.checked) own started (by kernel_rfl) Try.func4
    (ChangeSpec.witness6 (enc := enc) (C := Try.checked) false ⟨#[], #[.slice none 0 0], []⟩ 8 (by kernel_rfl) (by kernel_rfl) (by kernel_rfl) (by kernel_rfl)) ?_
  intro W base args ds gs before hval0 hW hcnd _
  have hval : ∀ (j : Nat) t v, Try.f4.params[j]? = some t → args[j]? = some v → Value.okWide Try.prog W .any base t v := hval0
  have hW' := hW
  obtain ⟨p, q, hA0, hV, rfl, hfz, hnd⟩ := hW
  have hA : DataW.TrodAll enc Try.prog W 0 (fun _ => true) true Try.f4.params.toList args.toList ds p := hA0
  have hA1 := hA
  rw [Try.params4] at hA hval
  obtain ⟨v0, vs0, d0, ds0, p0, q0, hargs, rfl, rfl, h0, r0⟩ := trodAll_cons hA
  obtain ⟨rfl, rfl, rfl⟩ := trodAll_nil r0
  obtain rfl : args = #[v0] := by cases args; simp_all
  obtain ⟨rfl, rfl⟩ := trodVars_none hV
  obtain ⟨fu0, yy0, ht0⟩ := Dec.trod_of Try.underlying22 (hval 0 22 v0 rfl rfl) h0
  obtain ⟨a0, ops, rfl, hcap0, hlen0, hmx0, hops, hrd0⟩ := Dec.trod_rows (C := 10) (encA := Dec.encO) (good := fun o => Dec.Rd W 4 o.b.x (o.b.rs.flatMap Dec.encR)) Try.underlying22 (by kernel_rfl) (by decide) (fun n cs y _ h => Dec.read_op Try.underlying34 (by kernel_rfl) Try.underlying3 Try.underlying31 Try.underlying4 Try.underlying2 rfl rfl rfl rfl (by kernel_rfl) (by kernel_rfl) (by kernel_rfl) (by kernel_rfl) (by kernel_rfl) Try.underlying2 Try.underlying2 Try.underlying3 Try.underlying3 Try.underlying3 Try.underlying2 Try.underlying29 (by kernel_rfl) (fun n cs y _ h => Dec.read_rec Try.underlying69 (by kernel_rfl) Try.underlying9 Try.underlying9 Try.underlying4 Try.underlying2 rfl rfl rfl rfl (by kernel_rfl) (by kernel_rfl) (by kernel_rfl) (by kernel_rfl) h) h) ht0
  refine Calls.mono (@Dec.stable_law _ _ a0 ops ⟨fun w h => Dec.rd_keep h.of_whole.1 hrd0⟩ (Dec.len_max8 hcap0 hlen0 hmx0) (fun o ho => Dec.opJ_whole (hops o ho)) (Dec.Sat.whole W)) fun e W' ⟨vs, he, hv, hs⟩ => ?_
  subst hv
  subst he
  exact ⟨_, rfl, Dec.post_keep (pa := _) (pv := []) hW' hs (fun _ _ _ => (trodAll_cons_mk (shut_bool Try.underlying4 _) trodAll_mk0)) (fun sp hsp => Dec.trodAll_keep kept hs.of_whole.1 _ _ _ _ (by rw [Try.params4]; decide) hA1 fun x hx => hsp x (List.mem_append_left _ hx)) (fun _ _ => rfl) rfl
    (ok_one (by kernel_rfl) rfl (okWide_bool_mk Try.underlying4 _))⟩

theorem over : Rows.dedupStableRow.holds Try.pinned (OpenSpec.ofChange Rows.dedupStableSpec) :=
  OpenClaim.holds_of_wide 4 Try.f4 rfl rfl rfl rfl rfl rfl rfl ⟨rfl, rfl, rfl, rfl, rfl⟩ rfl rfl rfl rfl rfl (by kernel_rfl) Try.func4 (by kernel_rfl)
    (of_decide_eq_true (by kernel_rfl)) (by unfold Func.isWrapper; first | (rw [if_pos (by decide +kernel)]; kernel_rfl) | (rw [if_neg (by decide +kernel)]; exact ⟨rfl, rfl⟩))
    (fun os started H enc _ => lifted os started H enc)

theorem proved : Rows.DedupStableSaid :=
  over
end Go.Proofs.Ytcpmaccapgpgaaa.dedupStable
