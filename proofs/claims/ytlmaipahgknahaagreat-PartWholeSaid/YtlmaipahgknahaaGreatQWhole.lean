/- PartWhole: whatever the input, the law's function returns true and changes nothing. (The frame is the kit's skeleton, its arguments kept as they stand.) -/
import Derived.Test.YtlmaipahgknahaaGreatRows
import Derived.Test.YtlmaipahgknahaaGreatQWhole1
import Derived.Test.YtlmaipahgknahaaGreatQWhole2
import Derived.Test.YtlmaipahgknahaaGreatQWhole3
import Derived.Test.YtlmaipahgknahaaGreatQWhole4
import Derived.Test.YtlmaipahgknahaaGreatQWhole5
import Derived.Test.YtlmaipahgknahaaGreatQWhole6
import Derived.Test.YtlmaipahgknahaaGreatQWhole7
import Derived.Test.YtlmaipahgknahaaGreatQWhole8
import Derived.WalkKit
import Derived.ProofKit
import Derived.OpenShut
namespace Go.Proofs.YtlmaipahgknahaaGreat.partWhole
open Go.ChangeShapes Go.WideShapes Go.ChangeAt Go.RowKit Go.ChangeMaps
set_option linter.unusedVariables false

theorem own : ownKnob Tryz.prog.godebug = none := by kernel_rfl

theorem kept : Dec.zoo Tryz.prog [2, 3, 4, 9, 36, 48, 38, 40, 22] = true := by kernel_rfl

set_option maxRecDepth 100000 in
theorem lifted (os : Os) (started : os.Started) (H : Type) (enc : TypeId × Value → H) :
    ReturnsInHanded {} Tryz.checked os 3 .any (Rows.partWholeSpec.pre6 enc Tryz.prog Tryz.f3 Rows.partWholeRow.domain false) (Rows.partWholeSpec.post enc Tryz.prog Tryz.f3 false true false false) := by
  refine returnsInHanded_of_change (C := Tryz.checked) own started (by kernel_rfl) Tryz.func3
    (ChangeSpec.witness6 (enc := enc) (C := Tryz.checked) false ⟨#[], #[.int .i64 0, .slice none 0 0], []⟩ 8 (by kernel_rfl) (by kernel_rfl) (by kernel_rfl) (by kernel_rfl)) ?_
  intro W base args ds gs before hval0 hW hcnd _
  have hval : ∀ (j : Nat) t v, Tryz.f3.params[j]? = some t → args[j]? = some v → Value.okWide Tryz.prog W .any base t v := hval0
  have hW' := hW
  obtain ⟨p, q, hA0, hV, rfl, hfz, hnd⟩ := hW
  have hA : DataW.TrodAll enc Tryz.prog W 0 (fun _ => true) true Tryz.f3.params.toList args.toList ds p := hA0
  have hA1 := hA
  rw [Tryz.params3] at hA hval
  obtain ⟨v0, vs0, d0, ds0, p0, q0, hargs, rfl, rfl, h0, r0⟩ := trodAll_cons hA
  obtain ⟨v1, vs1, d1, ds1, p1, q1, rfl, rfl, rfl, h1, r1⟩ := trodAll_cons r0
  obtain ⟨rfl, rfl, rfl⟩ := trodAll_nil r1
  obtain rfl : args = #[v0, v1] := by cases args; simp_all
  obtain ⟨rfl, rfl⟩ := trodVars_none hV
  obtain ⟨a0, rfl, rfl, rfl, w0⟩ := open_int Tryz.underlying3 (hval 0 3 v0 rfl rfl) h0
  obtain ⟨fu1, yy1, ht1⟩ := Dec.z081 Tryz.underlying22 (hval 1 22 v1 rfl rfl) h1
  obtain ⟨a1, os_, rfl, hcap1, hlen1, hmx1, hos, hrd1⟩ := Dec.zw2 (C := 11) (encA := Dec.zd8) (good := fun o => Dec.Rd W 4 o.b.x (o.b.rs.flatMap Dec.zy)) Tryz.underlying22 (by kernel_rfl) (by decide) (fun n cs y _ h => Dec.z07v Tryz.underlying40 (by kernel_rfl) Tryz.underlying3 Tryz.underlying4 Tryz.underlying2 Tryz.underlying3 rfl rfl rfl rfl rfl (by kernel_rfl) (by kernel_rfl) (by kernel_rfl) (by kernel_rfl) (by kernel_rfl) (fun n cs y _ h => Dec.z080 Tryz.underlying38 (by kernel_rfl) (by kernel_rfl) Tryz.underlying2 Tryz.underlying2 Tryz.underlying3 Tryz.underlying3 Tryz.underlying3 Tryz.underlying2 Tryz.underlying36 (by kernel_rfl) (fun n cs y _ h => Dec.z07w Tryz.underlying48 (by kernel_rfl) Tryz.underlying9 Tryz.underlying9 Tryz.underlying4 Tryz.underlying2 rfl rfl rfl rfl (by kernel_rfl) (by kernel_rfl) (by kernel_rfl) (by kernel_rfl) h) h) h) ht1
  refine Calls.mono (Dec.z06n a0 a1 os_ (Dec.z07k hrd1) (fun o ho => Dec.z07k (hos o ho)) (Dec.z07r hcap1 hlen1 hmx1) (Dec.Sat.whole W)) fun e W' ⟨vs, he, hv, hs⟩ => ?_
  subst hv
  subst he
  exact ⟨_, rfl, Dec.z07l (pa := _) (pv := []) hW' hs (fun _ _ _ => (trodAll_cons_mk (shut_bool Tryz.underlying4 _) trodAll_mk0)) (fun sp hsp => Dec.zln kept hs.of_whole.1 _ _ _ _ (by rw [Tryz.params3]; decide) hA1 fun x hx => hsp x (List.mem_append_left _ hx)) (fun _ _ => rfl) rfl
    (ok_one (by kernel_rfl) rfl (okWide_bool_mk Tryz.underlying4 _))⟩

set_option maxHeartbeats 4000000 in
theorem over : Rows.partWholeRow.holds Tryz.pinned (OpenSpec.ofChange Rows.partWholeSpec) :=
  OpenClaim.holds_of_wide 3 Tryz.f3 rfl rfl rfl rfl rfl rfl rfl ⟨rfl, rfl, rfl, rfl, rfl⟩ rfl rfl rfl rfl rfl (by as_aux_lemma => kernel_rfl) Tryz.func3 (by as_aux_lemma => kernel_rfl)
    (of_decide_eq_true (by as_aux_lemma => kernel_rfl)) (by as_aux_lemma => unfold Func.isWrapper; first | (rw [if_pos (by decide +kernel)]; kernel_rfl) | (rw [if_neg (by decide +kernel)]; exact ⟨rfl, rfl⟩))
    (fun os started H enc _ => lifted os started H enc)

theorem proved : Rows.PartWholeSaid :=
  over
end Go.Proofs.YtlmaipahgknahaaGreat.partWhole
