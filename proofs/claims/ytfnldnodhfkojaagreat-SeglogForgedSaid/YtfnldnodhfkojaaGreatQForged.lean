/- SeglogForged: whatever the input, the law's function returns true and changes nothing. (The frame is the kit's skeleton, its arguments kept as they stand.) -/
import Derived.Test.YtfnldnodhfkojaaGreatRows
import Derived.Test.YtfnldnodhfkojaaGreatQForged1
import Derived.Test.YtfnldnodhfkojaaGreatQForged2
import Derived.Test.YtfnldnodhfkojaaGreatQForged3
import Derived.Test.YtfnldnodhfkojaaGreatQForged4
import Derived.Test.YtfnldnodhfkojaaGreatQForged5
import Derived.Test.YtfnldnodhfkojaaGreatQForged6
import Derived.Test.YtfnldnodhfkojaaGreatQForged7
import Derived.WalkKit
import Derived.ProofKit
import Derived.OpenShut
namespace Go.Proofs.YtfnldnodhfkojaaGreat.seglogForged
open Go.ChangeShapes Go.WideShapes Go.ChangeAt Go.RowKit Go.ChangeMaps
set_option linter.unusedVariables false

theorem own : ownKnob Tryz.prog.godebug = none := by kernel_rfl

theorem kept : Dec.zos Tryz.prog [2, 3, 4, 9, 36, 125, 38, 22, 5, 65, 151, 61] = true := by kernel_rfl

set_option maxRecDepth 100000 in
theorem lifted (os : Os) (started : os.Started) (H : Type) (enc : TypeId × Value → H) :
    ReturnsInHanded {} Tryz.checked os 6 .any (Rows.seglogForgedSpec.pre6 enc Tryz.prog Tryz.f6 Rows.seglogForgedRow.domain false) (Rows.seglogForgedSpec.post enc Tryz.prog Tryz.f6 false true false false) := by
  refine returnsInHanded_of_change (C := Tryz.checked) own started (by kernel_rfl) Tryz.func6
    (ChangeSpec.witness6 (enc := enc) (C := Tryz.checked) false ⟨#[], #[.int .i64 0, .slice none 0 0], []⟩ 8 (by kernel_rfl) (by kernel_rfl) (by kernel_rfl) (by kernel_rfl)) ?_
  intro W base args ds gs before hval0 hW hcnd _
  have hval : ∀ (j : Nat) t v, Tryz.f6.params[j]? = some t → args[j]? = some v → Value.okWide Tryz.prog W .any base t v := hval0
  have hW' := hW
  obtain ⟨p, q, hA0, hV, rfl, hfz, hnd⟩ := hW
  have hA : DataW.TrodAll enc Tryz.prog W 0 (fun _ => true) true Tryz.f6.params.toList args.toList ds p := hA0
  have hA1 := hA
  rw [Tryz.params6] at hA hval
  obtain ⟨v0, vs0, d0, ds0, p0, q0, hargs, rfl, rfl, h0, r0⟩ := trodAll_cons hA
  obtain ⟨v1, vs1, d1, ds1, p1, q1, rfl, rfl, rfl, h1, r1⟩ := trodAll_cons r0
  obtain ⟨rfl, rfl, rfl⟩ := trodAll_nil r1
  obtain rfl : args = #[v0, v1] := by cases args; simp_all
  obtain ⟨rfl, rfl⟩ := trodVars_none hV
  obtain ⟨a0, rfl, rfl, rfl, w0⟩ := open_int Tryz.underlying3 (hval 0 3 v0 rfl rfl) h0
  obtain ⟨fu1, yy1, ht1⟩ := Dec.z04d Tryz.underlying61 (hval 1 61 v1 rfl rfl) h1
  obtain ⟨a1, fi6, rfl, hcap1, hlen1, hmx1, hfi, hrd1⟩ := Dec.zcr (C := 6) (encA := Dec.za4) (good := fun o => Dec.GoodF6 W o) Tryz.underlying61 (by kernel_rfl) (by decide) (fun n cs y _ h => Dec.z03y Tryz.underlying151 (by kernel_rfl) (by kernel_rfl) Tryz.underlying2 Tryz.underlying4 Tryz.underlying2 Tryz.underlying2 Tryz.underlying22 Tryz.underlying65 (by kernel_rfl) (by kernel_rfl) (fun n cs y _ h => Dec.z04c Tryz.underlying38 (by kernel_rfl) (by kernel_rfl) Tryz.underlying2 Tryz.underlying2 Tryz.underlying3 Tryz.underlying3 Tryz.underlying3 Tryz.underlying2 Tryz.underlying36 (by kernel_rfl) (fun n cs y _ h => Dec.z044 Tryz.underlying125 (by kernel_rfl) Tryz.underlying9 Tryz.underlying9 Tryz.underlying4 Tryz.underlying2 rfl rfl rfl rfl (by kernel_rfl) (by kernel_rfl) (by kernel_rfl) (by kernel_rfl) h) h) (fun n cs y h1 h => Dec.z04f Tryz.underlying5 h1 h) h) ht1
  refine Calls.mono (Dec.z03k a0 a1 fi6 (Dec.zdc hrd1) (fun o ho => Dec.z04e (hfi o ho)) (Dec.Sat.whole W)) fun e W' ⟨vs, he, hv, hs⟩ => ?_
  subst hv
  subst he
  exact ⟨_, rfl, Dec.z03x (pa := _) (pv := []) hW' hs (fun _ _ _ => (trodAll_cons_mk (shut_bool Tryz.underlying4 _) trodAll_mk0)) (fun sp hsp => Dec.zk2 kept hs.of_whole.1 _ _ _ _ (by rw [Tryz.params6]; decide) hA1 fun x hx => hsp x (List.mem_append_left _ hx)) (fun _ _ => rfl) rfl
    (ok_one (by kernel_rfl) rfl (okWide_bool_mk Tryz.underlying4 _))⟩

theorem over : Rows.seglogForgedRow.holds Tryz.pinned (OpenSpec.ofChange Rows.seglogForgedSpec) :=
  OpenClaim.holds_of_wide 6 Tryz.f6 rfl rfl rfl rfl rfl rfl rfl ⟨rfl, rfl, rfl, rfl, rfl⟩ rfl rfl rfl rfl rfl (by kernel_rfl) Tryz.func6 (by kernel_rfl)
    (of_decide_eq_true (by kernel_rfl)) (by unfold Func.isWrapper; first | (rw [if_pos (by decide +kernel)]; kernel_rfl) | (rw [if_neg (by decide +kernel)]; exact ⟨rfl, rfl⟩))
    (fun os started H enc _ => lifted os started H enc)

theorem proved : Rows.SeglogForgedSaid :=
  over
end Go.Proofs.YtfnldnodhfkojaaGreat.seglogForged
