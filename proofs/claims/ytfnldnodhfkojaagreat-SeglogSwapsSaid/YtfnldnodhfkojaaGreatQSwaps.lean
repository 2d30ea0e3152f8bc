/- SeglogSwaps: whatever the input, the law's function returns true and changes nothing. (The frame is the kit's skeleton, its arguments kept as they stand.) -/
import Derived.Test.YtfnldnodhfkojaaGreatRows
import Derived.Test.YtfnldnodhfkojaaGreatQSwaps1
import Derived.Test.YtfnldnodhfkojaaGreatQSwaps2
import Derived.Test.YtfnldnodhfkojaaGreatQSwaps3
import Derived.Test.YtfnldnodhfkojaaGreatQSwaps4
import Derived.Test.YtfnldnodhfkojaaGreatQSwaps5
import Derived.Test.YtfnldnodhfkojaaGreatQSwaps6
import Derived.Test.YtfnldnodhfkojaaGreatQSwaps7
import Derived.WalkKit
import Derived.ProofKit
import Derived.OpenShut
namespace Go.Proofs.YtfnldnodhfkojaaGreat.seglogSwaps
open Go.ChangeShapes Go.WideShapes Go.ChangeAt Go.RowKit Go.ChangeMaps
set_option linter.unusedVariables false

theorem own : ownKnob Tryz.prog.godebug = none := by kernel_rfl

theorem kept : Dec.zn8 Tryz.prog [2, 3, 4, 9, 36, 125, 38, 22, 87, 88] = true := by kernel_rfl

set_option maxRecDepth 100000 in
theorem lifted (os : Os) (started : os.Started) (H : Type) (enc : TypeId × Value → H) :
    ReturnsInHanded {} Tryz.checked os 10 .any (Rows.seglogSwapsSpec.pre6 enc Tryz.prog Tryz.f10 Rows.seglogSwapsRow.domain false) (Rows.seglogSwapsSpec.post enc Tryz.prog Tryz.f10 false true false false) := by
  refine returnsInHanded_of_change (C := Tryz.checked) own started (by kernel_rfl) Tryz.func10
    (ChangeSpec.witness6 (enc := enc) (C := Tryz.checked) false ⟨#[], #[.int .i64 0, .slice none 0 0, .int .i64 0, .slice none 0 0, .int .i64 0, .slice none 0 0], []⟩ 8 (by kernel_rfl) (by kernel_rfl) (by kernel_rfl) (by kernel_rfl)) ?_
  intro W base args ds gs before hval0 hW hcnd _
  have hval : ∀ (j : Nat) t v, Tryz.f10.params[j]? = some t → args[j]? = some v → Value.okWide Tryz.prog W .any base t v := hval0
  have hW' := hW
  obtain ⟨p, q, hA0, hV, rfl, hfz, hnd⟩ := hW
  have hA : DataW.TrodAll enc Tryz.prog W 0 (fun _ => true) true Tryz.f10.params.toList args.toList ds p := hA0
  have hA1 := hA
  rw [Tryz.params10] at hA hval
  obtain ⟨v0, vs0, d0, ds0, p0, q0, hargs, rfl, rfl, h0, r0⟩ := trodAll_cons hA
  obtain ⟨v1, vs1, d1, ds1, p1, q1, rfl, rfl, rfl, h1, r1⟩ := trodAll_cons r0
  obtain ⟨v2, vs2, d2, ds2, p2, q2, rfl, rfl, rfl, h2, r2⟩ := trodAll_cons r1
  obtain ⟨v3, vs3, d3, ds3, p3, q3, rfl, rfl, rfl, h3, r3⟩ := trodAll_cons r2
  obtain ⟨v4, vs4, d4, ds4, p4, q4, rfl, rfl, rfl, h4, r4⟩ := trodAll_cons r3
  obtain ⟨v5, vs5, d5, ds5, p5, q5, rfl, rfl, rfl, h5, r5⟩ := trodAll_cons r4
  obtain ⟨rfl, rfl, rfl⟩ := trodAll_nil r5
  obtain rfl : args = #[v0, v1, v2, v3, v4, v5] := by cases args; simp_all
  obtain ⟨rfl, rfl⟩ := trodVars_none hV
  obtain ⟨a0, rfl, rfl, rfl, w0⟩ := open_int Tryz.underlying3 (hval 0 3 v0 rfl rfl) h0
  obtain ⟨fu1, yy1, ht1⟩ := Dec.z03p Tryz.underlying22 (hval 1 22 v1 rfl rfl) h1
  obtain ⟨a1, bs, rfl, hcap1, hlen1, hmx1, hbs, hrd1⟩ := Dec.ztm (C := 7) (encA := Dec.zj) (good := fun b => Dec.Rd W 4 b.x (b.rs.flatMap Dec.zx) ∧ (-9223372036854775808 ≤ b.base ∧ b.base < 9223372036854775808)) Tryz.underlying22 (by kernel_rfl) (by decide) (fun n cs y _ h => Dec.z03r Tryz.underlying38 (by kernel_rfl) (by kernel_rfl) Tryz.underlying2 Tryz.underlying2 Tryz.underlying3 Tryz.underlying3 Tryz.underlying3 Tryz.underlying2 Tryz.underlying36 (by kernel_rfl) (fun n cs y _ h => Dec.z03j Tryz.underlying125 (by kernel_rfl) Tryz.underlying9 Tryz.underlying9 Tryz.underlying4 Tryz.underlying2 rfl rfl rfl rfl (by kernel_rfl) (by kernel_rfl) (by kernel_rfl) (by kernel_rfl) h) h) ht1
  obtain ⟨a2, rfl, rfl, rfl, w2⟩ := open_int Tryz.underlying3 (hval 2 3 v2 rfl rfl) h2
  obtain ⟨fu3, yy3, ht3⟩ := Dec.z03p Tryz.underlying87 (hval 3 87 v3 rfl rfl) h3
  obtain ⟨a3, ss, rfl, hcap3, hlen3, hmx3, -, hrd3⟩ := Dec.ztm (C := 1) (encA := Dec.z7d) (good := fun _ => True) Tryz.underlying87 (by kernel_rfl) (by decide) (fun n cs y h1 h => Dec.z03q Tryz.underlying4 h1 h) ht3
  obtain ⟨a4, rfl, rfl, rfl, w4⟩ := open_int Tryz.underlying3 (hval 4 3 v4 rfl rfl) h4
  obtain ⟨a5, ps, rfl, hcap5, hzs5, wz5, hrd5⟩ := Dec.z02x (k := .i64) Tryz.underlying88 Tryz.underlying3 (by kernel_rfl) (hval 5 88 v5 rfl rfl) h5
  refine Calls.mono (Dec.z035 a0 a2 a1 a3 bs ss a4 a5 ps (by have := Dec.z03n w4; omega) (Dec.z03b hrd1) (fun b hb => Dec.z03b (hbs b hb).1) (Dec.z03b hrd3) (Dec.z03b hrd5) hcap5 (Dec.Sat.whole W)) fun e W' ⟨vs, he, hv, hs⟩ => ?_
  subst hv
  subst he
  exact ⟨_, rfl, Dec.z03c (pa := _) (pv := []) hW' hs (fun _ _ _ => (trodAll_cons_mk (shut_bool Tryz.underlying4 _) trodAll_mk0)) (fun sp hsp => Dec.zjz kept hs.of_whole.1 _ _ _ _ (by rw [Tryz.params10]; decide) hA1 fun x hx => hsp x (List.mem_append_left _ hx)) (fun _ _ => rfl) rfl
    (ok_one (by kernel_rfl) rfl (okWide_bool_mk Tryz.underlying4 _))⟩

theorem over : Rows.seglogSwapsRow.holds Tryz.pinned (OpenSpec.ofChange Rows.seglogSwapsSpec) :=
  OpenClaim.holds_of_wide 10 Tryz.f10 rfl rfl rfl rfl rfl rfl rfl ⟨rfl, rfl, rfl, rfl, rfl⟩ rfl rfl rfl rfl rfl (by kernel_rfl) Tryz.func10 (by kernel_rfl)
    (of_decide_eq_true (by kernel_rfl)) (by unfold Func.isWrapper; first | (rw [if_pos (by decide +kernel)]; kernel_rfl) | (rw [if_neg (by decide +kernel)]; exact ⟨rfl, rfl⟩))
    (fun os started H enc _ => lifted os started H enc)

theorem proved : Rows.SeglogSwapsSaid :=
  over
end Go.Proofs.YtfnldnodhfkojaaGreat.seglogSwaps
