/- SeglogCrash: whatever the input, the law's function returns true and changes nothing. (The frame is the kit's skeleton, its arguments kept as they stand.) -/
import Derived.Test.YtfnldnodhfkojaaGreatRows
import Derived.Test.YtfnldnodhfkojaaGreatQCrash1
import Derived.Test.YtfnldnodhfkojaaGreatQCrash2
import Derived.Test.YtfnldnodhfkojaaGreatQCrash3
import Derived.Test.YtfnldnodhfkojaaGreatQCrash4
import Derived.Test.YtfnldnodhfkojaaGreatQCrash5
import Derived.Test.YtfnldnodhfkojaaGreatQCrash6
import Derived.Test.YtfnldnodhfkojaaGreatQCrash7
import Derived.WalkKit
import Derived.ProofKit
import Derived.OpenShut
namespace Go.Proofs.YtfnldnodhfkojaaGreat.seglogCrash
open Go.ChangeShapes Go.WideShapes Go.ChangeAt Go.RowKit Go.ChangeMaps
set_option linter.unusedVariables false

theorem own : ownKnob Tryz.prog.godebug = none := by kernel_rfl

theorem kept : Dec.celledB Tryz.prog [2, 3, 4, 9, 36, 125, 38, 22, 87, 88] = true := by kernel_rfl

set_option maxRecDepth 100000 in
theorem lifted (os : Os) (started : os.Started) (H : Type) (enc : TypeId × Value → H) :
    ReturnsInHanded {} Tryz.checked os 9 .any (Rows.seglogCrashSpec.pre6 enc Tryz.prog Tryz.f9 Rows.seglogCrashRow.domain false) (Rows.seglogCrashSpec.post enc Tryz.prog Tryz.f9 false true false false) := by
  refine returnsInHanded_of_change (C := Tryz.checked) own started (by kernel_rfl) Tryz.func9
    (ChangeSpec.witness6 (enc := enc) (C := Tryz.checked) false ⟨#[], #[.int .i64 0, .slice none 0 0, .slice none 0 0, .int .i64 0, .slice none 0 0, .int .i64 0], []⟩ 8 (by kernel_rfl) (by kernel_rfl) (by kernel_rfl) (by kernel_rfl)) ?_
  intro W base args ds gs before hval0 hW hcnd _
  have hval : ∀ (j : Nat) t v, Tryz.f9.params[j]? = some t → args[j]? = some v → Value.okWide Tryz.prog W .any base t v := hval0
  have hW' := hW
  obtain ⟨p, q, hA0, hV, rfl, hfz, hnd⟩ := hW
  have hA : DataW.TrodAll enc Tryz.prog W 0 (fun _ => true) true Tryz.f9.params.toList args.toList ds p := hA0
  have hA1 := hA
  rw [Tryz.params9] at hA hval
  obtain ⟨v0, vs0, d0, ds0, p0, q0, hargs, rfl, rfl, h0, r0⟩ := trodAll_cons hA
  obtain ⟨v1, vs1, d1, ds1, p1, q1, rfl, rfl, rfl, h1, r1⟩ := trodAll_cons r0
  obtain ⟨v2, vs2, d2, ds2, p2, q2, rfl, rfl, rfl, h2, r2⟩ := trodAll_cons r1
  obtain ⟨v3, vs3, d3, ds3, p3, q3, rfl, rfl, rfl, h3, r3⟩ := trodAll_cons r2
  obtain ⟨v4, vs4, d4, ds4, p4, q4, rfl, rfl, rfl, h4, r4⟩ := trodAll_cons r3
  obtain ⟨v5, vs5, d5, ds5, p5, q5, rfl, rfl, rfl, h5, r5⟩ := trodAll_cons r4
  obtain ⟨rfl, rfl, rfl⟩ := trodAll_nil r5
  obtain rfl : args = #[v0, v1, v2, v3, v4, v5] := by cases args; simp_all
  obtain ⟨rfl, rfl⟩ := trodVars_none hV
  obtain ⟨a0, rfl, rfl, rfl, w0⟩ := open_int Tryz.underlying3 (hval 0 3 v0 rfl rfl) h0
  obtain ⟨fu1, yy1, ht1⟩ := Dec.trod_of Tryz.underlying22 (hval 1 22 v1 rfl rfl) h1
  obtain ⟨a1, bs, rfl, hcap1, hlen1, hmx1, hbs, hrd1⟩ := Dec.trod_rows (C := 7) (encA := Dec.encB7) (good := fun b => Dec.Rd W 4 b.x (b.rs.flatMap Dec.encR) ∧ (-9223372036854775808 ≤ b.base ∧ b.base < 9223372036854775808)) Tryz.underlying22 (by kernel_rfl) (by decide) (fun n cs y _ h => Dec.read_b7 Tryz.underlying38 (by kernel_rfl) (by kernel_rfl) Tryz.underlying2 Tryz.underlying2 Tryz.underlying3 Tryz.underlying3 Tryz.underlying3 Tryz.underlying2 Tryz.underlying36 (by kernel_rfl) (fun n cs y _ h => Dec.read_rec Tryz.underlying125 (by kernel_rfl) Tryz.underlying9 Tryz.underlying9 Tryz.underlying4 Tryz.underlying2 rfl rfl rfl rfl (by kernel_rfl) (by kernel_rfl) (by kernel_rfl) (by kernel_rfl) h) h) ht1
  obtain ⟨fu2, yy2, ht2⟩ := Dec.trod_of Tryz.underlying87 (hval 2 87 v2 rfl rfl) h2
  obtain ⟨a2, ss, rfl, hcap2, hlen2, hmx2, -, hrd2⟩ := Dec.trod_rows (C := 1) (encA := Dec.encBo) (good := fun _ => True) Tryz.underlying87 (by kernel_rfl) (by decide) (fun n cs y h1 h => Dec.read_bo Tryz.underlying4 h1 h) ht2
  obtain ⟨a3, rfl, rfl, rfl, w3⟩ := open_int Tryz.underlying3 (hval 3 3 v3 rfl rfl) h3
  obtain ⟨a4, ps, rfl, hcap4, hzs4, wz4, hrd4⟩ := Dec.open_islice (k := .i64) Tryz.underlying88 Tryz.underlying3 (by kernel_rfl) (hval 4 88 v4 rfl rfl) h4
  obtain ⟨a5, rfl, rfl, rfl, w5⟩ := open_int Tryz.underlying3 (hval 5 3 v5 rfl rfl) h5
  refine Calls.mono (Dec.crash6_law a0 a1 a2 bs ss a3 a4 ps a5 (by have := Dec.wf64 w3; omega) (by have := Dec.wf64 w5; omega) (Dec.foc_whole hrd1) (fun b hb => Dec.foc_whole (hbs b hb).1) (Dec.foc_whole hrd2) (Dec.foc_whole hrd4) hcap4 (Dec.Sat.whole W)) fun e W' ⟨vs, he, hv, hs⟩ => ?_
  subst hv
  subst he
  exact ⟨_, rfl, Dec.post_keep (pa := _) (pv := []) hW' hs (fun _ _ _ => (trodAll_cons_mk (shut_bool Tryz.underlying4 _) trodAll_mk0)) (fun sp hsp => Dec.trodAll_keep kept hs.of_whole.1 _ _ _ _ (by rw [Tryz.params9]; decide) hA1 fun x hx => hsp x (List.mem_append_left _ hx)) (fun _ _ => rfl) rfl
    (ok_one (by kernel_rfl) rfl (okWide_bool_mk Tryz.underlying4 _))⟩

theorem over : Rows.seglogCrashRow.holds Tryz.pinned (OpenSpec.ofChange Rows.seglogCrashSpec) :=
  OpenClaim.holds_of_wide 9 Tryz.f9 rfl rfl rfl rfl rfl rfl rfl ⟨rfl, rfl, rfl, rfl, rfl⟩ rfl rfl rfl rfl rfl (by kernel_rfl) Tryz.func9 (by kernel_rfl)
    (of_decide_eq_true (by kernel_rfl)) (by unfold Func.isWrapper; first | (rw [if_pos (by decide +kernel)]; kernel_rfl) | (rw [if_neg (by decide +kernel)]; exact ⟨rfl, rfl⟩))
    (fun os started H enc _ => lifted os started H enc)

theorem proved : Rows.SeglogCrashSaid :=
  over
end Go.Proofs.YtfnldnodhfkojaaGreat.seglogCrash
