/- SeglogReads: whatever the input, the law's function returns true and changes nothing. (The frame is the kit's skeleton, its arguments kept as they stand.) -/
import Derived.Test.YtfnldnodhfkojaaGreatRows
import Derived.Test.YtfnldnodhfkojaaGreatQReads1
import Derived.Test.YtfnldnodhfkojaaGreatQReads2
import Derived.Test.YtfnldnodhfkojaaGreatQReads3
import Derived.Test.YtfnldnodhfkojaaGreatQReads4
import Derived.Test.YtfnldnodhfkojaaGreatQReads5
import Derived.Test.YtfnldnodhfkojaaGreatQReads6
import Derived.Test.YtfnldnodhfkojaaGreatQReads7
import Derived.WalkKit
import Derived.ProofKit
import Derived.OpenShut
namespace Go.Proofs.YtfnldnodhfkojaaGreat.seglogReads
open Go.ChangeShapes Go.WideShapes Go.ChangeAt Go.RowKit Go.ChangeMaps
set_option linter.unusedVariables false

theorem own : ownKnob Tryz.prog.godebug = none := by kernel_rfl

theorem kept : Dec.celledB Tryz.prog [2, 3, 4, 9, 36, 125, 38, 22] = true := by kernel_rfl

set_option maxRecDepth 100000 in
theorem lifted (os : Os) (started : os.Started) (H : Type) (enc : TypeId × Value → H) :
    ReturnsInHanded {} Tryz.checked os 4 .any (Rows.seglogReadsSpec.pre6 enc Tryz.prog Tryz.f4 Rows.seglogReadsRow.domain false) (Rows.seglogReadsSpec.post enc Tryz.prog Tryz.f4 false true false false) := by
  refine returnsInHanded_of_change (C := Tryz.checked) own started (by kernel_rfl) Tryz.func4
    (ChangeSpec.witness6 (enc := enc) (C := Tryz.checked) false ⟨#[], #[.int .i64 0, .int .i64 0, .slice none 0 0, .int .i64 0, .int .i64 0], []⟩ 8 (by kernel_rfl) (by kernel_rfl) (by kernel_rfl) (by kernel_rfl)) ?_
  intro W base args ds gs before hval0 hW hcnd _
  have hval : ∀ (j : Nat) t v, Tryz.f4.params[j]? = some t → args[j]? = some v → Value.okWide Tryz.prog W .any base t v := hval0
  have hW' := hW
  obtain ⟨p, q, hA0, hV, rfl, hfz, hnd⟩ := hW
  have hA : DataW.TrodAll enc Tryz.prog W 0 (fun _ => true) true Tryz.f4.params.toList args.toList ds p := hA0
  have hA1 := hA
  rw [Tryz.params4] at hA hval
  obtain ⟨v0, vs0, d0, ds0, p0, q0, hargs, rfl, rfl, h0, r0⟩ := trodAll_cons hA
  obtain ⟨v1, vs1, d1, ds1, p1, q1, rfl, rfl, rfl, h1, r1⟩ := trodAll_cons r0
  obtain ⟨v2, vs2, d2, ds2, p2, q2, rfl, rfl, rfl, h2, r2⟩ := trodAll_cons r1
  obtain ⟨v3, vs3, d3, ds3, p3, q3, rfl, rfl, rfl, h3, r3⟩ := trodAll_cons r2
  obtain ⟨v4, vs4, d4, ds4, p4, q4, rfl, rfl, rfl, h4, r4⟩ := trodAll_cons r3
  obtain ⟨rfl, rfl, rfl⟩ := trodAll_nil r4
  obtain rfl : args = #[v0, v1, v2, v3, v4] := by cases args; simp_all
  obtain ⟨rfl, rfl⟩ := trodVars_none hV
  obtain ⟨a0, rfl, rfl, rfl, w0⟩ := open_int Tryz.underlying3 (hval 0 3 v0 rfl rfl) h0
  obtain ⟨a1, rfl, rfl, rfl, w1⟩ := open_int Tryz.underlying3 (hval 1 3 v1 rfl rfl) h1
  obtain ⟨fu2, yy2, ht2⟩ := Dec.trod_of Tryz.underlying22 (hval 2 22 v2 rfl rfl) h2
  obtain ⟨a2, bs, rfl, hcap2, hlen2, hmx2, hbs, hrd2⟩ := Dec.trod_rows (C := 7) (encA := Dec.encB7) (good := fun b => Dec.Rd W 4 b.x (b.rs.flatMap Dec.encR) ∧ (-9223372036854775808 ≤ b.base ∧ b.base < 9223372036854775808)) Tryz.underlying22 (by kernel_rfl) (by decide) (fun n cs y _ h => Dec.read_b7 Tryz.underlying38 (by kernel_rfl) (by kernel_rfl) Tryz.underlying2 Tryz.underlying2 Tryz.underlying3 Tryz.underlying3 Tryz.underlying3 Tryz.underlying2 Tryz.underlying36 (by kernel_rfl) (fun n cs y _ h => Dec.read_rec Tryz.underlying125 (by kernel_rfl) Tryz.underlying9 Tryz.underlying9 Tryz.underlying4 Tryz.underlying2 rfl rfl rfl rfl (by kernel_rfl) (by kernel_rfl) (by kernel_rfl) (by kernel_rfl) h) h) ht2
  obtain ⟨a3, rfl, rfl, rfl, w3⟩ := open_int Tryz.underlying2 (hval 3 2 v3 rfl rfl) h3
  obtain ⟨a4, rfl, rfl, rfl, w4⟩ := open_int Tryz.underlying3 (hval 4 3 v4 rfl rfl) h4
  refine Calls.mono (Dec.reads6_law a0 a1 a2 bs a3 a4 (Dec.foc_whole hrd2) (fun b hb => Dec.foc_whole (hbs b hb).1) (Dec.Sat.whole W)) fun e W' ⟨vs, he, hv, hs⟩ => ?_
  subst hv
  subst he
  exact ⟨_, rfl, Dec.post_keep (pa := _) (pv := []) hW' hs (fun _ _ _ => (trodAll_cons_mk (shut_bool Tryz.underlying4 _) trodAll_mk0)) (fun sp hsp => Dec.trodAll_keep kept hs.of_whole.1 _ _ _ _ (by rw [Tryz.params4]; decide) hA1 fun x hx => hsp x (List.mem_append_left _ hx)) (fun _ _ => rfl) rfl
    (ok_one (by kernel_rfl) rfl (okWide_bool_mk Tryz.underlying4 _))⟩

theorem over : Rows.seglogReadsRow.holds Tryz.pinned (OpenSpec.ofChange Rows.seglogReadsSpec) :=
  OpenClaim.holds_of_wide 4 Tryz.f4 rfl rfl rfl rfl rfl rfl rfl ⟨rfl, rfl, rfl, rfl, rfl⟩ rfl rfl rfl rfl rfl (by kernel_rfl) Tryz.func4 (by kernel_rfl)
    (of_decide_eq_true (by kernel_rfl)) (by unfold Func.isWrapper; first | (rw [if_pos (by decide +kernel)]; kernel_rfl) | (rw [if_neg (by decide +kernel)]; exact ⟨rfl, rfl⟩))
    (fun os started H enc _ => lifted os started H enc)

theorem proved : Rows.SeglogReadsSaid :=
  over
end Go.Proofs.YtfnldnodhfkojaaGreat.seglogReads
