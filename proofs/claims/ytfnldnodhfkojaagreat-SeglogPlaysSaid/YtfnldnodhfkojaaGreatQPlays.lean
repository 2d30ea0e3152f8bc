/- SeglogPlays: whatever the input, the law's function returns true and changes nothing. (The frame is the kit's skeleton, its arguments kept as they stand.) -/
import Derived.Test.YtfnldnodhfkojaaGreatRows
import Derived.Test.YtfnldnodhfkojaaGreatQPlays1
import Derived.Test.YtfnldnodhfkojaaGreatQPlays2
import Derived.Test.YtfnldnodhfkojaaGreatQPlays3
import Derived.Test.YtfnldnodhfkojaaGreatQPlays4
import Derived.Test.YtfnldnodhfkojaaGreatQPlays5
import Derived.Test.YtfnldnodhfkojaaGreatQPlays6
import Derived.Test.YtfnldnodhfkojaaGreatQPlays7
import Derived.WalkKit
import Derived.ProofKit
import Derived.OpenShut
namespace Go.Proofs.YtfnldnodhfkojaaGreat.seglogPlays
open Go.ChangeShapes Go.WideShapes Go.ChangeAt Go.RowKit Go.ChangeMaps
set_option linter.unusedVariables false

theorem own : ownKnob Tryz.prog.godebug = none := by kernel_rfl

theorem kept : Dec.zny Tryz.prog [2, 3, 4, 9, 36, 125, 38, 22, 87, 99, 97] = true := by kernel_rfl

set_option maxRecDepth 100000 in
theorem lifted (os : Os) (started : os.Started) (H : Type) (enc : TypeId × Value → H) :
    ReturnsInHanded {} Tryz.checked os 11 .any (Rows.seglogPlaysSpec.pre6 enc Tryz.prog Tryz.f11 Rows.seglogPlaysRow.domain false) (Rows.seglogPlaysSpec.post enc Tryz.prog Tryz.f11 false true false false) := by
  refine returnsInHanded_of_change (C := Tryz.checked) own started (by kernel_rfl) Tryz.func11
    (ChangeSpec.witness6 (enc := enc) (C := Tryz.checked) false ⟨#[], #[.int .i64 0, .int .i64 0, .slice none 0 0], []⟩ 8 (by kernel_rfl) (by kernel_rfl) (by kernel_rfl) (by kernel_rfl)) ?_
  intro W base args ds gs before hval0 hW hcnd _
  have hval : ∀ (j : Nat) t v, Tryz.f11.params[j]? = some t → args[j]? = some v → Value.okWide Tryz.prog W .any base t v := hval0
  have hW' := hW
  obtain ⟨p, q, hA0, hV, rfl, hfz, hnd⟩ := hW
  have hA : DataW.TrodAll enc Tryz.prog W 0 (fun _ => true) true Tryz.f11.params.toList args.toList ds p := hA0
  have hA1 := hA
  rw [Tryz.params11] at hA hval
  obtain ⟨v0, vs0, d0, ds0, p0, q0, hargs, rfl, rfl, h0, r0⟩ := trodAll_cons hA
  obtain ⟨v1, vs1, d1, ds1, p1, q1, rfl, rfl, rfl, h1, r1⟩ := trodAll_cons r0
  obtain ⟨v2, vs2, d2, ds2, p2, q2, rfl, rfl, rfl, h2, r2⟩ := trodAll_cons r1
  obtain ⟨rfl, rfl, rfl⟩ := trodAll_nil r2
  obtain rfl : args = #[v0, v1, v2] := by cases args; simp_all
  obtain ⟨rfl, rfl⟩ := trodVars_none hV
  obtain ⟨a0, rfl, rfl, rfl, w0⟩ := open_int Tryz.underlying3 (hval 0 3 v0 rfl rfl) h0
  obtain ⟨a1, rfl, rfl, rfl, w1⟩ := open_int Tryz.underlying3 (hval 1 3 v1 rfl rfl) h1
  obtain ⟨fu2, yy2, ht2⟩ := Dec.z04k Tryz.underlying97 (hval 2 97 v2 rfl rfl) h2
  obtain ⟨a2, os6, rfl, hcap2, hlen2, hmx2, hos, hrd2⟩ := Dec.zbv (C := 5) (encA := Dec.zav) (good := fun o => Dec.GoodO6 W o) Tryz.underlying97 (by kernel_rfl) (by decide) (fun n cs y _ h => Dec.z048 Tryz.underlying99 (by kernel_rfl) (by kernel_rfl) Tryz.underlying3 Tryz.underlying22 Tryz.underlying2 Tryz.underlying3 Tryz.underlying87 (by kernel_rfl) (by kernel_rfl) (fun n cs y _ h => Dec.z04j Tryz.underlying38 (by kernel_rfl) (by kernel_rfl) Tryz.underlying2 Tryz.underlying2 Tryz.underlying3 Tryz.underlying3 Tryz.underlying3 Tryz.underlying2 Tryz.underlying36 (by kernel_rfl) (fun n cs y _ h => Dec.z04b Tryz.underlying125 (by kernel_rfl) Tryz.underlying9 Tryz.underlying9 Tryz.underlying4 Tryz.underlying2 rfl rfl rfl rfl (by kernel_rfl) (by kernel_rfl) (by kernel_rfl) (by kernel_rfl) h) h) (fun n cs y h1 h => Dec.z04i Tryz.underlying4 h1 h) h) ht2
  refine Calls.mono (Dec.z03v a0 a1 a2 os6 (Dec.zcy hrd2) (fun o ho => Dec.z04l (hos o ho)) (Dec.Sat.whole W)) fun e W' ⟨vs, he, hv, hs⟩ => ?_
  subst hv
  subst he
  exact ⟨_, rfl, Dec.z045 (pa := _) (pv := []) hW' hs (fun _ _ _ => (trodAll_cons_mk (shut_bool Tryz.underlying4 _) trodAll_mk0)) (fun sp hsp => Dec.zjm kept hs.of_whole.1 _ _ _ _ (by rw [Tryz.params11]; decide) hA1 fun x hx => hsp x (List.mem_append_left _ hx)) (fun _ _ => rfl) rfl
    (ok_one (by kernel_rfl) rfl (okWide_bool_mk Tryz.underlying4 _))⟩

theorem over : Rows.seglogPlaysRow.holds Tryz.pinned (OpenSpec.ofChange Rows.seglogPlaysSpec) :=
  OpenClaim.holds_of_wide 11 Tryz.f11 rfl rfl rfl rfl rfl rfl rfl ⟨rfl, rfl, rfl, rfl, rfl⟩ rfl rfl rfl rfl rfl (by kernel_rfl) Tryz.func11 (by kernel_rfl)
    (of_decide_eq_true (by kernel_rfl)) (by unfold Func.isWrapper; first | (rw [if_pos (by decide +kernel)]; kernel_rfl) | (rw [if_neg (by decide +kernel)]; exact ⟨rfl, rfl⟩))
    (fun os started H enc _ => lifted os started H enc)

theorem proved : Rows.SeglogPlaysSaid :=
  over
end Go.Proofs.YtfnldnodhfkojaaGreat.seglogPlays
