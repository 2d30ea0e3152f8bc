/- IsoApart: whatever calls, the law's function returns true and changes nothing. (The frame is the kit's skeleton, its arguments kept as they stand.) -/
import Derived.Test.YtpjfebedfejmgaaGreatRows
import Derived.WalkKit
import Derived.ProofKit
import Derived.OpenShut
import Derived.Test.YtpjfebedfejmgaaGreatOpenZ
import Derived.Test.YtpjfebedfejmgaaGreatX1
import Derived.Test.YtpjfebedfejmgaaGreatO2
namespace Go.Proofs.YtpjfebedfejmgaaGreat.isoApart
open Go.ChangeShapes Go.WideShapes Go.ChangeAt Go.RowKit Go.ChangeMaps
set_option linter.unusedVariables false

theorem own : ownKnob Tryz.prog.godebug = none := by kernel_rfl

theorem kept : Dec.celledB Tryz.prog [2, 3, 4, 9, 31, 71, 33, 35, 22] = true := by kernel_rfl

set_option maxRecDepth 100000 in
theorem lifted (os : Os) (started : os.Started) (H : Type) (enc : TypeId × Value → H) :
    ReturnsInHanded {} Tryz.checked os 3 .any (Rows.isoApartSpec.pre6 enc Tryz.prog Tryz.f3 Rows.isoApartRow.domain false) (Rows.isoApartSpec.post enc Tryz.prog Tryz.f3 false true false false) := by
  refine returnsInHanded_of_change (C := Tryz.checked) own started (by kernel_rfl) Tryz.func3
    (ChangeSpec.witness6 (enc := enc) (C := Tryz.checked) false ⟨#[], #[.slice none 0 0, .slice none 0 0, .slice none 0 0], []⟩ 8 (by kernel_rfl) (by kernel_rfl) (by kernel_rfl) (by kernel_rfl)) ?_
  intro W base args ds gs before hval0 hW hcnd _
  have hval : ∀ (j : Nat) t v, Tryz.f3.params[j]? = some t → args[j]? = some v → Value.okWide Tryz.prog W .any base t v := hval0
  have hW' := hW
  obtain ⟨p, q, hA0, hV, rfl, hfz, hnd⟩ := hW
  have hA : DataW.TrodAll enc Tryz.prog W 0 (fun _ => true) true Tryz.f3.params.toList args.toList ds p := hA0
  have hA1 := hA
  rw [Tryz.params3] at hA hval
  obtain ⟨v0, vs0, d0, ds0, p0, q0, hargs, rfl, rfl, h0, r0⟩ := trodAll_cons hA
  obtain ⟨v1, vs1, d1, ds1, p1, q1, rfl, rfl, rfl, h1, r1⟩ := trodAll_cons r0
  obtain ⟨v2, vs2, d2, ds2, p2, q2, rfl, rfl, rfl, h2, r2⟩ := trodAll_cons r1
  obtain ⟨rfl, rfl, rfl⟩ := trodAll_nil r2
  obtain rfl : args = #[v0, v1, v2] := by cases args; simp_all
  obtain ⟨rfl, rfl⟩ := trodVars_none hV
  obtain ⟨fu0, yy0, ht0⟩ := Dec.trod_of Tryz.underlying22 (hval 0 22 v0 rfl rfl) h0
  obtain ⟨a0, ops, rfl, hcap0, hlen0, hmx0, hops, hrd0⟩ := Dec.trod_rows (C := 10) (encA := Dec.encO) (good := fun o => Dec.Rd W 4 o.b.x (o.b.rs.flatMap Dec.encR)) Tryz.underlying22 (by kernel_rfl) (by decide) (fun n cs y _ h => Dec.read_op Tryz.underlying35 (by kernel_rfl) Tryz.underlying3 Tryz.underlying33 Tryz.underlying4 Tryz.underlying2 rfl rfl rfl rfl (by kernel_rfl) (by kernel_rfl) (by kernel_rfl) (by kernel_rfl) (by kernel_rfl) Tryz.underlying2 Tryz.underlying2 Tryz.underlying3 Tryz.underlying3 Tryz.underlying3 Tryz.underlying2 Tryz.underlying31 (by kernel_rfl) (fun n cs y _ h => Dec.read_rec Tryz.underlying71 (by kernel_rfl) Tryz.underlying9 Tryz.underlying9 Tryz.underlying4 Tryz.underlying2 rfl rfl rfl rfl (by kernel_rfl) (by kernel_rfl) (by kernel_rfl) (by kernel_rfl) h) h) ht0
  obtain ⟨fu1, yy1, ht1⟩ := Dec.trod_of Tryz.underlying22 (hval 1 22 v1 rfl rfl) h1
  obtain ⟨a1, on, rfl, hcap1, hlen1, hmx1, hon, hrd1⟩ := Dec.trod_rows (C := 10) (encA := Dec.encO) (good := fun o => Dec.Rd W 4 o.b.x (o.b.rs.flatMap Dec.encR)) Tryz.underlying22 (by kernel_rfl) (by decide) (fun n cs y _ h => Dec.read_op Tryz.underlying35 (by kernel_rfl) Tryz.underlying3 Tryz.underlying33 Tryz.underlying4 Tryz.underlying2 rfl rfl rfl rfl (by kernel_rfl) (by kernel_rfl) (by kernel_rfl) (by kernel_rfl) (by kernel_rfl) Tryz.underlying2 Tryz.underlying2 Tryz.underlying3 Tryz.underlying3 Tryz.underlying3 Tryz.underlying2 Tryz.underlying31 (by kernel_rfl) (fun n cs y _ h => Dec.read_rec Tryz.underlying71 (by kernel_rfl) Tryz.underlying9 Tryz.underlying9 Tryz.underlying4 Tryz.underlying2 rfl rfl rfl rfl (by kernel_rfl) (by kernel_rfl) (by kernel_rfl) (by kernel_rfl) h) h) ht1
  obtain ⟨fu2, yy2, ht2⟩ := Dec.trod_of Tryz.underlying22 (hval 2 22 v2 rfl rfl) h2
  obtain ⟨a2, off, rfl, hcap2, hlen2, hmx2, hoff, hrd2⟩ := Dec.trod_rows (C := 10) (encA := Dec.encO) (good := fun o => Dec.Rd W 4 o.b.x (o.b.rs.flatMap Dec.encR)) Tryz.underlying22 (by kernel_rfl) (by decide) (fun n cs y _ h => Dec.read_op Tryz.underlying35 (by kernel_rfl) Tryz.underlying3 Tryz.underlying33 Tryz.underlying4 Tryz.underlying2 rfl rfl rfl rfl (by kernel_rfl) (by kernel_rfl) (by kernel_rfl) (by kernel_rfl) (by kernel_rfl) Tryz.underlying2 Tryz.underlying2 Tryz.underlying3 Tryz.underlying3 Tryz.underlying3 Tryz.underlying2 Tryz.underlying31 (by kernel_rfl) (fun n cs y _ h => Dec.read_rec Tryz.underlying71 (by kernel_rfl) Tryz.underlying9 Tryz.underlying9 Tryz.underlying4 Tryz.underlying2 rfl rfl rfl rfl (by kernel_rfl) (by kernel_rfl) (by kernel_rfl) (by kernel_rfl) h) h) ht2
  refine Calls.mono (@Dec.apart8_law _ _ a0 a1 a2 ops on off ⟨fun w h => Dec.rd_keep h.of_whole.1 hrd0⟩ ⟨fun w h => Dec.rd_keep h.of_whole.1 hrd1⟩ ⟨fun w h => Dec.rd_keep h.of_whole.1 hrd2⟩ (Dec.len_max8 hcap0 hlen0 hmx0) (Dec.len_max8 hcap1 hlen1 hmx1) (Dec.len_max8 hcap2 hlen2 hmx2) (fun o ho => Dec.opJ_whole (hops o ho)) (fun o ho => Dec.opJ_whole (hon o ho)) (fun o ho => Dec.opJ_whole (hoff o ho)) (Dec.Sat.whole W)) fun e W' ⟨vs, he, hv, hs⟩ => ?_
  subst hv
  subst he
  exact ⟨_, rfl, Dec.post_keep (pa := _) (pv := []) hW' hs (fun _ _ _ => (trodAll_cons_mk (shut_bool Tryz.underlying4 _) trodAll_mk0)) (fun sp hsp => Dec.trodAll_keep kept hs.of_whole.1 _ _ _ _ (by rw [Tryz.params3]; decide) hA1 fun x hx => hsp x (List.mem_append_left _ hx)) (fun _ _ => rfl) rfl
    (ok_one (by kernel_rfl) rfl (okWide_bool_mk Tryz.underlying4 _))⟩

theorem over : Rows.isoApartRow.holds Tryz.pinned (OpenSpec.ofChange Rows.isoApartSpec) :=
  OpenClaim.holds_of_wide 3 Tryz.f3 rfl rfl rfl rfl rfl rfl rfl ⟨rfl, rfl, rfl, rfl, rfl⟩ rfl rfl rfl rfl rfl (by kernel_rfl) Tryz.func3 (by kernel_rfl)
    (of_decide_eq_true (by kernel_rfl)) (by unfold Func.isWrapper; first | (rw [if_pos (by decide +kernel)]; kernel_rfl) | (rw [if_neg (by decide +kernel)]; exact ⟨rfl, rfl⟩))
    (fun os started H enc _ => lifted os started H enc)

theorem proved : Rows.IsoApartSaid :=
  over
end Go.Proofs.YtpjfebedfejmgaaGreat.isoApart
