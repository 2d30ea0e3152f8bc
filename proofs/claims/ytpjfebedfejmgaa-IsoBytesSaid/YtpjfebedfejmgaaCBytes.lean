/- IsoBytes: whatever bytes and numbers, the law's function returns true and changes nothing. (The frame is the kit's skeleton, its arguments kept as they stand.) -/
import Derived.Test.YtpjfebedfejmgaaRows
import Derived.WalkKit
import Derived.ProofKit
import Derived.OpenShut
import Derived.Test.YtpjfebedfejmgaaOpenZ
import Derived.Test.YtpjfebedfejmgaaP2
import Derived.Test.YtpjfebedfejmgaaOb
namespace Go.Proofs.Ytpjfebedfejmgaa.isoBytes
open Go.ChangeShapes Go.WideShapes Go.ChangeAt Go.RowKit Go.ChangeMaps
set_option linter.unusedVariables false

theorem own : ownKnob Try.prog.godebug = none := by kernel_rfl

theorem kept : Dec.celledB Try.prog [57, 5, 3, 4] = true := by kernel_rfl

set_option maxRecDepth 100000 in
theorem lifted (os : Os) (started : os.Started) (H : Type) (enc : TypeId × Value → H) :
    ReturnsInHanded {} Try.checked os 8 .any (Rows.isoBytesSpec.pre6 enc Try.prog Try.f8 Rows.isoBytesRow.domain false) (Rows.isoBytesSpec.post enc Try.prog Try.f8 false true false false) := by
  refine returnsInHanded_of_change (C := Try.checked) own started (by kernel_rfl) Try.func8
    (ChangeSpec.witness6 (enc := enc) (C := Try.checked) false ⟨#[], #[.slice none 0 0, .int .i64 0, .int .u8 0, .slice none 0 0], []⟩ 8 (by kernel_rfl) (by kernel_rfl) (by kernel_rfl) (by kernel_rfl)) ?_
  intro W base args ds gs before hval0 hW hcnd _
  have hval : ∀ (j : Nat) t v, Try.f8.params[j]? = some t → args[j]? = some v → Value.okWide Try.prog W .any base t v := hval0
  have hW' := hW
  obtain ⟨p, q, hA0, hV, rfl, hfz, hnd⟩ := hW
  have hA : DataW.TrodAll enc Try.prog W 0 (fun _ => true) true Try.f8.params.toList args.toList ds p := hA0
  have hA1 := hA
  rw [Try.params8] at hA hval
  obtain ⟨v0, vs0, d0, ds0, p0, q0, hargs, rfl, rfl, h0, r0⟩ := trodAll_cons hA
  obtain ⟨v1, vs1, d1, ds1, p1, q1, rfl, rfl, rfl, h1, r1⟩ := trodAll_cons r0
  obtain ⟨v2, vs2, d2, ds2, p2, q2, rfl, rfl, rfl, h2, r2⟩ := trodAll_cons r1
  obtain ⟨v3, vs3, d3, ds3, p3, q3, rfl, rfl, rfl, h3, r3⟩ := trodAll_cons r2
  obtain ⟨rfl, rfl, rfl⟩ := trodAll_nil r3
  obtain rfl : args = #[v0, v1, v2, v3] := by cases args; simp_all
  obtain ⟨rfl, rfl⟩ := trodVars_none hV
  obtain ⟨a0, bs0, rfl, hcap0, hlen0, hrd0⟩ := Dec.open_bytes Try.underlying57 Try.underlying5 (by kernel_rfl) (hval 0 57 v0 rfl rfl) h0
  obtain ⟨a1, rfl, rfl, rfl, w1⟩ := open_int Try.underlying3 (hval 1 3 v1 rfl rfl) h1
  obtain ⟨a2, rfl, rfl, rfl, w2⟩ := open_int Try.underlying5 (hval 2 5 v2 rfl rfl) h2
  obtain ⟨a3, bs3, rfl, hcap3, hlen3, hrd3⟩ := Dec.open_bytes Try.underlying57 Try.underlying5 (by kernel_rfl) (hval 3 57 v3 rfl rfl) h3
  refine Calls.mono (@Dec.bytes8_law _ _ a0 a3 bs0 bs3 a1 a2 ⟨fun w h => Dec.rd_keep h.of_whole.1 hrd0⟩ ⟨fun w h => Dec.rd_keep h.of_whole.1 hrd3⟩ hcap0 hcap3 (Dec.wf64 w1) (Dec.wfu8 w2) (Dec.Sat.whole W)) fun e W' ⟨vs, he, hv, hs⟩ => ?_
  subst hv
  subst he
  exact ⟨_, rfl, Dec.post_keep (pa := _) (pv := []) hW' hs (fun _ _ _ => (trodAll_cons_mk (shut_bool Try.underlying4 _) trodAll_mk0)) (fun sp hsp => Dec.trodAll_keep kept hs.of_whole.1 _ _ _ _ (by rw [Try.params8]; decide) hA1 fun x hx => hsp x (List.mem_append_left _ hx)) (fun _ _ => rfl) rfl
    (ok_one (by kernel_rfl) rfl (okWide_bool_mk Try.underlying4 _))⟩

theorem over : Rows.isoBytesRow.holds Try.pinned (OpenSpec.ofChange Rows.isoBytesSpec) :=
  OpenClaim.holds_of_wide 8 Try.f8 rfl rfl rfl rfl rfl rfl rfl ⟨rfl, rfl, rfl, rfl, rfl⟩ rfl rfl rfl rfl rfl (by kernel_rfl) Try.func8 (by kernel_rfl)
    (of_decide_eq_true (by kernel_rfl)) (by unfold Func.isWrapper; first | (rw [if_pos (by decide +kernel)]; kernel_rfl) | (rw [if_neg (by decide +kernel)]; exact ⟨rfl, rfl⟩))
    (fun os started H enc _ => lifted os started H enc)

theorem proved : Rows.IsoBytesSaid :=
  over
end Go.Proofs.Ytpjfebedfejmgaa.isoBytes
