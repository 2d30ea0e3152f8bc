/- LedgerApart: whatever the input, the law's function returns true and changes nothing. (The frame is the kit's skeleton, its arguments kept as they stand.) -/
import Derived.Test.YtgpcickgjngglaaGreatRows
import Derived.Test.YtgpcickgjngglaaGreatQLApart1
import Derived.Test.YtgpcickgjngglaaGreatQLApart2
import Derived.Test.YtgpcickgjngglaaGreatQLApart3
import Derived.Test.YtgpcickgjngglaaGreatQLApart4
import Derived.Test.YtgpcickgjngglaaGreatQLApart5
import Derived.Test.YtgpcickgjngglaaGreatQLApart6
import Derived.Test.YtgpcickgjngglaaGreatQLApart7
import Derived.Test.YtgpcickgjngglaaGreatQLApart8
import Derived.WalkKit
import Derived.ProofKit
import Derived.OpenShut
namespace Go.Proofs.YtgpcickgjngglaaGreat.ledgerApart
open Go.ChangeShapes Go.WideShapes Go.ChangeAt Go.RowKit Go.ChangeMaps
set_option linter.unusedVariables false

theorem own : ownKnob Tryz.prog.godebug = none := by kernel_rfl

theorem kept : Dec.zqa Tryz.prog [2, 3, 4, 9, 36, 52, 40, 22] = true := by kernel_rfl

set_option maxRecDepth 100000 in
theorem lifted (os : Os) (started : os.Started) (H : Type) (enc : TypeId × Value → H) :
    ReturnsInHanded {} Tryz.checked os 4 .any (Rows.ledgerApartSpec.pre6 enc Tryz.prog Tryz.f4 Rows.ledgerApartRow.domain false) (Rows.ledgerApartSpec.post enc Tryz.prog Tryz.f4 false true false false) := by
  refine returnsInHanded_of_change (C := Tryz.checked) own started (by kernel_rfl) Tryz.func4
    (ChangeSpec.witness6 (enc := enc) (C := Tryz.checked) false ⟨#[], #[.int .i64 0, .slice none 0 0, .slice none 0 0], []⟩ 8 (by kernel_rfl) (by kernel_rfl) (by kernel_rfl) (by kernel_rfl)) ?_
  intro W base args ds gs before hval0 hW hcnd _
  have hval : ∀ (j : Nat) t v, Tryz.f4.params[j]? = some t → args[j]? = some v → Value.okWide Tryz.prog W .any base t v := hval0
  have hW' := hW
  obtain ⟨p, q, hA0, hV, rfl, hfz, hnd⟩ := hW
  have hA : DataW.TrodAll enc Tryz.prog W 0 (fun _ => true) true Tryz.f4.params.toList args.toList ds p := hA0
  have hA1 := hA
  rw [Tryz.params4] at hA hval
  obtain ⟨v0, vs0, d0, ds0, p0, q0, hargs, rfl, rfl, h0, r0⟩ := trodAll_cons hA
  obtain ⟨v1, vs1, d1, ds1, p1, q1, rfl, rfl, rfl, h1, r1⟩ := trodAll_cons r0
  obtain ⟨v2, vs2, d2, ds2, p2, q2, rfl, rfl, rfl, h2, r2⟩ := trodAll_cons r1
  obtain ⟨rfl, rfl, rfl⟩ := trodAll_nil r2
  obtain rfl : args = #[v0, v1, v2] := by cases args; simp_all
  obtain ⟨rfl, rfl⟩ := trodVars_none hV
  obtain ⟨a0, rfl, rfl, rfl, w0⟩ := open_int Tryz.underlying3 (hval 0 3 v0 rfl rfl) h0
  obtain ⟨fu1, yy1, ht1⟩ := Dec.z0an Tryz.underlying22 (hval 1 22 v1 rfl rfl) h1
  obtain ⟨a1, os_, rfl, hcap1, hlen1, hmx1, hos, hrd1⟩ := Dec.zxu (C := 5) (encA := Dec.z3s) (good := fun o => Dec.Rd W 4 o.x (o.rs.flatMap Dec.zu)) Tryz.underlying22 (by kernel_rfl) (by decide) (fun n cs y _ h => Dec.z0aj Tryz.underlying40 (by kernel_rfl) (by kernel_rfl) Tryz.underlying3 Tryz.underlying9 Tryz.underlying9 Tryz.underlying2 Tryz.underlying36 (by kernel_rfl) (fun n cs y _ h => Dec.z0ak Tryz.underlying52 (by kernel_rfl) Tryz.underlying9 Tryz.underlying9 Tryz.underlying4 Tryz.underlying2 rfl rfl rfl rfl (by kernel_rfl) (by kernel_rfl) (by kernel_rfl) (by kernel_rfl) h) h) ht1
  obtain ⟨fu2, yy2, ht2⟩ := Dec.z0an Tryz.underlying22 (hval 2 22 v2 rfl rfl) h2
  obtain ⟨a2, os2_, rfl, hcap2, hlen2, hmx2, hos2, hrd2⟩ := Dec.zxu (C := 5) (encA := Dec.z3s) (good := fun o => Dec.Rd W 4 o.x (o.rs.flatMap Dec.zu)) Tryz.underlying22 (by kernel_rfl) (by decide) (fun n cs y _ h => Dec.z0aj Tryz.underlying40 (by kernel_rfl) (by kernel_rfl) Tryz.underlying3 Tryz.underlying9 Tryz.underlying9 Tryz.underlying2 Tryz.underlying36 (by kernel_rfl) (fun n cs y _ h => Dec.z0ak Tryz.underlying52 (by kernel_rfl) Tryz.underlying9 Tryz.underlying9 Tryz.underlying4 Tryz.underlying2 rfl rfl rfl rfl (by kernel_rfl) (by kernel_rfl) (by kernel_rfl) (by kernel_rfl) h) h) ht2
  refine Calls.mono (Dec.z09v a0 a1 os_ a2 os2_ (Dec.z0ac hrd1) (fun o ho => Dec.z0ac (hos o ho)) (Dec.z0ac hrd2) (fun o ho => Dec.z0ac (hos2 o ho)) (Dec.Sat.whole W)) fun e W' ⟨vs, he, hv, hs⟩ => ?_
  subst hv
  subst he
  exact ⟨_, rfl, Dec.z0ad (pa := _) (pv := []) hW' hs (fun _ _ _ => (trodAll_cons_mk (shut_bool Tryz.underlying4 _) trodAll_mk0)) (fun sp hsp => Dec.znb kept hs.of_whole.1 _ _ _ _ (by rw [Tryz.params4]; decide) hA1 fun x hx => hsp x (List.mem_append_left _ hx)) (fun _ _ => rfl) rfl
    (ok_one (by kernel_rfl) rfl (okWide_bool_mk Tryz.underlying4 _))⟩

set_option maxHeartbeats 4000000 in
theorem closed : joinedFacts Tryz.pinned.checked.prog 4 Tryz.f4 Rows.ledgerApartSpec Rows.ledgerApartRow = true := by
  unfold joinedFacts
  (repeat' with_reducible refine Bool.and_eq_true_iff.2 ⟨?_, ?_⟩)
  all_goals (as_aux_lemma => kernel_rfl)

set_option maxHeartbeats 4000000 in
theorem over : Rows.ledgerApartRow.holds Tryz.pinned (OpenSpec.ofChange Rows.ledgerApartSpec) :=
  OpenClaim.holds_of_wide 4 Tryz.f4 rfl rfl rfl rfl rfl rfl rfl ⟨rfl, rfl, rfl, rfl, rfl⟩ rfl rfl rfl rfl rfl (by as_aux_lemma => kernel_rfl) Tryz.func4 closed
    (of_decide_eq_true (by as_aux_lemma => kernel_rfl)) (by as_aux_lemma => unfold Func.isWrapper; first | (rw [if_pos (by decide +kernel)]; kernel_rfl) | (rw [if_neg (by decide +kernel)]; exact ⟨rfl, rfl⟩))
    (fun os started H enc _ => lifted os started H enc)

theorem proved : Rows.LedgerApartSaid :=
  over
end Go.Proofs.YtgpcickgjngglaaGreat.ledgerApart
