/- What the rows' frames ask of a world behind a walk. -/
import Derived.RowKit3
import Derived.Test.YtpjfebedfejmgaaOpsG
namespace Go.Dec
set_option linter.unusedVariables false

theorem kept_of {W w' : World} {l : List HP} (hs : Sat w' (whole W :: l)) (may : MemPlace → Prop) : W.keptBut w' may := by
  obtain ⟨h, ho, hu, hz⟩ := hs.of_whole
  refine ⟨ho, hu, fun i hi => ?_⟩
  have hg : W.heap[i]? = some W.heap[i] := by simp [hi]
  have hg' := h i _ hg
  rw [hg, hg']
  cases W.heap[i] with
  | cells c t fr => exact ⟨rfl, rfl, rfl, fun _ _ => rfl⟩
  | map es c => exact .inr ⟨rfl, rfl⟩
  | _ => rfl

section
open Go.ChangeShapes
variable {H : Type} {enc : TypeId × Value → H} {P : Program}
/-- What a row's frame asks where nothing old was changed: a result told, the arguments as they were. -/
theorem post_keep {f : Func} {s : ChangeSpec} {apart fresh handsOn again : Bool} {W W' : World} {args : Array Value} {v : Value} {ds gs : List (DataW H)} {before pa pv : List MemPlace} {l : List HP}
    (hW : DataW.Whole enc P f.params.toList s.vars apart W args.toList ds gs before) (hs : Sat W' (whole W :: l))
    (hres : ∀ (b : Nat) (sp : Nat → Bool) (hd : Bool), DataW.TrodAll enc P W' b sp hd f.resultTypes.toList (v.resultList f.resultTypes.size) (s.fn H (ds ++ gs)).results [])
    (hargs : ∀ sp : Nat → Bool, (∀ p ∈ before, sp p.block = true) → DataW.TrodAll enc P W' 0 sp true f.params.toList args.toList (s.fn H (ds ++ gs)).args pa)
    (hvars : ∀ sp : Nat → Bool, (∀ p ∈ before, sp p.block = true) → DataW.TrodVars enc P W' sp s.vars (s.fn H (ds ++ gs)).vars pv)
    (hps : before = pa ++ pv)
    (hok : ∀ (j : Nat) (t : TypeId) (r : Value), f.resultTypes[j]? = some t → (v.resultList f.resultTypes.size)[j]? = some r → Value.okWide P W' .any 0 t r) :
    s.post enc P f apart fresh handsOn again W args v W' := by
  have hlt := hW.lt
  have hz := hs.of_whole.2.2.2
  have hkeep := kept_of hs
  refine ⟨ds, gs, before, [], pa, pv, hW, hres _ _ _, hargs _ fun p hp => decide_eq_true (hlt p hp), hvars _ fun p hp => decide_eq_true (hlt p hp), World.keptBut_mono (fun p hp => ⟨hp, .inr (by rw [hps] at hp; exact List.mem_append.1 hp)⟩) (hkeep (· ∈ before)), fun _ => ?_⟩
  obtain ⟨_, _, _, _, _, hfz, hnd⟩ := hW
  refine ⟨hok, _, _, ([] ++ pa) ++ pv, ⟨[] ++ pa, pv, trodAll_append (hargs _ fun _ _ => rfl) (hres _ _ _), hvars _ fun _ _ => rfl, rfl, fun b off hp => ?_, fun ha => ?_⟩, fun p hp _ => ?_⟩
  · have hmem : MemPlace.cell b off ∈ before := by rw [hps]; simpa using hp
    rw [hz _ (hlt _ hmem)]
    exact hfz b off hmem
  · have := hnd ha
    rw [hps] at this
    simpa using this
  · rw [hps]; simpa using hp
end

theorem wf64 {n : Int} (h : (Lit.int .i64 n).wf = true) : -9223372036854775808 ≤ n ∧ n < 9223372036854775808 := by
  have h : IntKind.min .i64 ≤ n ∧ n ≤ IntKind.max .i64 := by simpa only [Lit.wf, Bool.and_eq_true, decide_eq_true_eq] using h
  have h1 : IntKind.min .i64 = -9223372036854775808 := by decide
  have h2 : IntKind.max .i64 = 9223372036854775807 := by decide
  omega

end Go.Dec
