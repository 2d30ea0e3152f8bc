/- Sorting by a closure: what all such sorts share. -/
import Derived.Test.YtcpmaccapgpgaaaGreatSortX
import Derived.Test.YtcpmaccapgpgaaaGreatOpsZ
namespace Go.Dec
set_option linter.unusedVariables false
set_option linter.unusedSimpArgs false

def cmpI (x y : Int) : Int := if x < y then -1 else if x > y then 1 else 0

section
variable {w : World} {l : List HP} {Q : Post} {S : World → Prop}

theorem wp_callv {f : FuncId} {args : List Value} {s : Sh} {k : HL s.prims → Prog} {vs₀ : List Value} {R : World → Prop} (hok : (P.funcs[f]?).any (fun fn => fn.body.isSome && fn.name != "runtime.NumGoroutine") = true) (x : HL s.prims)
    (hc : Ret P f args.toArray w fun vs w' => vs = vs₀ ∧ R w') (hx : pack vs₀ = s.mk x) (h : ∀ w', R w' → S w' ∧ (k x).wp P S w' Q) : (Prog.callv (.func (.func f) #[] #[]) args s k).wp P S w Q := by
  refine ⟨f, #[], #[], rfl, hok, ?_⟩
  have e : (#[] : Array Value) ++ args.toArray ++ #[] = args.toArray := by simp
  rw [e]
  refine Calls.mono hc fun e w' ⟨vs, he, hv, hR⟩ => ?_
  exact ⟨x, by rw [he, hv, hx], h w' hR⟩

theorem isNaN_c (x : Int) (hs : Sat w l) : Ret P F.cmp_isNaN_int64 #[.int .i64 x] w fun vs w' => vs = [.bool false] ∧ Sat w' l :=
  cmp_isNaN_int64_calls x <| by
    unfold cmp_isNaN_int64
    refine wp_lt ?_
    exact ⟨rfl, by simp, hs⟩

theorem compare_c (x y : Int) (hs : Sat w l) : Ret P F.cmp_Compare_int64 #[.int .i64 x, .int .i64 y] w fun vs w' => vs = [.int .i64 (cmpI x y)] ∧ Sat w' l :=
  cmp_Compare_int64_calls x y <| by
    unfold cmp_Compare_int64
    refine wp_call (isNaN_c x hs) fun _ _ hs => ?_
    obtain ⟨rfl, hs⟩ := hs
    refine ret_of ?_
    refine wp_lt ?_
    refine wp_call (isNaN_c y hs) fun _ _ hs => ?_
    obtain ⟨rfl, hs⟩ := hs
    refine ret_of ?_
    refine wp_lt ?_
    refine wp_ifF ?_ (by simp)
    refine wp_ifF ?_ (by simp)
    unfold cmpI
    refine wp_if (fun h => ?_) fun h => ?_
    · rw [if_pos h]; exact ⟨rfl, rfl, hs⟩
    rw [if_neg h]
    refine wp_if (fun h2 => ?_) fun h2 => ?_
    · rw [if_pos h2]; exact ⟨rfl, rfl, hs⟩
    · rw [if_neg h2]; exact ⟨rfl, rfl, hs⟩


end
abbrev fnV (g : FuncId) : Value := .func (.func g) #[] #[]
end Go.Dec
