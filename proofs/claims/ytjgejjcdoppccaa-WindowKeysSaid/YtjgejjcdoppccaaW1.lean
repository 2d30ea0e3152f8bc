/- Windows: the small functions. -/
import Derived.Test.YtjgejjcdoppccaaTypes
import Derived.Test.YtjgejjcdoppccaaFns0
namespace Go.Dec
set_option linter.unusedVariables false
set_option linter.unusedSimpArgs false

def isT (t : Int) : Bool := decide (t ≥ 0) && decide (t ≤ 1099511627776)
def isSz (t : Int) : Bool := decide (t ≥ 1) && decide (t ≤ 1099511627776)

section
variable {w : World} {l : List HP}

theorem isTime_c (t : Int) (hs : Sat w l) : Ret P F.window_isTime #[.int .i64 t] w fun vs w' => vs = [.bool (isT t)] ∧ Sat w' l :=
  window_isTime_calls t ⟨rfl, rfl, hs⟩

theorem sized_c (t : Int) (hs : Sat w l) : Ret P F.window_sized #[.int .i64 t] w fun vs w' => vs = [.bool (isSz t)] ∧ Sat w' l :=
  window_sized_calls t ⟨rfl, rfl, hs⟩

theorem rtime_c (t : Int) (hs : Sat w l) : Ret P F.towpathref21_time #[.int .i64 t] w fun vs w' => vs = [.bool (isT t)] ∧ Sat w' l :=
  towpathref21_time_calls t ⟨rfl, rfl, hs⟩

def hasF (s0 s1 t : Int) : Bool := decide (t ≥ s0) && decide (t < s1)
def meetsF (s0 s1 t0 t1 : Int) : Bool := decide ((if t0 > s0 then t0 else s0) < if t1 < s1 then t1 else s1)

theorem has_c (s0 s1 t : Int) (hs : Sat w l) : Ret P F.window_Span_Has #[.agg #[.int .i64 s0, .int .i64 s1], .int .i64 t] w fun vs w' => vs = [.bool (hasF s0 s1 t)] ∧ Sat w' l :=
  window_Span_Has_calls s0 s1 t <| by
    unfold window_Span_Has
    refine wp_box hs fun b w' hs => ?_
    refine wp_ld hs rfl ?_
    refine wp_ld hs rfl ?_
    exact ⟨rfl, rfl, hs.tail⟩

theorem meets_c (s0 s1 t0 t1 : Int) (hs : Sat w l) : Ret P F.window_Span_Meets #[.agg #[.int .i64 s0, .int .i64 s1], .agg #[.int .i64 t0, .int .i64 t1]] w fun vs w' => vs = [.bool (meetsF s0 s1 t0 t1)] ∧ Sat w' l :=
  window_Span_Meets_calls s0 s1 t0 t1 <| by
    unfold window_Span_Meets
    refine wp_box hs fun b w' hs => ?_
    refine wp_box hs fun c w' hs => ?_
    refine wp_ld hs rfl ?_
    refine wp_ld hs rfl ?_
    refine wp_ld hs rfl ?_
    refine wp_ld hs rfl ?_
    exact ⟨rfl, rfl, hs.tail.tail⟩

end
end Go.Dec
