/- Sorting of []int64. -/
import Derived.Test.YtcpmaccapgpgaaaGreatSortX
namespace Go.Dec
set_option linter.unusedVariables false
set_option linter.unusedSimpArgs false

def sortI64 : SortI where
  T := T.int64
  s := .one (.int .i64)
  sz := 1
  less := fun x y k => .call F.cmp_Less_int64 [.int .i64 x.1, .int .i64 y.1] sB (u1 k)
  ex := []
  xs := T.slices_xorshift
  ti := T.int
  fNext := F.slices_xorshift_Next
  fPow := F.slices_nextPowerOfTwo
  f_sift := F.slices_siftDownOrdered_int64
  f_heap := F.slices_heapSortOrdered_int64
  f_ins := F.slices_insertionSortOrdered_int64
  f_brk := F.slices_breakPatternsOrdered_int64
  f_rev := F.slices_reverseRangeOrdered_int64
  f_pins := F.slices_partialInsertionSortOrdered_int64
  f_peq := F.slices_partitionEqualOrdered_int64
  f_part := F.slices_partitionOrdered_int64
  f_ord2 := F.slices_order2Ordered_int64
  f_med := F.slices_medianOrdered_int64
  f_medj := F.slices_medianAdjacentOrdered_int64
  f_piv := F.slices_choosePivotOrdered_int64
  f_pdq := F.slices_pdqsortOrdered_int64

theorem sortI64_impl : sortI64.Impl P where
  sift h := slices_siftDownOrdered_int64_calls _ _ _ _ h
  heap h := slices_heapSortOrdered_int64_calls _ _ _ h
  ins h := slices_insertionSortOrdered_int64_calls _ _ _ h
  brk h := slices_breakPatternsOrdered_int64_calls _ _ _ h
  rev h := slices_reverseRangeOrdered_int64_calls _ _ _ h
  pins h := slices_partialInsertionSortOrdered_int64_calls _ _ _ h
  peq h := slices_partitionEqualOrdered_int64_calls _ _ _ _ h
  part h := slices_partitionOrdered_int64_calls _ _ _ _ h
  ord2 h := slices_order2Ordered_int64_calls _ _ _ _ h
  med h := slices_medianOrdered_int64_calls _ _ _ _ _ h
  medj h := slices_medianAdjacentOrdered_int64_calls _ _ _ h
  piv h := slices_choosePivotOrdered_int64_calls _ _ _ h
  pdq h := slices_pdqsortOrdered_int64_calls _ _ _ _ h

theorem sortI64_ok2 : sortI64.Ok2 P where
  one := inferInstanceAs (One P T.int)
  zer := inferInstanceAs (Zer P T.int _)
  xone := inferInstanceAs (One P T.slices_xorshift)
  xzer := inferInstanceAs (Zer P T.slices_xorshift _)
  next h := next_c h
  pow h1 h2 h := pow_c _ h1 h2 h

theorem less_int64_c {w : World} {l : List HP} (x y : Int) (hs : Sat w l) : Ret P F.cmp_Less_int64 #[.int .i64 x, .int .i64 y] w fun vs w' => vs = [.bool (decide (x < y))] ∧ Sat w' l :=
  cmp_Less_int64_calls x y <| by
    unfold cmp_Less_int64
    refine wp_mid (fun v w' => v = (decide (x < y), ()) ∧ Sat w' l) ?_ (by rintro _ w' ⟨rfl, hs⟩; exact ⟨rfl, rfl, hs⟩)
    refine wp_callS (false, ()) (cmp_isNaN_int64_calls x (R := fun vs w' => vs = [.bool false] ∧ Sat w' l) ?_) rfl fun w' hs => ⟨trivial, ?_⟩
    · exact ⟨rfl, by simp, hs⟩
    · exact wp_ite_f rfl (wp_lt (wp_leave ⟨(_, ()), rfl, rfl, hs⟩))

def toE (n : Int) : sortI64.E := (n, ())
def ofE (e : sortI64.E) : Int := e.1
theorem flat_toE : ∀ xs : List Int, (xs.map toE).flatMap sortI64.enc = xs.flatMap fun n => [.int .i64 n]
  | [] => rfl
  | x :: r => by rw [List.map_cons, List.flatMap_cons, List.flatMap_cons, flat_toE r]; rfl
theorem flat_ofE : ∀ xs : List sortI64.E, (xs.map ofE).flatMap (fun n => [Value.int .i64 n]) = xs.flatMap sortI64.enc
  | [] => rfl
  | x :: r => by rw [List.map_cons, List.flatMap_cons, List.flatMap_cons, flat_ofE r]; rfl
theorem of_toE (xs : List Int) : (xs.map toE).map ofE = xs := by rw [List.map_map]; exact List.map_id xs
def ltI (x y : sortI64.E) : Bool := decide (ofE x < ofE y)

theorem sortI64_ok : sortI64.Ok P ltI where
  pos := by decide
  enc _ := rfl
  ld w A x h := by
    exact At.ld1 (T := T.int64) h rfl
  size := (inferInstance : One P T.int64).ok.2
  cells _ := rfl
  one x := by intro u hu; obtain rfl := List.mem_singleton.1 hu; rfl
  less hs h := wp_callS (_, ()) (less_int64_c _ _ hs) rfl fun w' hs => ⟨trivial, h w' hs⟩

theorem ltI_ok : LtOk ltI where
  asymm {x y} h := by
    have h : ofE x < ofE y := of_decide_eq_true h
    exact decide_eq_false (by omega)
  trans {x y z} h1 h2 := by
    have h1 : ¬ ofE x < ofE y := of_decide_eq_false h1
    have h2 : ¬ ofE y < ofE z := of_decide_eq_false h2
    exact decide_eq_false (by omega)

abbrev ints (x : Sl) (xs : List Int) : HP := slc T.int64 1 x (xs.flatMap fun n => [.int .i64 n])

section
variable {w : World} {l : List HP}

theorem sort_int64_c (x : Sl) (xs : List Int) (h63 : xs.length < 576460752303423488) (hs : Sat w (ints x xs :: l)) :
    Ret P F.slices_Sort_s_int64_int64 #[x.v] w fun vs w' => vs = [] ∧ ∃ ys : List Int, ys.Perm xs ∧ ys.Pairwise (· ≤ ·) ∧ Sat w' (ints x ys :: l) :=
  slices_Sort_s_int64_int64_calls x <| by
    unfold slices_Sort_s_int64_int64
    have hl : x.len = xs.length := hs.rd.len (enc := fun n : Int => [Value.int .i64 n]) (fun _ => rfl) (by decide)
    refine wp_lt ?_
    rw [hl]
    have hs : Sat w (sortI64.arr x (xs.map toE) :: l) := by
      refine hs.imp fun p hp => ?_
      rw [SortI.arr, flat_toE]; exact hp
    have hfin : ∀ {w' : World}, (∃ ys, ys.Perm (xs.map toE) ∧ ys.Pairwise (fun x y => ltI y x = false) ∧ Sat w' (sortI64.arr x ys :: l)) → ∃ ys : List Int, ys.Perm xs ∧ ys.Pairwise (· ≤ ·) ∧ Sat w' (ints x ys :: l) := by
      rintro w' ⟨ys, hp, hso, hs⟩
      refine ⟨ys.map ofE, ?_, ?_, ?_⟩
      · have := hp.map ofE
        rwa [of_toE] at this
      · rw [List.pairwise_map]
        refine hso.imp fun h => ?_
        have h : ¬ _ := of_decide_eq_false h
        omega
      · refine hs.imp fun p hp => ?_
        rw [ints, flat_ofE]; exact hp
    have hlen : Ret P F.math_bits_Len #[.int .u64 (IntKind.wrap .u64 (xs.length : Int))] w fun vs w' => (∃ k : Int, vs = [.int .i64 k]) ∧ Sat w' (sortI64.arr x (xs.map toE) :: l) := by
      by_cases h0 : xs.length = 0
      · rw [h0]
        exact Calls.mono (len0_c hs) fun e w' ⟨vs, he, hv, hs⟩ => ⟨vs, he, ⟨0, hv⟩, hs⟩
      · have e : IntKind.wrap .u64 (xs.length : Int) = xs.length := by rw [wrapu]; omega
        rw [e]
        exact Calls.mono (len_c xs.length (by omega) (by omega) hs) fun e w' ⟨vs, he, ⟨k, hv, _, _⟩, hs⟩ => ⟨vs, he, ⟨k, hv⟩, hs⟩
    refine wp_call hlen fun vs w' ⟨⟨k, hv⟩, hs⟩ => ?_
    subst hv
    refine ⟨(k, ()), rfl, trivial, ?_⟩
    have := pdq_all sortI64_ok sortI64_impl sortI64_ok2 ltI_ok (toE 0) k (by rw [List.length_map]; exact h63) hs
    rw [List.length_map] at this
    refine wp_callS () this rfl fun w' h => ⟨trivial, rfl, rfl, hfin h⟩

end
end Go.Dec
