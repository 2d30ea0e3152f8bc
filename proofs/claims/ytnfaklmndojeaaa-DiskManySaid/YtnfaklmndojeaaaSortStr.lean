/- Sorting of []string. -/
import Derived.Test.YtnfaklmndojeaaaSortX
import Derived.Test.YtnfaklmndojeaaaOpsX
namespace Go.Dec
set_option linter.unusedVariables false
set_option linter.unusedSimpArgs false

def sortStr : SortI where
  T := T.string
  s := .one .str
  sz := 1
  less := fun x y k => .call F.cmp_Less_string [.string x.1, .string y.1] sB (u1 k)
  ex := []
  xs := T.slices_xorshift
  ti := T.int
  fNext := F.slices_xorshift_Next
  fPow := F.slices_nextPowerOfTwo
  f_sift := F.slices_siftDownOrdered_string
  f_heap := F.slices_heapSortOrdered_string
  f_ins := F.slices_insertionSortOrdered_string
  f_brk := F.slices_breakPatternsOrdered_string
  f_rev := F.slices_reverseRangeOrdered_string
  f_pins := F.slices_partialInsertionSortOrdered_string
  f_peq := F.slices_partitionEqualOrdered_string
  f_part := F.slices_partitionOrdered_string
  f_ord2 := F.slices_order2Ordered_string
  f_med := F.slices_medianOrdered_string
  f_medj := F.slices_medianAdjacentOrdered_string
  f_piv := F.slices_choosePivotOrdered_string
  f_pdq := F.slices_pdqsortOrdered_string

theorem sortStr_impl : sortStr.Impl P where
  sift h := slices_siftDownOrdered_string_calls _ _ _ _ h
  heap h := slices_heapSortOrdered_string_calls _ _ _ h
  ins h := slices_insertionSortOrdered_string_calls _ _ _ h
  brk h := slices_breakPatternsOrdered_string_calls _ _ _ h
  rev h := slices_reverseRangeOrdered_string_calls _ _ _ h
  pins h := slices_partialInsertionSortOrdered_string_calls _ _ _ h
  peq h := slices_partitionEqualOrdered_string_calls _ _ _ _ h
  part h := slices_partitionOrdered_string_calls _ _ _ _ h
  ord2 h := slices_order2Ordered_string_calls _ _ _ _ h
  med h := slices_medianOrdered_string_calls _ _ _ _ _ h
  medj h := slices_medianAdjacentOrdered_string_calls _ _ _ h
  piv h := slices_choosePivotOrdered_string_calls _ _ _ h
  pdq h := slices_pdqsortOrdered_string_calls _ _ _ _ h

theorem sortStr_ok2 : sortStr.Ok2 P where
  one := inferInstanceAs (One P T.int)
  zer := inferInstanceAs (Zer P T.int _)
  xone := inferInstanceAs (One P T.slices_xorshift)
  xzer := inferInstanceAs (Zer P T.slices_xorshift _)
  next h := next_c h
  pow h1 h2 h := pow_c _ h1 h2 h

theorem less_string_c {w : World} {l : List HP} (x y : ByteArray) (hs : Sat w l) : Ret P F.cmp_Less_string #[.string x, .string y] w fun vs w' => vs = [.bool (Op.bytesLess (ByteArray.toList x) (ByteArray.toList y))] ∧ Sat w' l :=
  cmp_Less_string_calls x y <| by
    unfold cmp_Less_string
    refine wp_mid (fun v w' => v = (Op.bytesLess (ByteArray.toList x) (ByteArray.toList y), ()) ∧ Sat w' l) ?_ (by rintro _ w' ⟨rfl, hs⟩; exact ⟨rfl, rfl, hs⟩)
    refine wp_callS (false, ()) (cmp_isNaN_string_calls x (R := fun vs w' => vs = [.bool false] ∧ Sat w' l) ?_) rfl fun w' hs => ⟨trivial, ?_⟩
    · refine ⟨rfl, ?_, hs⟩
      rw [show (ByteArray.toList x == ByteArray.toList x) = true from beq_self_eq_true _]; rfl
    · exact wp_ite_f rfl (wp_lt (wp_leave ⟨(_, ()), rfl, rfl, hs⟩))

def toEs (s : ByteArray) : sortStr.E := (s, ())
def ofEs (e : sortStr.E) : ByteArray := e.1
theorem flat_toEs : ∀ xs : List ByteArray, (xs.map toEs).flatMap sortStr.enc = xs.flatMap encT
  | [] => rfl
  | x :: r => by rw [List.map_cons, List.flatMap_cons, List.flatMap_cons, flat_toEs r]; rfl
theorem flat_ofEs : ∀ xs : List sortStr.E, (xs.map ofEs).flatMap encT = xs.flatMap sortStr.enc
  | [] => rfl
  | x :: r => by rw [List.map_cons, List.flatMap_cons, List.flatMap_cons, flat_ofEs r]; rfl
theorem of_toEs (xs : List ByteArray) : (xs.map toEs).map ofEs = xs := by rw [List.map_map]; exact List.map_id xs
def ltE (x y : sortStr.E) : Bool := Op.bytesLess (ByteArray.toList (ofEs x)) (ByteArray.toList (ofEs y))

theorem sortStr_ok : sortStr.Ok P ltE where
  pos := by decide
  enc _ := rfl
  ld w A x h := by
    exact At.ld1 (T := T.string) h rfl
  size := (inferInstance : One P T.string).ok.2
  cells _ := rfl
  one x := by intro u hu; obtain rfl := List.mem_singleton.1 hu; rfl
  less hs h := wp_callS (_, ()) (less_string_c _ _ hs) rfl fun w' hs => ⟨trivial, h w' hs⟩

section
variable {w : World} {l : List HP}

theorem sort_string_c (x : Sl) (xs : List ByteArray) (hlt : LtOk ltE) (h63 : xs.length < 576460752303423488) (hs : Sat w (slc T.string 1 x (xs.flatMap encT) :: l)) :
    Ret P F.slices_Sort_s_string_string #[x.v] w fun vs w' => vs = [] ∧ ∃ ys : List ByteArray, ys.Perm xs ∧ ys.Pairwise (fun a b => Op.bytesLess (ByteArray.toList b) (ByteArray.toList a) = false) ∧ Sat w' (slc T.string 1 x (ys.flatMap encT) :: l) :=
  slices_Sort_s_string_string_calls x <| by
    unfold slices_Sort_s_string_string
    have hl : x.len = xs.length := hs.rd.len (enc := encT) (fun _ => rfl) (by decide)
    refine wp_lt ?_
    rw [hl]
    have hs : Sat w (sortStr.arr x (xs.map toEs) :: l) := by
      refine hs.imp fun p hp => ?_
      rw [SortI.arr, flat_toEs]; exact hp
    have hfin : ∀ {w' : World}, (∃ ys, ys.Perm (xs.map toEs) ∧ ys.Pairwise (fun x y => ltE y x = false) ∧ Sat w' (sortStr.arr x ys :: l)) → ∃ ys : List ByteArray, ys.Perm xs ∧ ys.Pairwise (fun a b => Op.bytesLess (ByteArray.toList b) (ByteArray.toList a) = false) ∧ Sat w' (slc T.string 1 x (ys.flatMap encT) :: l) := by
      rintro w' ⟨ys, hp, hso, hs⟩
      refine ⟨ys.map ofEs, ?_, ?_, ?_⟩
      · have := hp.map ofEs
        rwa [of_toEs] at this
      · rw [List.pairwise_map]
        exact hso
      · refine hs.imp fun p hp => ?_
        rw [flat_ofEs]; exact hp
    have hlen : Ret P F.math_bits_Len #[.int .u64 (IntKind.wrap .u64 (xs.length : Int))] w fun vs w' => (∃ k : Int, vs = [.int .i64 k]) ∧ Sat w' (sortStr.arr x (xs.map toEs) :: l) := by
      by_cases h0 : xs.length = 0
      · rw [h0]
        exact Calls.mono (len0_c hs) fun e w' ⟨vs, he, hv, hs⟩ => ⟨vs, he, ⟨0, hv⟩, hs⟩
      · have e : IntKind.wrap .u64 (xs.length : Int) = xs.length := by rw [wrapu]; omega
        rw [e]
        exact Calls.mono (len_c xs.length (by omega) (by omega) hs) fun e w' ⟨vs, he, ⟨k, hv, _, _⟩, hs⟩ => ⟨vs, he, ⟨k, hv⟩, hs⟩
    refine wp_call hlen fun vs w' ⟨⟨k, hv⟩, hs⟩ => ?_
    subst hv
    refine ⟨(k, ()), rfl, trivial, ?_⟩
    have := pdq_all sortStr_ok sortStr_impl sortStr_ok2 hlt (toEs ⟨#[]⟩) k (by rw [List.length_map]; exact h63) hs
    rw [List.length_map] at this
    refine wp_callS () this rfl fun w' h => ⟨trivial, rfl, rfl, hfin h⟩

end
end Go.Dec
