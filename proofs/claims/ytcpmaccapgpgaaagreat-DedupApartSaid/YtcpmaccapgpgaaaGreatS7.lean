/- RowA: structs of 7 numbers, sorted by a closure. Printed by srt.py. -/
import Derived.Test.YtcpmaccapgpgaaaGreatSrtC
namespace Go.Dec
set_option linter.unusedVariables false
set_option linter.unusedSimpArgs false

structure RowA where
  pid : Int
  epoch : Int
  seq : Int
  count : Int
  base : Int
  frm : Int
  time : Int
def encW (t : RowA) : List Value := [.int .i64 t.pid, .int .i64 t.epoch, .int .i64 t.seq, .int .i64 t.count, .int .i64 t.base, .int .i64 t.frm, .int .i64 t.time]
instance : EncA encW [.int .i64, .int .i64, .int .i64, .int .i64, .int .i64, .int .i64, .int .i64] (fun t => (t.pid, t.epoch, t.seq, t.count, t.base, t.frm, t.time, ())) := ⟨fun _ => rfl⟩
instance : EncN encW 7 := ⟨fun _ => rfl, by decide, by simp [encW, Value.oneCell']⟩
instance : EncF encW 0 (.int .i64) (fun t => t.pid) := ⟨fun _ => rfl⟩
instance : EncF encW 1 (.int .i64) (fun t => t.epoch) := ⟨fun _ => rfl⟩
instance : EncF encW 2 (.int .i64) (fun t => t.seq) := ⟨fun _ => rfl⟩
instance : EncF encW 3 (.int .i64) (fun t => t.count) := ⟨fun _ => rfl⟩
instance : EncF encW 4 (.int .i64) (fun t => t.base) := ⟨fun _ => rfl⟩
instance : EncF encW 5 (.int .i64) (fun t => t.frm) := ⟨fun _ => rfl⟩
instance : EncF encW 6 (.int .i64) (fun t => t.time) := ⟨fun _ => rfl⟩

def sortW (cmp : Value) : SortI where
  T := T.dedup_Row
  s := .agg [.int .i64, .int .i64, .int .i64, .int .i64, .int .i64, .int .i64, .int .i64]
  sz := 7
  less := fun x y k => .callv cmp [.agg #[.int .i64 x.1, .int .i64 x.2.1, .int .i64 x.2.2.1, .int .i64 x.2.2.2.1, .int .i64 x.2.2.2.2.1, .int .i64 x.2.2.2.2.2.1, .int .i64 x.2.2.2.2.2.2.1], .agg #[.int .i64 y.1, .int .i64 y.2.1, .int .i64 y.2.2.1, .int .i64 y.2.2.2.1, .int .i64 y.2.2.2.2.1, .int .i64 y.2.2.2.2.2.1, .int .i64 y.2.2.2.2.2.2.1]] (sI .i64) (u1 fun n => k (decide (n < 0)))
  ex := [cmp]
  xs := T.slices_xorshift
  ti := T.int
  fNext := F.slices_xorshift_Next
  fPow := F.slices_nextPowerOfTwo
  f_sift := F.slices_siftDownCmpFunc_dedup_Row
  f_heap := F.slices_heapSortCmpFunc_dedup_Row
  f_ins := F.slices_insertionSortCmpFunc_dedup_Row
  f_brk := F.slices_breakPatternsCmpFunc_dedup_Row
  f_rev := F.slices_reverseRangeCmpFunc_dedup_Row
  f_pins := F.slices_partialInsertionSortCmpFunc_dedup_Row
  f_peq := F.slices_partitionEqualCmpFunc_dedup_Row
  f_part := F.slices_partitionCmpFunc_dedup_Row
  f_ord2 := F.slices_order2CmpFunc_dedup_Row
  f_med := F.slices_medianCmpFunc_dedup_Row
  f_medj := F.slices_medianAdjacentCmpFunc_dedup_Row
  f_piv := F.slices_choosePivotCmpFunc_dedup_Row
  f_pdq := F.slices_pdqsortCmpFunc_dedup_Row

theorem sortW_impl (cmp : Value) : (sortW cmp).Impl P where
  sift h := slices_siftDownCmpFunc_dedup_Row_calls _ _ _ _ _ h
  heap h := slices_heapSortCmpFunc_dedup_Row_calls _ _ _ _ h
  ins h := slices_insertionSortCmpFunc_dedup_Row_calls _ _ _ _ h
  brk h := slices_breakPatternsCmpFunc_dedup_Row_calls _ _ _ _ h
  rev h := slices_reverseRangeCmpFunc_dedup_Row_calls _ _ _ _ h
  pins h := slices_partialInsertionSortCmpFunc_dedup_Row_calls _ _ _ _ h
  peq h := slices_partitionEqualCmpFunc_dedup_Row_calls _ _ _ _ _ h
  part h := slices_partitionCmpFunc_dedup_Row_calls _ _ _ _ _ h
  ord2 h := slices_order2CmpFunc_dedup_Row_calls _ _ _ _ _ h
  med h := slices_medianCmpFunc_dedup_Row_calls _ _ _ _ _ _ h
  medj h := slices_medianAdjacentCmpFunc_dedup_Row_calls _ _ _ _ h
  piv h := slices_choosePivotCmpFunc_dedup_Row_calls _ _ _ _ h
  pdq h := slices_pdqsortCmpFunc_dedup_Row_calls _ _ _ _ _ h

theorem sortW_ok2 (cmp : Value) : (sortW cmp).Ok2 P where
  one := inferInstanceAs (One P T.int)
  zer := inferInstanceAs (Zer P T.int _)
  xone := inferInstanceAs (One P T.slices_xorshift)
  xzer := inferInstanceAs (Zer P T.slices_xorshift _)
  next h := next_c h
  pow h1 h2 h := pow_c _ h1 h2 h

section
variable {w : World} {l : List HP} {Q : Post} {S : World → Prop}
theorem by_dedup_Table_Rows_1_c (a b : RowA) (hs : Sat w l) : Ret P F.dedup_Table_Rows_1 #[.agg (encW a).toArray, .agg (encW b).toArray] w fun vs w' => vs = [.int .i64 (cmpI a.pid b.pid)] ∧ Sat w' l :=
  dedup_Table_Rows_1_calls a.pid a.epoch a.seq a.count a.base a.frm a.time b.pid b.epoch b.seq b.count b.base b.frm b.time <| by
    unfold dedup_Table_Rows_1
    refine wp_boxO hs fun a0 w' hs => ?_
    refine wp_boxO hs fun a1 w' hs => ?_
    refine wp_ldO hs ?_
    refine wp_ldO hs ?_
    refine wp_call (compare_c a.pid b.pid hs) fun _ _ hs => ?_
    obtain ⟨rfl, hs⟩ := hs
    refine ret_of ?_
    refine wp_lt ?_
    exact ⟨rfl, rfl, hs.tail.tail⟩
theorem by_dedup_Table_Open_1_c (a b : RowA) (hs : Sat w l) : Ret P F.dedup_Table_Open_1 #[.agg (encW a).toArray, .agg (encW b).toArray] w fun vs w' => vs = [.int .i64 (cmpI a.frm b.frm)] ∧ Sat w' l :=
  dedup_Table_Open_1_calls a.pid a.epoch a.seq a.count a.base a.frm a.time b.pid b.epoch b.seq b.count b.base b.frm b.time <| by
    unfold dedup_Table_Open_1
    refine wp_boxO hs fun a0 w' hs => ?_
    refine wp_boxO hs fun a1 w' hs => ?_
    refine wp_ldO hs ?_
    refine wp_ldO hs ?_
    refine wp_call (compare_c a.frm b.frm hs) fun _ _ hs => ?_
    obtain ⟨rfl, hs⟩ := hs
    refine ret_of ?_
    refine wp_lt ?_
    exact ⟨rfl, rfl, hs.tail.tail⟩

def toW (cmp : Value) (t : RowA) : (sortW cmp).E := (t.pid, t.epoch, t.seq, t.count, t.base, t.frm, t.time, ())
def ofW (cmp : Value) (e : (sortW cmp).E) : RowA := ⟨e.1, e.2.1, e.2.2.1, e.2.2.2.1, e.2.2.2.2.1, e.2.2.2.2.2.1, e.2.2.2.2.2.2.1⟩
theorem flat_toW (cmp : Value) : ∀ xs : List RowA, (xs.map (toW cmp)).flatMap (sortW cmp).enc = xs.flatMap encW
  | [] => rfl
  | x :: r => by rw [List.map_cons, List.flatMap_cons, List.flatMap_cons, flat_toW cmp r]; rfl
theorem flat_ofW (cmp : Value) : ∀ xs : List (sortW cmp).E, (xs.map (ofW cmp)).flatMap encW = xs.flatMap (sortW cmp).enc
  | [] => rfl
  | x :: r => by rw [List.map_cons, List.flatMap_cons, List.flatMap_cons, flat_ofW cmp r]; rfl
theorem of_toW (cmp : Value) (xs : List RowA) : (xs.map (toW cmp)).map (ofW cmp) = xs := by rw [List.map_map]; exact List.map_id xs

/-- The closure compares by this number. -/
def CmpByW (f : RowA → Int) (g : FuncId) : Prop := (P.funcs[g]?).any (fun fn => fn.body.isSome && fn.name != "runtime.NumGoroutine") = true ∧
  ∀ (w : World) (l : List HP) (a b : RowA), Sat w l → Ret P g #[.agg (encW a).toArray, .agg (encW b).toArray] w fun vs w' => vs = [.int .i64 (cmpI (f a) (f b))] ∧ Sat w' l
theorem cmp_dedup_Table_Rows_1 : CmpByW RowA.pid F.dedup_Table_Rows_1 := ⟨by kernel_rfl, fun w l a b hs => by_dedup_Table_Rows_1_c a b hs⟩
theorem cmp_dedup_Table_Open_1 : CmpByW RowA.frm F.dedup_Table_Open_1 := ⟨by kernel_rfl, fun w l a b hs => by_dedup_Table_Open_1_c a b hs⟩

def ltW (f : RowA → Int) (g : FuncId) (x y : (sortW (fnV g)).E) : Bool := decide (f (ofW _ x) < f (ofW _ y))
theorem ltW_ok (f : RowA → Int) (g : FuncId) : LtOk (ltW f g) where
  asymm {x y} h := by
    have h : decide (f (ofW _ x) < f (ofW _ y)) = true := h
    rw [decide_eq_true_iff] at h
    show decide (f (ofW _ y) < f (ofW _ x)) = false
    rw [decide_eq_false_iff_not]; omega
  trans {x y z} h1 h2 := by
    have h1 : decide (f (ofW _ x) < f (ofW _ y)) = false := h1
    have h2 : decide (f (ofW _ y) < f (ofW _ z)) = false := h2
    rw [decide_eq_false_iff_not] at h1 h2
    show decide (f (ofW _ x) < f (ofW _ z)) = false
    rw [decide_eq_false_iff_not]; omega

theorem sortW_ok {f : RowA → Int} {g : FuncId} (hg : CmpByW f g) : (sortW (fnV g)).Ok P (ltW f g) where
  pos := Nat.zero_lt_succ 6
  enc _ := rfl
  ld w A x h := At.ldA (T := T.dedup_Row) (n := 7) h rfl
  size := (inferInstance : Agg P T.dedup_Row 7).ok.2
  cells _ := rfl
  one x := by intro u hu; exact (inferInstance : EncN encW 7).one (ofW _ x) u hu
  less {x y k w l Q} hs h := by
    refine wp_callv hg.1 (cmpI (f (ofW _ x)) (f (ofW _ y)), ()) (hg.2 w l (ofW _ x) (ofW _ y) hs) rfl fun w' hs => ⟨trivial, ?_⟩
    have e : decide (cmpI (f (ofW _ x)) (f (ofW _ y)) < 0) = ltW f g x y := by
      unfold cmpI ltW
      rw [decide_eq_decide]
      split
      · simp [*]
      · split <;> simp [*]
    show (k (decide (cmpI (f (ofW _ x)) (f (ofW _ y)) < 0))).wp P tt w' Q
    rw [e]
    exact h w' hs

theorem sortFW_c {f : RowA → Int} {g : FuncId} (hg : CmpByW f g) (x : Sl) (xs : List RowA) (h63 : xs.length < 576460752303423488) (hs : Sat w (slc T.dedup_Row 7 x (xs.flatMap encW) :: l)) :
    Ret P F.slices_SortFunc_s_dedup_Row_dedup_Row #[x.v, fnV g] w fun vs w' => vs = [] ∧ ∃ ys : List RowA, ys.Perm xs ∧ ys.Pairwise (fun a b => f a ≤ f b) ∧ Sat w' (slc T.dedup_Row 7 x (ys.flatMap encW) :: l) :=
  slices_SortFunc_s_dedup_Row_dedup_Row_calls x (fnV g) <| by
    unfold slices_SortFunc_s_dedup_Row_dedup_Row
    have hl : x.len = xs.length := hs.rd.len (enc := encW) (fun _ => rfl) (by decide)
    refine wp_lt ?_
    rw [hl]
    have hs : Sat w ((sortW (fnV g)).arr x (xs.map (toW _)) :: l) := by
      refine hs.imp fun p hp => ?_
      rw [SortI.arr, flat_toW]; exact hp
    have hfin : ∀ {w' : World}, (∃ ys, ys.Perm (xs.map (toW _)) ∧ ys.Pairwise (fun x y => ltW f g y x = false) ∧ Sat w' ((sortW (fnV g)).arr x ys :: l)) → ∃ ys : List RowA, ys.Perm xs ∧ ys.Pairwise (fun a b => f a ≤ f b) ∧ Sat w' (slc T.dedup_Row 7 x (ys.flatMap encW) :: l) := by
      rintro w' ⟨ys, hp, hso, hs⟩
      refine ⟨ys.map (ofW _), ?_, ?_, ?_⟩
      · have := hp.map (ofW _)
        rwa [of_toW] at this
      · rw [List.pairwise_map]
        refine hso.imp fun {a b} h => ?_
        have h : decide (f (ofW _ b) < f (ofW _ a)) = false := h
        rw [decide_eq_false_iff_not] at h; omega
      · refine hs.imp fun p hp => ?_
        rw [flat_ofW]; exact hp
    have hlen : Ret P F.math_bits_Len #[.int .u64 (IntKind.wrap .u64 (xs.length : Int))] w fun vs w' => (∃ k : Int, vs = [.int .i64 k]) ∧ Sat w' ((sortW (fnV g)).arr x (xs.map (toW _)) :: l) := by
      by_cases h0 : xs.length = 0
      · rw [h0]
        exact Calls.mono (len0_c hs) fun e w' ⟨vs, he, hv, hs⟩ => ⟨vs, he, ⟨0, hv⟩, hs⟩
      · have e : IntKind.wrap .u64 (xs.length : Int) = xs.length := by rw [wrapu]; omega
        rw [e]
        exact Calls.mono (len_c xs.length (by omega) (by omega) hs) fun e w' ⟨vs, he, ⟨k, hv, _, _⟩, hs⟩ => ⟨vs, he, ⟨k, hv⟩, hs⟩
    refine wp_call hlen fun vs w' ⟨⟨k, hv⟩, hs⟩ => ?_
    subst hv
    refine ⟨(k, ()), rfl, trivial, ?_⟩
    have := pdq_all (sortW_ok hg) (sortW_impl _) (sortW_ok2 _) (ltW_ok f g) (toW _ ⟨0, 0, 0, 0, 0, 0, 0⟩) k (by rw [List.length_map]; exact h63) hs
    rw [List.length_map] at this
    refine wp_callS () this rfl fun w' h => ⟨trivial, rfl, rfl, hfin h⟩

theorem sorted_eqW {f : RowA → Int} : ∀ {a b : List RowA}, a.Perm b → (a.Pairwise fun x y => f x ≤ f y) → (b.Pairwise fun x y => f x < f y) → a = b
  | a, [], hp, _, _ => hp.eq_nil
  | [], y :: b, hp, _, _ => absurd hp.symm.eq_nil (by simp)
  | x :: a, y :: b, hp, ha, hb => by
    rw [List.pairwise_cons] at ha hb
    have hxy : x = y := by
      have hx : x ∈ y :: b := hp.mem_iff.1 (List.mem_cons_self ..)
      have hy : y ∈ x :: a := hp.mem_iff.2 (List.mem_cons_self ..)
      rcases List.mem_cons.1 hx with h | h
      · exact h
      · rcases List.mem_cons.1 hy with h2 | h2
        · exact h2.symm
        · have h3 := hb.1 x h
          have h4 := ha.1 y h2
          omega
    subst hxy
    rw [sorted_eqW (List.Perm.cons_inv hp) ha.2 hb.2]
end
end Go.Dec
