/- Isolation: a list of transactions, sorted by a number of theirs. Isolation: SortFunc. -/
import Derived.Test.YtpjfebedfejmgaaGreatSortX
import Derived.Test.YtpjfebedfejmgaaGreatOpsZ
namespace Go.Dec
set_option linter.unusedVariables false
set_option linter.unusedSimpArgs false

/-- A transaction. -/
structure TxnA where
  pid : Int
  epoch : Int
  first : Int
  last : Int
def encX (t : TxnA) : List Value := [.int .i64 t.pid, .int .i64 t.epoch, .int .i64 t.first, .int .i64 t.last]
instance : EncA encX [.int .i64, .int .i64, .int .i64, .int .i64] (fun t => (t.pid, t.epoch, t.first, t.last, ())) := ⟨fun _ => rfl⟩
instance : EncN encX 4 := ⟨fun _ => rfl, by decide, by simp [encX, Value.oneCell']⟩
instance : EncF encX 0 (.int .i64) (fun t => t.pid) := ⟨fun _ => rfl⟩
instance : EncF encX 1 (.int .i64) (fun t => t.epoch) := ⟨fun _ => rfl⟩
instance : EncF encX 2 (.int .i64) (fun t => t.first) := ⟨fun _ => rfl⟩
instance : EncF encX 3 (.int .i64) (fun t => t.last) := ⟨fun _ => rfl⟩

def sortTxn (cmp : Value) : SortI where
  T := T.iso_Txn
  s := .agg [.int .i64, .int .i64, .int .i64, .int .i64]
  sz := 4
  less := fun x y k => .callv cmp [.agg #[.int .i64 x.1, .int .i64 x.2.1, .int .i64 x.2.2.1, .int .i64 x.2.2.2.1], .agg #[.int .i64 y.1, .int .i64 y.2.1, .int .i64 y.2.2.1, .int .i64 y.2.2.2.1]] (sI .i64) (u1 fun n => k (decide (n < 0)))
  ex := [cmp]
  xs := T.slices_xorshift
  ti := T.int
  fNext := F.slices_xorshift_Next
  fPow := F.slices_nextPowerOfTwo
  f_sift := F.slices_siftDownCmpFunc_iso_Txn
  f_heap := F.slices_heapSortCmpFunc_iso_Txn
  f_ins := F.slices_insertionSortCmpFunc_iso_Txn
  f_brk := F.slices_breakPatternsCmpFunc_iso_Txn
  f_rev := F.slices_reverseRangeCmpFunc_iso_Txn
  f_pins := F.slices_partialInsertionSortCmpFunc_iso_Txn
  f_peq := F.slices_partitionEqualCmpFunc_iso_Txn
  f_part := F.slices_partitionCmpFunc_iso_Txn
  f_ord2 := F.slices_order2CmpFunc_iso_Txn
  f_med := F.slices_medianCmpFunc_iso_Txn
  f_medj := F.slices_medianAdjacentCmpFunc_iso_Txn
  f_piv := F.slices_choosePivotCmpFunc_iso_Txn
  f_pdq := F.slices_pdqsortCmpFunc_iso_Txn

theorem sortTxn_impl (cmp : Value) : (sortTxn cmp).Impl P where
  sift h := slices_siftDownCmpFunc_iso_Txn_calls _ _ _ _ _ h
  heap h := slices_heapSortCmpFunc_iso_Txn_calls _ _ _ _ h
  ins h := slices_insertionSortCmpFunc_iso_Txn_calls _ _ _ _ h
  brk h := slices_breakPatternsCmpFunc_iso_Txn_calls _ _ _ _ h
  rev h := slices_reverseRangeCmpFunc_iso_Txn_calls _ _ _ _ h
  pins h := slices_partialInsertionSortCmpFunc_iso_Txn_calls _ _ _ _ h
  peq h := slices_partitionEqualCmpFunc_iso_Txn_calls _ _ _ _ _ h
  part h := slices_partitionCmpFunc_iso_Txn_calls _ _ _ _ _ h
  ord2 h := slices_order2CmpFunc_iso_Txn_calls _ _ _ _ _ h
  med h := slices_medianCmpFunc_iso_Txn_calls _ _ _ _ _ _ h
  medj h := slices_medianAdjacentCmpFunc_iso_Txn_calls _ _ _ _ h
  piv h := slices_choosePivotCmpFunc_iso_Txn_calls _ _ _ _ h
  pdq h := slices_pdqsortCmpFunc_iso_Txn_calls _ _ _ _ _ h

theorem sortTxn_ok2 (cmp : Value) : (sortTxn cmp).Ok2 P where
  one := inferInstanceAs (One P T.int)
  zer := inferInstanceAs (Zer P T.int _)
  xone := inferInstanceAs (One P T.slices_xorshift)
  xzer := inferInstanceAs (Zer P T.slices_xorshift _)
  next h := next_c h
  pow h1 h2 h := pow_c _ h1 h2 h

end Go.Dec

namespace Go.Dec
set_option linter.unusedVariables false
set_option linter.unusedSimpArgs false

def cmpI (x y : Int) : Int := if x < y then -1 else if x > y then 1 else 0

section
variable {w : World} {l : List HP} {Q : Post} {S : World → Prop}

theorem wp_callv {f : FuncId} {args : List Value} {s : Sh} {k : HL s.prims → Prog} {vs₀ : List Value} {R : World → Prop} (hok : (P.funcs[f]?).any (fun fn => fn.body.isSome && fn.name != "runtime.NumGoroutine") = true) (x : HL s.prims)
    (hc : Ret P f args.toArray w fun vs w' => vs = vs₀ ∧ R w') (hx : pack vs₀ = s.mk x) (h : ∀ w', R w' → S w' ∧ (k x).wp P S w' Q) : (Prog.callv (.func (.func f) #[] #[]) args s k).wp P S w Q := by
  refine ⟨f, #[], #[], rfl, hok, ?_⟩
  have e : (#[] : Array Value) ++ args.toArray ++ #[] = args.toArray := by simp
  rw [e]
  refine Calls.mono hc fun e w' ⟨vs, he, hv, hR⟩ => ?_
  exact ⟨x, by rw [he, hv, hx], h w' hR⟩

theorem isNaN_c (x : Int) (hs : Sat w l) : Ret P F.cmp_isNaN_int64 #[.int .i64 x] w fun vs w' => vs = [.bool false] ∧ Sat w' l :=
  cmp_isNaN_int64_calls x <| by
    unfold cmp_isNaN_int64
    refine wp_lt ?_
    exact ⟨rfl, by simp, hs⟩

theorem compare_c (x y : Int) (hs : Sat w l) : Ret P F.cmp_Compare_int64 #[.int .i64 x, .int .i64 y] w fun vs w' => vs = [.int .i64 (cmpI x y)] ∧ Sat w' l :=
  cmp_Compare_int64_calls x y <| by
    unfold cmp_Compare_int64
    refine wp_call (isNaN_c x hs) fun _ _ hs => ?_
    obtain ⟨rfl, hs⟩ := hs
    refine ret_of ?_
    refine wp_lt ?_
    refine wp_call (isNaN_c y hs) fun _ _ hs => ?_
    obtain ⟨rfl, hs⟩ := hs
    refine ret_of ?_
    refine wp_lt ?_
    refine wp_ifF ?_ (by simp)
    refine wp_ifF ?_ (by simp)
    unfold cmpI
    refine wp_if (fun h => ?_) fun h => ?_
    · rw [if_pos h]; exact ⟨rfl, rfl, hs⟩
    rw [if_neg h]
    refine wp_if (fun h2 => ?_) fun h2 => ?_
    · rw [if_pos h2]; exact ⟨rfl, rfl, hs⟩
    · rw [if_neg h2]; exact ⟨rfl, rfl, hs⟩

theorem byFirst_c (a b : TxnA) (hs : Sat w l) : Ret P F.iso_View_Open_1 #[.agg (encX a).toArray, .agg (encX b).toArray] w fun vs w' => vs = [.int .i64 (cmpI a.first b.first)] ∧ Sat w' l :=
  iso_View_Open_1_calls a.pid a.epoch a.first a.last b.pid b.epoch b.first b.last <| by
    unfold iso_View_Open_1
    refine wp_boxO hs fun a0 w' hs => ?_
    refine wp_boxO hs fun a1 w' hs => ?_
    refine wp_ldO hs ?_
    refine wp_ldO hs ?_
    refine wp_call (compare_c a.first b.first hs) fun _ _ hs => ?_
    obtain ⟨rfl, hs⟩ := hs
    refine ret_of ?_
    refine wp_lt ?_
    exact ⟨rfl, rfl, hs.tail.tail⟩
theorem byLast_c (a b : TxnA) (hs : Sat w l) : Ret P F.iso_View_Fallen_1 #[.agg (encX a).toArray, .agg (encX b).toArray] w fun vs w' => vs = [.int .i64 (cmpI a.last b.last)] ∧ Sat w' l :=
  iso_View_Fallen_1_calls a.pid a.epoch a.first a.last b.pid b.epoch b.first b.last <| by
    unfold iso_View_Fallen_1
    refine wp_boxO hs fun a0 w' hs => ?_
    refine wp_boxO hs fun a1 w' hs => ?_
    refine wp_ldO hs ?_
    refine wp_ldO hs ?_
    refine wp_call (compare_c a.last b.last hs) fun _ _ hs => ?_
    obtain ⟨rfl, hs⟩ := hs
    refine ret_of ?_
    refine wp_lt ?_
    exact ⟨rfl, rfl, hs.tail.tail⟩

def toX (cmp : Value) (t : TxnA) : (sortTxn cmp).E := (t.pid, t.epoch, t.first, t.last, ())
def ofX (cmp : Value) (e : (sortTxn cmp).E) : TxnA := ⟨e.1, e.2.1, e.2.2.1, e.2.2.2.1⟩
theorem flat_toX (cmp : Value) : ∀ xs : List TxnA, (xs.map (toX cmp)).flatMap (sortTxn cmp).enc = xs.flatMap encX
  | [] => rfl
  | x :: r => by rw [List.map_cons, List.flatMap_cons, List.flatMap_cons, flat_toX cmp r]; rfl
theorem flat_ofX (cmp : Value) : ∀ xs : List (sortTxn cmp).E, (xs.map (ofX cmp)).flatMap encX = xs.flatMap (sortTxn cmp).enc
  | [] => rfl
  | x :: r => by rw [List.map_cons, List.flatMap_cons, List.flatMap_cons, flat_ofX cmp r]; rfl
theorem of_toX (cmp : Value) (xs : List TxnA) : (xs.map (toX cmp)).map (ofX cmp) = xs := by rw [List.map_map]; exact List.map_id xs

/-- The closure compares by this number. -/
def CmpBy (f : TxnA → Int) (g : FuncId) : Prop := (P.funcs[g]?).any (fun fn => fn.body.isSome && fn.name != "runtime.NumGoroutine") = true ∧
  ∀ (w : World) (l : List HP) (a b : TxnA), Sat w l → Ret P g #[.agg (encX a).toArray, .agg (encX b).toArray] w fun vs w' => vs = [.int .i64 (cmpI (f a) (f b))] ∧ Sat w' l
theorem byFirst : CmpBy TxnA.first F.iso_View_Open_1 := ⟨by kernel_rfl, fun w l a b hs => byFirst_c a b hs⟩
theorem byLast : CmpBy TxnA.last F.iso_View_Fallen_1 := ⟨by kernel_rfl, fun w l a b hs => byLast_c a b hs⟩

abbrev fnV (g : FuncId) : Value := .func (.func g) #[] #[]
def ltX (f : TxnA → Int) (g : FuncId) (x y : (sortTxn (fnV g)).E) : Bool := decide (f (ofX _ x) < f (ofX _ y))
theorem ltX_ok (f : TxnA → Int) (g : FuncId) : LtOk (ltX f g) where
  asymm {x y} h := by
    have h : decide (f (ofX _ x) < f (ofX _ y)) = true := h
    rw [decide_eq_true_iff] at h
    show decide (f (ofX _ y) < f (ofX _ x)) = false
    rw [decide_eq_false_iff_not]; omega
  trans {x y z} h1 h2 := by
    have h1 : decide (f (ofX _ x) < f (ofX _ y)) = false := h1
    have h2 : decide (f (ofX _ y) < f (ofX _ z)) = false := h2
    rw [decide_eq_false_iff_not] at h1 h2
    show decide (f (ofX _ x) < f (ofX _ z)) = false
    rw [decide_eq_false_iff_not]; omega

theorem sortTxn_ok {f : TxnA → Int} {g : FuncId} (hg : CmpBy f g) : (sortTxn (fnV g)).Ok P (ltX f g) where
  pos := Nat.zero_lt_succ 3
  enc _ := rfl
  ld w A x h := At.ldA (T := T.iso_Txn) (n := 4) h rfl
  size := (inferInstance : Agg P T.iso_Txn 4).ok.2
  cells _ := rfl
  one x := by intro u hu; exact (inferInstance : EncN encX 4).one (ofX _ x) u hu
  less {x y k w l Q} hs h := by
    refine wp_callv hg.1 (cmpI (f (ofX _ x)) (f (ofX _ y)), ()) (hg.2 w l (ofX _ x) (ofX _ y) hs) rfl fun w' hs => ⟨trivial, ?_⟩
    have e : decide (cmpI (f (ofX _ x)) (f (ofX _ y)) < 0) = ltX f g x y := by
      unfold cmpI ltX
      rw [decide_eq_decide]
      split
      · simp [*]
      · split <;> simp [*]
    show (k (decide (cmpI (f (ofX _ x)) (f (ofX _ y)) < 0))).wp P tt w' Q
    rw [e]
    exact h w' hs

theorem sortF_c {f : TxnA → Int} {g : FuncId} (hg : CmpBy f g) (x : Sl) (xs : List TxnA) (h63 : xs.length < 576460752303423488) (hs : Sat w (slc T.iso_Txn 4 x (xs.flatMap encX) :: l)) :
    Ret P F.slices_SortFunc_s_iso_Txn_iso_Txn #[x.v, fnV g] w fun vs w' => vs = [] ∧ ∃ ys : List TxnA, ys.Perm xs ∧ ys.Pairwise (fun a b => f a ≤ f b) ∧ Sat w' (slc T.iso_Txn 4 x (ys.flatMap encX) :: l) :=
  slices_SortFunc_s_iso_Txn_iso_Txn_calls x (fnV g) <| by
    unfold slices_SortFunc_s_iso_Txn_iso_Txn
    have hl : x.len = xs.length := hs.rd.len (enc := encX) (fun _ => rfl) (by decide)
    refine wp_lt ?_
    rw [hl]
    have hs : Sat w ((sortTxn (fnV g)).arr x (xs.map (toX _)) :: l) := by
      refine hs.imp fun p hp => ?_
      rw [SortI.arr, flat_toX]; exact hp
    have hfin : ∀ {w' : World}, (∃ ys, ys.Perm (xs.map (toX _)) ∧ ys.Pairwise (fun x y => ltX f g y x = false) ∧ Sat w' ((sortTxn (fnV g)).arr x ys :: l)) → ∃ ys : List TxnA, ys.Perm xs ∧ ys.Pairwise (fun a b => f a ≤ f b) ∧ Sat w' (slc T.iso_Txn 4 x (ys.flatMap encX) :: l) := by
      rintro w' ⟨ys, hp, hso, hs⟩
      refine ⟨ys.map (ofX _), ?_, ?_, ?_⟩
      · have := hp.map (ofX _)
        rwa [of_toX] at this
      · rw [List.pairwise_map]
        refine hso.imp fun {a b} h => ?_
        have h : decide (f (ofX _ b) < f (ofX _ a)) = false := h
        rw [decide_eq_false_iff_not] at h; omega
      · refine hs.imp fun p hp => ?_
        rw [flat_ofX]; exact hp
    have hlen : Ret P F.math_bits_Len #[.int .u64 (IntKind.wrap .u64 (xs.length : Int))] w fun vs w' => (∃ k : Int, vs = [.int .i64 k]) ∧ Sat w' ((sortTxn (fnV g)).arr x (xs.map (toX _)) :: l) := by
      by_cases h0 : xs.length = 0
      · rw [h0]
        exact Calls.mono (len0_c hs) fun e w' ⟨vs, he, hv, hs⟩ => ⟨vs, he, ⟨0, hv⟩, hs⟩
      · have e : IntKind.wrap .u64 (xs.length : Int) = xs.length := by rw [wrapu]; omega
        rw [e]
        exact Calls.mono (len_c xs.length (by omega) (by omega) hs) fun e w' ⟨vs, he, ⟨k, hv, _, _⟩, hs⟩ => ⟨vs, he, ⟨k, hv⟩, hs⟩
    refine wp_call hlen fun vs w' ⟨⟨k, hv⟩, hs⟩ => ?_
    subst hv
    refine ⟨(k, ()), rfl, trivial, ?_⟩
    have := pdq_all (sortTxn_ok hg) (sortTxn_impl _) (sortTxn_ok2 _) (ltX_ok f g) (toX _ ⟨0, 0, 0, 0⟩) k (by rw [List.length_map]; exact h63) hs
    rw [List.length_map] at this
    refine wp_callS () this rfl fun w' h => ⟨trivial, rfl, rfl, hfin h⟩

end
end Go.Dec
