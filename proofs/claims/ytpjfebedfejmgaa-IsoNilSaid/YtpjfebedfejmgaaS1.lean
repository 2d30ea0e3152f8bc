/- Isolation: a list of transactions, sorted by a number of theirs. -/
import Derived.Test.YtpjfebedfejmgaaSortX
import Derived.Test.YtpjfebedfejmgaaOpsX
import Derived.Test.YtpjfebedfejmgaaOpsY
namespace Go.Dec
set_option linter.unusedVariables false
set_option linter.unusedSimpArgs false

/-- A transaction. -/
structure TxnA where
  pid : Int
  epoch : Int
  first : Int
  last : Int
def encX (t : TxnA) : List Value := [.int .i64 t.pid, .int .i64 t.epoch, .int .i64 t.first, .int .i64 t.last]
instance : EncA encX [.int .i64, .int .i64, .int .i64, .int .i64] (fun t => (t.pid, t.epoch, t.first, t.last, ())) := ⟨fun _ => rfl⟩
instance : EncN encX 4 := ⟨fun _ => rfl, by decide, by simp [encX, Value.oneCell']⟩
instance : EncF encX 0 (.int .i64) (fun t => t.pid) := ⟨fun _ => rfl⟩
instance : EncF encX 1 (.int .i64) (fun t => t.epoch) := ⟨fun _ => rfl⟩
instance : EncF encX 2 (.int .i64) (fun t => t.first) := ⟨fun _ => rfl⟩
instance : EncF encX 3 (.int .i64) (fun t => t.last) := ⟨fun _ => rfl⟩

def sortTxn (cmp : Value) : SortI where
  T := T.iso_Txn
  s := .agg [.int .i64, .int .i64, .int .i64, .int .i64]
  sz := 4
  less := fun x y k => .callv cmp [.agg #[.int .i64 x.1, .int .i64 x.2.1, .int .i64 x.2.2.1, .int .i64 x.2.2.2.1], .agg #[.int .i64 y.1, .int .i64 y.2.1, .int .i64 y.2.2.1, .int .i64 y.2.2.2.1]] (sI .i64) (u1 fun n => k (decide (n < 0)))
  ex := [cmp]
  xs := T.slices_xorshift
  ti := T.int
  fNext := F.slices_xorshift_Next
  fPow := F.slices_nextPowerOfTwo
  f_sift := F.slices_siftDownCmpFunc_iso_Txn
  f_heap := F.slices_heapSortCmpFunc_iso_Txn
  f_ins := F.slices_insertionSortCmpFunc_iso_Txn
  f_brk := F.slices_breakPatternsCmpFunc_iso_Txn
  f_rev := F.slices_reverseRangeCmpFunc_iso_Txn
  f_pins := F.slices_partialInsertionSortCmpFunc_iso_Txn
  f_peq := F.slices_partitionEqualCmpFunc_iso_Txn
  f_part := F.slices_partitionCmpFunc_iso_Txn
  f_ord2 := F.slices_order2CmpFunc_iso_Txn
  f_med := F.slices_medianCmpFunc_iso_Txn
  f_medj := F.slices_medianAdjacentCmpFunc_iso_Txn
  f_piv := F.slices_choosePivotCmpFunc_iso_Txn
  f_pdq := F.slices_pdqsortCmpFunc_iso_Txn

theorem sortTxn_impl (cmp : Value) : (sortTxn cmp).Impl P where
  sift h := slices_siftDownCmpFunc_iso_Txn_calls _ _ _ _ _ h
  heap h := slices_heapSortCmpFunc_iso_Txn_calls _ _ _ _ h
  ins h := slices_insertionSortCmpFunc_iso_Txn_calls _ _ _ _ h
  brk h := slices_breakPatternsCmpFunc_iso_Txn_calls _ _ _ _ h
  rev h := slices_reverseRangeCmpFunc_iso_Txn_calls _ _ _ _ h
  pins h := slices_partialInsertionSortCmpFunc_iso_Txn_calls _ _ _ _ h
  peq h := slices_partitionEqualCmpFunc_iso_Txn_calls _ _ _ _ _ h
  part h := slices_partitionCmpFunc_iso_Txn_calls _ _ _ _ _ h
  ord2 h := slices_order2CmpFunc_iso_Txn_calls _ _ _ _ _ h
  med h := slices_medianCmpFunc_iso_Txn_calls _ _ _ _ _ _ h
  medj h := slices_medianAdjacentCmpFunc_iso_Txn_calls _ _ _ _ h
  piv h := slices_choosePivotCmpFunc_iso_Txn_calls _ _ _ _ h
  pdq h := slices_pdqsortCmpFunc_iso_Txn_calls _ _ _ _ _ h

theorem sortTxn_ok2 (cmp : Value) : (sortTxn cmp).Ok2 P where
  one := inferInstanceAs (One P T.int)
  zer := inferInstanceAs (Zer P T.int _)
  xone := inferInstanceAs (One P T.slices_xorshift)
  xzer := inferInstanceAs (Zer P T.slices_xorshift _)
  next h := next_c h
  pow h1 h2 h := pow_c _ h1 h2 h

end Go.Dec
