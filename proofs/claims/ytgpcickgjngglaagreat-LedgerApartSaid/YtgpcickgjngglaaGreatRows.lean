/-
  No cell of these rows narrows 'for every input' (looked for: loops, veiled, ifaces, maps, wideKeys, modest, calm, conditions, laid).
  DERIVED. THE GIVEN ROWS OF THIS SEAT. 8 by the template 'for every input the law returns true; each argument reads behind the call as it read before'; 0 by the template 'total and deterministic' (their statements: YtgpcickgjngglaaGreatTotals.lean).
  GIVEN WITH THE SEED: the statements are not yours to turn. If you find one false, say at which input.
  Laid BY PROGRAM, IN A SANDBOX (cutbox-rows.mjs): the forced cells as the released guide's own fill.sh prints them over the translation 290bdcec4480b818… (all of the seat's roots in one cut). By AI agents, Wed Nov 11 2026. No macro, syntax, notation, axiom, sorry.
-/
import Derived.Test.YtgpcickgjngglaaGreatChecked
import GoSem.Claim
import GoSem.ClaimJoined
import GoSem.ClaimMapViews
import Derived.JoinedTies
import Derived.KernelRfl
namespace Go.Proofs.YtgpcickgjngglaaGreat
/- THE CELL 'sum', in the pinned program and in every row, IS THE sha256 OF THE DUMP (.gsa) THAT YtgpcickgjngglaaGreatProg.lean LOADS. Nothing in Lean hashes anything: it is a label: what it is worth is what the hold of that sum in a sandbox is worth. -/
noncomputable def Tryz.pinned : Pinned := { name := "ytgpcickgjngglaagreat", sum := "290bdcec4480b8182da5eae41ffd688da854458731231dc68db6dc53ecd2ab86", checked := Tryz.checked }
namespace Rows
def none {H : Type} : Left H := { results := [], args := [] }

/-- 'towpathlaw13.LedgerFull': WHATEVER THE INPUT: true; the input reads as it did. -/
def ledgerFullSpec : ChangeSpec := { name := "ledgerFull", fn := fun _ => fun
  | [d1, d2, d3] => { results := [.lit (.bool true)], args := [d1, d2, d3] }
  | _ => none }
def ledgerFullRow : OpenClaim := { program := "ytgpcickgjngglaagreat", sum := "290bdcec4480b8182da5eae41ffd688da854458731231dc68db6dc53ecd2ab86", func := "towpath/towpathlaw13.LedgerFull", spec := "ledgerFull", inPlace := ["slices.overlaps[towpath/rec.At]"], unfollowed := true, recurses := true, plainKeys := false, apart := false }
def LedgerFullSaid : Prop := ledgerFullRow.holds Tryz.pinned (OpenSpec.ofChange ledgerFullSpec)

/-- ITS FALSE NEIGHBOUR: 'it returns false'. Refute it at one input. -/
def ledgerFullWrong : ChangeSpec := { name := "ledgerFull", fn := fun _ => fun
  | [d1, d2, d3] => { results := [.lit (.bool false)], args := [d1, d2, d3] }
  | _ => none }
def LedgerFullWrongFalsely : Prop := ledgerFullRow.holds Tryz.pinned (OpenSpec.ofChange ledgerFullWrong)

/-- 'towpathlaw13.LedgerApart': WHATEVER THE INPUT: true; the input reads as it did. -/
def ledgerApartSpec : ChangeSpec := { name := "ledgerApart", fn := fun _ => fun
  | [d1, d2, d3] => { results := [.lit (.bool true)], args := [d1, d2, d3] }
  | _ => none }
def ledgerApartRow : OpenClaim := { program := "ytgpcickgjngglaagreat", sum := "290bdcec4480b8182da5eae41ffd688da854458731231dc68db6dc53ecd2ab86", func := "towpath/towpathlaw13.LedgerApart", spec := "ledgerApart", inPlace := ["slices.overlaps[towpath/rec.At]"], unfollowed := true, recurses := true, plainKeys := false, apart := false }
def LedgerApartSaid : Prop := ledgerApartRow.holds Tryz.pinned (OpenSpec.ofChange ledgerApartSpec)

/-- ITS FALSE NEIGHBOUR: 'it returns false'. Refute it at one input. -/
def ledgerApartWrong : ChangeSpec := { name := "ledgerApart", fn := fun _ => fun
  | [d1, d2, d3] => { results := [.lit (.bool false)], args := [d1, d2, d3] }
  | _ => none }
def LedgerApartWrongFalsely : Prop := ledgerApartRow.holds Tryz.pinned (OpenSpec.ofChange ledgerApartWrong)

/-- 'towpathlaw14.OffsetsRecords': WHATEVER THE INPUT: true; the input reads as it did. -/
def offsetsRecordsSpec : ChangeSpec := { name := "offsetsRecords", fn := fun _ => fun
  | [d1, d2, d3] => { results := [.lit (.bool true)], args := [d1, d2, d3] }
  | _ => none }
def offsetsRecordsRow : OpenClaim := { program := "ytgpcickgjngglaagreat", sum := "290bdcec4480b8182da5eae41ffd688da854458731231dc68db6dc53ecd2ab86", func := "towpath/towpathlaw14.OffsetsRecords", spec := "offsetsRecords", inPlace := ["slices.overlaps[towpath/rec.At]"], unfollowed := true, recurses := true, plainKeys := false, apart := false }
def OffsetsRecordsSaid : Prop := offsetsRecordsRow.holds Tryz.pinned (OpenSpec.ofChange offsetsRecordsSpec)

/-- ITS FALSE NEIGHBOUR: 'it returns false'. Refute it at one input. -/
def offsetsRecordsWrong : ChangeSpec := { name := "offsetsRecords", fn := fun _ => fun
  | [d1, d2, d3] => { results := [.lit (.bool false)], args := [d1, d2, d3] }
  | _ => none }
def OffsetsRecordsWrongFalsely : Prop := offsetsRecordsRow.holds Tryz.pinned (OpenSpec.ofChange offsetsRecordsWrong)

/-- 'towpathlaw14.OffsetsHold': WHATEVER THE INPUT: true; the input reads as it did. -/
def offsetsHoldSpec : ChangeSpec := { name := "offsetsHold", fn := fun _ => fun
  | [d] => { results := [.lit (.bool true)], args := [d] }
  | _ => none }
def offsetsHoldRow : OpenClaim := { program := "ytgpcickgjngglaagreat", sum := "290bdcec4480b8182da5eae41ffd688da854458731231dc68db6dc53ecd2ab86", func := "towpath/towpathlaw14.OffsetsHold", spec := "offsetsHold", inPlace := ["slices.overlaps[towpath/rec.At]"], unfollowed := true, recurses := true, plainKeys := false, apart := false }
def OffsetsHoldSaid : Prop := offsetsHoldRow.holds Tryz.pinned (OpenSpec.ofChange offsetsHoldSpec)

/-- ITS FALSE NEIGHBOUR: 'it returns false'. Refute it at one input. -/
def offsetsHoldWrong : ChangeSpec := { name := "offsetsHold", fn := fun _ => fun
  | [d] => { results := [.lit (.bool false)], args := [d] }
  | _ => none }
def OffsetsHoldWrongFalsely : Prop := offsetsHoldRow.holds Tryz.pinned (OpenSpec.ofChange offsetsHoldWrong)

/-- 'towpathlaw13.LedgerNil': WHATEVER THE INPUT: true; the input reads as it did. -/
def ledgerNilSpec : ChangeSpec := { name := "ledgerNil", fn := fun _ => fun
  | [d1, d2] => { results := [.lit (.bool true)], args := [d1, d2] }
  | _ => none }
def ledgerNilRow : OpenClaim := { program := "ytgpcickgjngglaagreat", sum := "290bdcec4480b8182da5eae41ffd688da854458731231dc68db6dc53ecd2ab86", func := "towpath/towpathlaw13.LedgerNil", spec := "ledgerNil", inPlace := ["slices.overlaps[towpath/rec.At]"], unfollowed := true, recurses := true, plainKeys := false, apart := false }
def LedgerNilSaid : Prop := ledgerNilRow.holds Tryz.pinned (OpenSpec.ofChange ledgerNilSpec)

/-- ITS FALSE NEIGHBOUR: 'it returns false'. Refute it at one input. -/
def ledgerNilWrong : ChangeSpec := { name := "ledgerNil", fn := fun _ => fun
  | [d1, d2] => { results := [.lit (.bool false)], args := [d1, d2] }
  | _ => none }
def LedgerNilWrongFalsely : Prop := ledgerNilRow.holds Tryz.pinned (OpenSpec.ofChange ledgerNilWrong)

/-- 'towpathlaw15.TxnNews': WHATEVER THE INPUT: true; the input reads as it did. -/
def txnNewsSpec : ChangeSpec := { name := "txnNews", fn := fun _ => fun
  | [d1, d2, d3, d4, d5, d6] => { results := [.lit (.bool true)], args := [d1, d2, d3, d4, d5, d6] }
  | _ => none }
def txnNewsRow : OpenClaim := { program := "ytgpcickgjngglaagreat", sum := "290bdcec4480b8182da5eae41ffd688da854458731231dc68db6dc53ecd2ab86", func := "towpath/towpathlaw15.TxnNews", spec := "txnNews", inPlace := ["slices.overlaps[towpath/rec.At]"], unfollowed := true, recurses := true, plainKeys := false, apart := false }
def TxnNewsSaid : Prop := txnNewsRow.holds Tryz.pinned (OpenSpec.ofChange txnNewsSpec)

/-- ITS FALSE NEIGHBOUR: 'it returns false'. Refute it at one input. -/
def txnNewsWrong : ChangeSpec := { name := "txnNews", fn := fun _ => fun
  | [d1, d2, d3, d4, d5, d6] => { results := [.lit (.bool false)], args := [d1, d2, d3, d4, d5, d6] }
  | _ => none }
def TxnNewsWrongFalsely : Prop := txnNewsRow.holds Tryz.pinned (OpenSpec.ofChange txnNewsWrong)

/-- 'towpathlaw15.TxnNil': WHATEVER THE INPUT: true; the input reads as it did. -/
def txnNilSpec : ChangeSpec := { name := "txnNil", fn := fun _ => fun
  | [d1, d2, d3, d4] => { results := [.lit (.bool true)], args := [d1, d2, d3, d4] }
  | _ => none }
def txnNilRow : OpenClaim := { program := "ytgpcickgjngglaagreat", sum := "290bdcec4480b8182da5eae41ffd688da854458731231dc68db6dc53ecd2ab86", func := "towpath/towpathlaw15.TxnNil", spec := "txnNil", inPlace := ["slices.overlaps[towpath/rec.At]"], unfollowed := true, recurses := true, plainKeys := false, apart := false }
def TxnNilSaid : Prop := txnNilRow.holds Tryz.pinned (OpenSpec.ofChange txnNilSpec)

/-- ITS FALSE NEIGHBOUR: 'it returns false'. Refute it at one input. -/
def txnNilWrong : ChangeSpec := { name := "txnNil", fn := fun _ => fun
  | [d1, d2, d3, d4] => { results := [.lit (.bool false)], args := [d1, d2, d3, d4] }
  | _ => none }
def TxnNilWrongFalsely : Prop := txnNilRow.holds Tryz.pinned (OpenSpec.ofChange txnNilWrong)

/-- 'towpathlaw14.OffsetsNil': WHATEVER THE INPUT: true; the input reads as it did. -/
def offsetsNilSpec : ChangeSpec := { name := "offsetsNil", fn := fun _ => fun
  | [d1, d2, d3] => { results := [.lit (.bool true)], args := [d1, d2, d3] }
  | _ => none }
def offsetsNilRow : OpenClaim := { program := "ytgpcickgjngglaagreat", sum := "290bdcec4480b8182da5eae41ffd688da854458731231dc68db6dc53ecd2ab86", func := "towpath/towpathlaw14.OffsetsNil", spec := "offsetsNil", inPlace := ["slices.overlaps[towpath/rec.At]"], unfollowed := true, recurses := true, plainKeys := false, apart := false }
def OffsetsNilSaid : Prop := offsetsNilRow.holds Tryz.pinned (OpenSpec.ofChange offsetsNilSpec)

/-- ITS FALSE NEIGHBOUR: 'it returns false'. Refute it at one input. -/
def offsetsNilWrong : ChangeSpec := { name := "offsetsNil", fn := fun _ => fun
  | [d1, d2, d3] => { results := [.lit (.bool false)], args := [d1, d2, d3] }
  | _ => none }
def OffsetsNilWrongFalsely : Prop := offsetsNilRow.holds Tryz.pinned (OpenSpec.ofChange offsetsNilWrong)

/- THE SECOND FORM. 'bulk': how many values and letters a reading holds, each counted each time it is reached (what is shared counts as often as it is met; a slice's spare places count too). A statement '..UptoSaid' is the law's where the arguments, and the package variables that the reading takes, are together of bulk at most 1048576: NARROWER than '..Said'. Prove '..Said' where nothing that the law and all that it calls make is longer than what came in: it says more and counts as full. Else prove '..UptoSaid'. A law counts once. -/
mutual
def uptoBulk {H : Type} : DataW H → Nat
  | .lit (.string bytes) => bytes.length + 1
  | .lit _ => 1
  | .nil => 1
  | .ptr d => uptoBulk d + 1
  | .slice elems spare => uptoBulkAll elems + uptoBulkAll spare + 1
  | .agg parts => uptoBulkAll parts + 1
  | .iface _ d => uptoBulk d + 1
  | .map entries => uptoBulkEntries entries + 1
  | .held _ => 1
def uptoBulkAll {H : Type} : List (DataW H) → Nat
  | [] => 0
  | d :: r => uptoBulk d + uptoBulkAll r
def uptoBulkEntries {H : Type} : List (Lit × DataW H) → Nat
  | [] => 0
  | x :: r => uptoBulkEntry x + uptoBulkEntries r
def uptoBulkEntry {H : Type} : Lit × DataW H → Nat
  | (.string bytes, d) => bytes.length + uptoBulk d + 1
  | (_, d) => uptoBulk d + 1
 end
def uptoSmall : (H : Type) → List (DataW H) → Bool := fun _ ds => decide (uptoBulkAll ds ≤ 1048576)
def OpenSpec.upto (s : _root_.Go.ChangeSpec) : _root_.Go.OpenSpec := { _root_.Go.OpenSpec.ofChange s with cond := some uptoSmall }

/-- 'towpathlaw13.LedgerFull', WHERE WHAT IT READS IS OF BULK AT MOST 1048576: true; the input reads as it did. -/
def ledgerFullUptoRow : OpenClaim := { program := "ytgpcickgjngglaagreat", sum := "290bdcec4480b8182da5eae41ffd688da854458731231dc68db6dc53ecd2ab86", func := "towpath/towpathlaw13.LedgerFull", spec := "ledgerFull", inPlace := ["slices.overlaps[towpath/rec.At]"], unfollowed := true, recurses := true, plainKeys := false, apart := false, narrowed := true }
def LedgerFullUptoSaid : Prop := ledgerFullUptoRow.holds Tryz.pinned (OpenSpec.upto ledgerFullSpec)

/-- 'towpathlaw13.LedgerApart', WHERE WHAT IT READS IS OF BULK AT MOST 1048576: true; the input reads as it did. -/
def ledgerApartUptoRow : OpenClaim := { program := "ytgpcickgjngglaagreat", sum := "290bdcec4480b8182da5eae41ffd688da854458731231dc68db6dc53ecd2ab86", func := "towpath/towpathlaw13.LedgerApart", spec := "ledgerApart", inPlace := ["slices.overlaps[towpath/rec.At]"], unfollowed := true, recurses := true, plainKeys := false, apart := false, narrowed := true }
def LedgerApartUptoSaid : Prop := ledgerApartUptoRow.holds Tryz.pinned (OpenSpec.upto ledgerApartSpec)

/-- 'towpathlaw14.OffsetsRecords', WHERE WHAT IT READS IS OF BULK AT MOST 1048576: true; the input reads as it did. -/
def offsetsRecordsUptoRow : OpenClaim := { program := "ytgpcickgjngglaagreat", sum := "290bdcec4480b8182da5eae41ffd688da854458731231dc68db6dc53ecd2ab86", func := "towpath/towpathlaw14.OffsetsRecords", spec := "offsetsRecords", inPlace := ["slices.overlaps[towpath/rec.At]"], unfollowed := true, recurses := true, plainKeys := false, apart := false, narrowed := true }
def OffsetsRecordsUptoSaid : Prop := offsetsRecordsUptoRow.holds Tryz.pinned (OpenSpec.upto offsetsRecordsSpec)

/-- 'towpathlaw14.OffsetsHold', WHERE WHAT IT READS IS OF BULK AT MOST 1048576: true; the input reads as it did. -/
def offsetsHoldUptoRow : OpenClaim := { program := "ytgpcickgjngglaagreat", sum := "290bdcec4480b8182da5eae41ffd688da854458731231dc68db6dc53ecd2ab86", func := "towpath/towpathlaw14.OffsetsHold", spec := "offsetsHold", inPlace := ["slices.overlaps[towpath/rec.At]"], unfollowed := true, recurses := true, plainKeys := false, apart := false, narrowed := true }
def OffsetsHoldUptoSaid : Prop := offsetsHoldUptoRow.holds Tryz.pinned (OpenSpec.upto offsetsHoldSpec)

/-- 'towpathlaw13.LedgerNil', WHERE WHAT IT READS IS OF BULK AT MOST 1048576: true; the input reads as it did. -/
def ledgerNilUptoRow : OpenClaim := { program := "ytgpcickgjngglaagreat", sum := "290bdcec4480b8182da5eae41ffd688da854458731231dc68db6dc53ecd2ab86", func := "towpath/towpathlaw13.LedgerNil", spec := "ledgerNil", inPlace := ["slices.overlaps[towpath/rec.At]"], unfollowed := true, recurses := true, plainKeys := false, apart := false, narrowed := true }
def LedgerNilUptoSaid : Prop := ledgerNilUptoRow.holds Tryz.pinned (OpenSpec.upto ledgerNilSpec)

/-- 'towpathlaw15.TxnNews', WHERE WHAT IT READS IS OF BULK AT MOST 1048576: true; the input reads as it did. -/
def txnNewsUptoRow : OpenClaim := { program := "ytgpcickgjngglaagreat", sum := "290bdcec4480b8182da5eae41ffd688da854458731231dc68db6dc53ecd2ab86", func := "towpath/towpathlaw15.TxnNews", spec := "txnNews", inPlace := ["slices.overlaps[towpath/rec.At]"], unfollowed := true, recurses := true, plainKeys := false, apart := false, narrowed := true }
def TxnNewsUptoSaid : Prop := txnNewsUptoRow.holds Tryz.pinned (OpenSpec.upto txnNewsSpec)

/-- 'towpathlaw15.TxnNil', WHERE WHAT IT READS IS OF BULK AT MOST 1048576: true; the input reads as it did. -/
def txnNilUptoRow : OpenClaim := { program := "ytgpcickgjngglaagreat", sum := "290bdcec4480b8182da5eae41ffd688da854458731231dc68db6dc53ecd2ab86", func := "towpath/towpathlaw15.TxnNil", spec := "txnNil", inPlace := ["slices.overlaps[towpath/rec.At]"], unfollowed := true, recurses := true, plainKeys := false, apart := false, narrowed := true }
def TxnNilUptoSaid : Prop := txnNilUptoRow.holds Tryz.pinned (OpenSpec.upto txnNilSpec)

/-- 'towpathlaw14.OffsetsNil', WHERE WHAT IT READS IS OF BULK AT MOST 1048576: true; the input reads as it did. -/
def offsetsNilUptoRow : OpenClaim := { program := "ytgpcickgjngglaagreat", sum := "290bdcec4480b8182da5eae41ffd688da854458731231dc68db6dc53ecd2ab86", func := "towpath/towpathlaw14.OffsetsNil", spec := "offsetsNil", inPlace := ["slices.overlaps[towpath/rec.At]"], unfollowed := true, recurses := true, plainKeys := false, apart := false, narrowed := true }
def OffsetsNilUptoSaid : Prop := offsetsNilUptoRow.holds Tryz.pinned (OpenSpec.upto offsetsNilSpec)

end Rows
end Go.Proofs.YtgpcickgjngglaaGreat
