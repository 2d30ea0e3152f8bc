/-
  No cell of these rows narrows 'for every input' (looked for: loops, veiled, ifaces, maps, wideKeys, modest, calm, conditions, laid).
  DERIVED. THE GIVEN ROWS OF THIS SEAT. 9 by the template 'for every input the law returns true; each argument reads behind the call as it read before'; 0 by the template 'total and deterministic' (their statements: YtogdpmpccmpekaaGreatTotals.lean).
  GIVEN WITH THE SEED: the statements are not yours to turn. If you find one false, say at which input.
  Laid BY PROGRAM, IN A SANDBOX (cutbox-rows.mjs): the forced cells as the released guide's own fill.sh prints them over the translation f6b63e2bab81176b… (all of the seat's roots in one cut). By AI agents, Wed Nov 11 2026. No macro, syntax, notation, axiom, sorry.
-/
import Derived.Test.YtogdpmpccmpekaaGreatChecked
import GoSem.Claim
import GoSem.ClaimJoined
import GoSem.ClaimMapViews
import Derived.JoinedTies
import Derived.KernelRfl
namespace Go.Proofs.YtogdpmpccmpekaaGreat
/- THE CELL 'sum', in the pinned program and in every row, IS THE sha256 OF THE DUMP (.gsa) THAT YtogdpmpccmpekaaGreatProg.lean LOADS. Nothing in Lean hashes anything: it is a label: what it is worth is what the hold of that sum in a sandbox is worth. -/
noncomputable def Tryz.pinned : Pinned := { name := "ytogdpmpccmpekaagreat", sum := "f6b63e2bab81176b352b1ba1642c6777c18540517f8bd7ff743b01434347a145", checked := Tryz.checked }
namespace Rows
def none {H : Type} : Left H := { results := [], args := [] }

/-- 'towpathlaw14.OffsetsHold': WHATEVER THE INPUT: true; the input reads as it did. -/
def offsetsHoldSpec : ChangeSpec := { name := "offsetsHold", fn := fun _ => fun
  | [d] => { results := [.lit (.bool true)], args := [d] }
  | _ => none }
def offsetsHoldRow : OpenClaim := { program := "ytogdpmpccmpekaagreat", sum := "f6b63e2bab81176b352b1ba1642c6777c18540517f8bd7ff743b01434347a145", func := "towpath/towpathlaw14.OffsetsHold", spec := "offsetsHold", inPlace := ["slices.overlaps[towpath/rec.At]"], unfollowed := true, recurses := true, plainKeys := false, apart := false }
def OffsetsHoldSaid : Prop := offsetsHoldRow.holds Tryz.pinned (OpenSpec.ofChange offsetsHoldSpec)

/-- ITS FALSE NEIGHBOUR: 'it returns false'. Refute it at one input. -/
def offsetsHoldWrong : ChangeSpec := { name := "offsetsHold", fn := fun _ => fun
  | [d] => { results := [.lit (.bool false)], args := [d] }
  | _ => none }
def OffsetsHoldWrongFalsely : Prop := offsetsHoldRow.holds Tryz.pinned (OpenSpec.ofChange offsetsHoldWrong)

/-- 'towpathlaw15.TxnNews': WHATEVER THE INPUT: true; the input reads as it did. -/
def txnNewsSpec : ChangeSpec := { name := "txnNews", fn := fun _ => fun
  | [d1, d2, d3, d4, d5, d6] => { results := [.lit (.bool true)], args := [d1, d2, d3, d4, d5, d6] }
  | _ => none }
def txnNewsRow : OpenClaim := { program := "ytogdpmpccmpekaagreat", sum := "f6b63e2bab81176b352b1ba1642c6777c18540517f8bd7ff743b01434347a145", func := "towpath/towpathlaw15.TxnNews", spec := "txnNews", inPlace := ["slices.overlaps[towpath/rec.At]"], unfollowed := true, recurses := true, plainKeys := false, apart := false }
def TxnNewsSaid : Prop := txnNewsRow.holds Tryz.pinned (OpenSpec.ofChange txnNewsSpec)

/-- ITS FALSE NEIGHBOUR: 'it returns false'. Refute it at one input. -/
def txnNewsWrong : ChangeSpec := { name := "txnNews", fn := fun _ => fun
  | [d1, d2, d3, d4, d5, d6] => { results := [.lit (.bool false)], args := [d1, d2, d3, d4, d5, d6] }
  | _ => none }
def TxnNewsWrongFalsely : Prop := txnNewsRow.holds Tryz.pinned (OpenSpec.ofChange txnNewsWrong)

/-- 'towpathlaw15.TxnEnds': WHATEVER THE INPUT: true; the input reads as it did. -/
def txnEndsSpec : ChangeSpec := { name := "txnEnds", fn := fun _ => fun
  | [d1, d2, d3, d4] => { results := [.lit (.bool true)], args := [d1, d2, d3, d4] }
  | _ => none }
def txnEndsRow : OpenClaim := { program := "ytogdpmpccmpekaagreat", sum := "f6b63e2bab81176b352b1ba1642c6777c18540517f8bd7ff743b01434347a145", func := "towpath/towpathlaw15.TxnEnds", spec := "txnEnds", inPlace := ["slices.overlaps[towpath/rec.At]"], unfollowed := true, recurses := true, plainKeys := false, apart := false }
def TxnEndsSaid : Prop := txnEndsRow.holds Tryz.pinned (OpenSpec.ofChange txnEndsSpec)

/-- ITS FALSE NEIGHBOUR: 'it returns false'. Refute it at one input. -/
def txnEndsWrong : ChangeSpec := { name := "txnEnds", fn := fun _ => fun
  | [d1, d2, d3, d4] => { results := [.lit (.bool false)], args := [d1, d2, d3, d4] }
  | _ => none }
def TxnEndsWrongFalsely : Prop := txnEndsRow.holds Tryz.pinned (OpenSpec.ofChange txnEndsWrong)

/-- 'towpathlaw15.TxnPlays': WHATEVER THE INPUT: true; the input reads as it did. -/
def txnPlaysSpec : ChangeSpec := { name := "txnPlays", fn := fun _ => fun
  | [d1, d2, d3, d4] => { results := [.lit (.bool true)], args := [d1, d2, d3, d4] }
  | _ => none }
def txnPlaysRow : OpenClaim := { program := "ytogdpmpccmpekaagreat", sum := "f6b63e2bab81176b352b1ba1642c6777c18540517f8bd7ff743b01434347a145", func := "towpath/towpathlaw15.TxnPlays", spec := "txnPlays", inPlace := ["slices.overlaps[towpath/rec.At]"], unfollowed := true, recurses := true, plainKeys := false, apart := false }
def TxnPlaysSaid : Prop := txnPlaysRow.holds Tryz.pinned (OpenSpec.ofChange txnPlaysSpec)

/-- ITS FALSE NEIGHBOUR: 'it returns false'. Refute it at one input. -/
def txnPlaysWrong : ChangeSpec := { name := "txnPlays", fn := fun _ => fun
  | [d1, d2, d3, d4] => { results := [.lit (.bool false)], args := [d1, d2, d3, d4] }
  | _ => none }
def TxnPlaysWrongFalsely : Prop := txnPlaysRow.holds Tryz.pinned (OpenSpec.ofChange txnPlaysWrong)

/-- 'towpathlaw15.TxnFenced': WHATEVER THE INPUT: true; the input reads as it did. -/
def txnFencedSpec : ChangeSpec := { name := "txnFenced", fn := fun _ => fun
  | [d1, d2, d3] => { results := [.lit (.bool true)], args := [d1, d2, d3] }
  | _ => none }
def txnFencedRow : OpenClaim := { program := "ytogdpmpccmpekaagreat", sum := "f6b63e2bab81176b352b1ba1642c6777c18540517f8bd7ff743b01434347a145", func := "towpath/towpathlaw15.TxnFenced", spec := "txnFenced", inPlace := ["slices.overlaps[towpath/rec.At]"], unfollowed := true, recurses := true, plainKeys := false, apart := false }
def TxnFencedSaid : Prop := txnFencedRow.holds Tryz.pinned (OpenSpec.ofChange txnFencedSpec)

/-- ITS FALSE NEIGHBOUR: 'it returns false'. Refute it at one input. -/
def txnFencedWrong : ChangeSpec := { name := "txnFenced", fn := fun _ => fun
  | [d1, d2, d3] => { results := [.lit (.bool false)], args := [d1, d2, d3] }
  | _ => none }
def TxnFencedWrongFalsely : Prop := txnFencedRow.holds Tryz.pinned (OpenSpec.ofChange txnFencedWrong)

/-- 'towpathlaw15.TxnFull': WHATEVER THE INPUT: true; the input reads as it did. -/
def txnFullSpec : ChangeSpec := { name := "txnFull", fn := fun _ => fun
  | [d1, d2, d3] => { results := [.lit (.bool true)], args := [d1, d2, d3] }
  | _ => none }
def txnFullRow : OpenClaim := { program := "ytogdpmpccmpekaagreat", sum := "f6b63e2bab81176b352b1ba1642c6777c18540517f8bd7ff743b01434347a145", func := "towpath/towpathlaw15.TxnFull", spec := "txnFull", inPlace := ["slices.overlaps[towpath/rec.At]"], unfollowed := true, recurses := true, plainKeys := false, apart := false }
def TxnFullSaid : Prop := txnFullRow.holds Tryz.pinned (OpenSpec.ofChange txnFullSpec)

/-- ITS FALSE NEIGHBOUR: 'it returns false'. Refute it at one input. -/
def txnFullWrong : ChangeSpec := { name := "txnFull", fn := fun _ => fun
  | [d1, d2, d3] => { results := [.lit (.bool false)], args := [d1, d2, d3] }
  | _ => none }
def TxnFullWrongFalsely : Prop := txnFullRow.holds Tryz.pinned (OpenSpec.ofChange txnFullWrong)

/-- 'towpathlaw15.TxnNil': WHATEVER THE INPUT: true; the input reads as it did. -/
def txnNilSpec : ChangeSpec := { name := "txnNil", fn := fun _ => fun
  | [d1, d2, d3, d4] => { results := [.lit (.bool true)], args := [d1, d2, d3, d4] }
  | _ => none }
def txnNilRow : OpenClaim := { program := "ytogdpmpccmpekaagreat", sum := "f6b63e2bab81176b352b1ba1642c6777c18540517f8bd7ff743b01434347a145", func := "towpath/towpathlaw15.TxnNil", spec := "txnNil", inPlace := ["slices.overlaps[towpath/rec.At]"], unfollowed := true, recurses := true, plainKeys := false, apart := false }
def TxnNilSaid : Prop := txnNilRow.holds Tryz.pinned (OpenSpec.ofChange txnNilSpec)

/-- ITS FALSE NEIGHBOUR: 'it returns false'. Refute it at one input. -/
def txnNilWrong : ChangeSpec := { name := "txnNil", fn := fun _ => fun
  | [d1, d2, d3, d4] => { results := [.lit (.bool false)], args := [d1, d2, d3, d4] }
  | _ => none }
def TxnNilWrongFalsely : Prop := txnNilRow.holds Tryz.pinned (OpenSpec.ofChange txnNilWrong)

/-- 'towpathlaw15.TxnOneEnd': WHATEVER THE INPUT: true; the input reads as it did. -/
def txnOneEndSpec : ChangeSpec := { name := "txnOneEnd", fn := fun _ => fun
  | [d1, d2, d3, d4] => { results := [.lit (.bool true)], args := [d1, d2, d3, d4] }
  | _ => none }
def txnOneEndRow : OpenClaim := { program := "ytogdpmpccmpekaagreat", sum := "f6b63e2bab81176b352b1ba1642c6777c18540517f8bd7ff743b01434347a145", func := "towpath/towpathlaw15.TxnOneEnd", spec := "txnOneEnd", inPlace := ["slices.overlaps[towpath/rec.At]"], unfollowed := true, recurses := true, plainKeys := false, apart := false }
def TxnOneEndSaid : Prop := txnOneEndRow.holds Tryz.pinned (OpenSpec.ofChange txnOneEndSpec)

/-- ITS FALSE NEIGHBOUR: 'it returns false'. Refute it at one input. -/
def txnOneEndWrong : ChangeSpec := { name := "txnOneEnd", fn := fun _ => fun
  | [d1, d2, d3, d4] => { results := [.lit (.bool false)], args := [d1, d2, d3, d4] }
  | _ => none }
def TxnOneEndWrongFalsely : Prop := txnOneEndRow.holds Tryz.pinned (OpenSpec.ofChange txnOneEndWrong)

/-- 'towpathlaw15.TxnLasts': WHATEVER THE INPUT: true; the input reads as it did. -/
def txnLastsSpec : ChangeSpec := { name := "txnLasts", fn := fun _ => fun
  | [d1, d2, d3, d4, d5] => { results := [.lit (.bool true)], args := [d1, d2, d3, d4, d5] }
  | _ => none }
def txnLastsRow : OpenClaim := { program := "ytogdpmpccmpekaagreat", sum := "f6b63e2bab81176b352b1ba1642c6777c18540517f8bd7ff743b01434347a145", func := "towpath/towpathlaw15.TxnLasts", spec := "txnLasts", inPlace := ["slices.overlaps[towpath/rec.At]"], unfollowed := true, recurses := true, plainKeys := false, apart := false }
def TxnLastsSaid : Prop := txnLastsRow.holds Tryz.pinned (OpenSpec.ofChange txnLastsSpec)

/-- ITS FALSE NEIGHBOUR: 'it returns false'. Refute it at one input. -/
def txnLastsWrong : ChangeSpec := { name := "txnLasts", fn := fun _ => fun
  | [d1, d2, d3, d4, d5] => { results := [.lit (.bool false)], args := [d1, d2, d3, d4, d5] }
  | _ => none }
def TxnLastsWrongFalsely : Prop := txnLastsRow.holds Tryz.pinned (OpenSpec.ofChange txnLastsWrong)

/- THE SECOND FORM. 'bulk': how many values and letters a reading holds, each counted each time it is reached (what is shared counts as often as it is met; a slice's spare places count too). A statement '..UptoSaid' is the law's where the arguments, and the package variables that the reading takes, are together of bulk at most 1048576: NARROWER than '..Said'. Prove '..Said' where nothing that the law and all that it calls make is longer than what came in: it says more and counts as full. Else prove '..UptoSaid'. A law counts once. -/
mutual
def uptoBulk {H : Type} : DataW H → Nat
  | .lit (.string bytes) => bytes.length + 1
  | .lit _ => 1
  | .nil => 1
  | .ptr d => uptoBulk d + 1
  | .slice elems spare => uptoBulkAll elems + uptoBulkAll spare + 1
  | .agg parts => uptoBulkAll parts + 1
  | .iface _ d => uptoBulk d + 1
  | .map entries => uptoBulkEntries entries + 1
  | .held _ => 1
def uptoBulkAll {H : Type} : List (DataW H) → Nat
  | [] => 0
  | d :: r => uptoBulk d + uptoBulkAll r
def uptoBulkEntries {H : Type} : List (Lit × DataW H) → Nat
  | [] => 0
  | x :: r => uptoBulkEntry x + uptoBulkEntries r
def uptoBulkEntry {H : Type} : Lit × DataW H → Nat
  | (.string bytes, d) => bytes.length + uptoBulk d + 1
  | (_, d) => uptoBulk d + 1
 end
def uptoSmall : (H : Type) → List (DataW H) → Bool := fun _ ds => decide (uptoBulkAll ds ≤ 1048576)
def OpenSpec.upto (s : _root_.Go.ChangeSpec) : _root_.Go.OpenSpec := { _root_.Go.OpenSpec.ofChange s with cond := some uptoSmall }

/-- 'towpathlaw14.OffsetsHold', WHERE WHAT IT READS IS OF BULK AT MOST 1048576: true; the input reads as it did. -/
def offsetsHoldUptoRow : OpenClaim := { program := "ytogdpmpccmpekaagreat", sum := "f6b63e2bab81176b352b1ba1642c6777c18540517f8bd7ff743b01434347a145", func := "towpath/towpathlaw14.OffsetsHold", spec := "offsetsHold", inPlace := ["slices.overlaps[towpath/rec.At]"], unfollowed := true, recurses := true, plainKeys := false, apart := false, narrowed := true }
def OffsetsHoldUptoSaid : Prop := offsetsHoldUptoRow.holds Tryz.pinned (OpenSpec.upto offsetsHoldSpec)

/-- 'towpathlaw15.TxnNews', WHERE WHAT IT READS IS OF BULK AT MOST 1048576: true; the input reads as it did. -/
def txnNewsUptoRow : OpenClaim := { program := "ytogdpmpccmpekaagreat", sum := "f6b63e2bab81176b352b1ba1642c6777c18540517f8bd7ff743b01434347a145", func := "towpath/towpathlaw15.TxnNews", spec := "txnNews", inPlace := ["slices.overlaps[towpath/rec.At]"], unfollowed := true, recurses := true, plainKeys := false, apart := false, narrowed := true }
def TxnNewsUptoSaid : Prop := txnNewsUptoRow.holds Tryz.pinned (OpenSpec.upto txnNewsSpec)

/-- 'towpathlaw15.TxnEnds', WHERE WHAT IT READS IS OF BULK AT MOST 1048576: true; the input reads as it did. -/
def txnEndsUptoRow : OpenClaim := { program := "ytogdpmpccmpekaagreat", sum := "f6b63e2bab81176b352b1ba1642c6777c18540517f8bd7ff743b01434347a145", func := "towpath/towpathlaw15.TxnEnds", spec := "txnEnds", inPlace := ["slices.overlaps[towpath/rec.At]"], unfollowed := true, recurses := true, plainKeys := false, apart := false, narrowed := true }
def TxnEndsUptoSaid : Prop := txnEndsUptoRow.holds Tryz.pinned (OpenSpec.upto txnEndsSpec)

/-- 'towpathlaw15.TxnPlays', WHERE WHAT IT READS IS OF BULK AT MOST 1048576: true; the input reads as it did. -/
def txnPlaysUptoRow : OpenClaim := { program := "ytogdpmpccmpekaagreat", sum := "f6b63e2bab81176b352b1ba1642c6777c18540517f8bd7ff743b01434347a145", func := "towpath/towpathlaw15.TxnPlays", spec := "txnPlays", inPlace := ["slices.overlaps[towpath/rec.At]"], unfollowed := true, recurses := true, plainKeys := false, apart := false, narrowed := true }
def TxnPlaysUptoSaid : Prop := txnPlaysUptoRow.holds Tryz.pinned (OpenSpec.upto txnPlaysSpec)

/-- 'towpathlaw15.TxnFenced', WHERE WHAT IT READS IS OF BULK AT MOST 1048576: true; the input reads as it did. -/
def txnFencedUptoRow : OpenClaim := { program := "ytogdpmpccmpekaagreat", sum := "f6b63e2bab81176b352b1ba1642c6777c18540517f8bd7ff743b01434347a145", func := "towpath/towpathlaw15.TxnFenced", spec := "txnFenced", inPlace := ["slices.overlaps[towpath/rec.At]"], unfollowed := true, recurses := true, plainKeys := false, apart := false, narrowed := true }
def TxnFencedUptoSaid : Prop := txnFencedUptoRow.holds Tryz.pinned (OpenSpec.upto txnFencedSpec)

/-- 'towpathlaw15.TxnFull', WHERE WHAT IT READS IS OF BULK AT MOST 1048576: true; the input reads as it did. -/
def txnFullUptoRow : OpenClaim := { program := "ytogdpmpccmpekaagreat", sum := "f6b63e2bab81176b352b1ba1642c6777c18540517f8bd7ff743b01434347a145", func := "towpath/towpathlaw15.TxnFull", spec := "txnFull", inPlace := ["slices.overlaps[towpath/rec.At]"], unfollowed := true, recurses := true, plainKeys := false, apart := false, narrowed := true }
def TxnFullUptoSaid : Prop := txnFullUptoRow.holds Tryz.pinned (OpenSpec.upto txnFullSpec)

/-- 'towpathlaw15.TxnNil', WHERE WHAT IT READS IS OF BULK AT MOST 1048576: true; the input reads as it did. -/
def txnNilUptoRow : OpenClaim := { program := "ytogdpmpccmpekaagreat", sum := "f6b63e2bab81176b352b1ba1642c6777c18540517f8bd7ff743b01434347a145", func := "towpath/towpathlaw15.TxnNil", spec := "txnNil", inPlace := ["slices.overlaps[towpath/rec.At]"], unfollowed := true, recurses := true, plainKeys := false, apart := false, narrowed := true }
def TxnNilUptoSaid : Prop := txnNilUptoRow.holds Tryz.pinned (OpenSpec.upto txnNilSpec)

/-- 'towpathlaw15.TxnOneEnd', WHERE WHAT IT READS IS OF BULK AT MOST 1048576: true; the input reads as it did. -/
def txnOneEndUptoRow : OpenClaim := { program := "ytogdpmpccmpekaagreat", sum := "f6b63e2bab81176b352b1ba1642c6777c18540517f8bd7ff743b01434347a145", func := "towpath/towpathlaw15.TxnOneEnd", spec := "txnOneEnd", inPlace := ["slices.overlaps[towpath/rec.At]"], unfollowed := true, recurses := true, plainKeys := false, apart := false, narrowed := true }
def TxnOneEndUptoSaid : Prop := txnOneEndUptoRow.holds Tryz.pinned (OpenSpec.upto txnOneEndSpec)

/-- 'towpathlaw15.TxnLasts', WHERE WHAT IT READS IS OF BULK AT MOST 1048576: true; the input reads as it did. -/
def txnLastsUptoRow : OpenClaim := { program := "ytogdpmpccmpekaagreat", sum := "f6b63e2bab81176b352b1ba1642c6777c18540517f8bd7ff743b01434347a145", func := "towpath/towpathlaw15.TxnLasts", spec := "txnLasts", inPlace := ["slices.overlaps[towpath/rec.At]"], unfollowed := true, recurses := true, plainKeys := false, apart := false, narrowed := true }
def TxnLastsUptoSaid : Prop := txnLastsUptoRow.holds Tryz.pinned (OpenSpec.upto txnLastsSpec)

end Rows
end Go.Proofs.YtogdpmpccmpekaaGreat
