/-
  No cell of these rows narrows 'for every input' (looked for: loops, veiled, ifaces, maps, wideKeys, modest, calm, conditions, laid).
  DERIVED. THE GIVEN ROWS OF THIS SEAT. 10 by the template 'for every input the law returns true; each argument reads behind the call as it read before'; 0 by the template 'total and deterministic' (their statements: YtfnldnodhfkojaaGreatTotals.lean).
  GIVEN WITH THE SEED: the statements are not yours to turn. If you find one false, say at which input.
  Laid BY PROGRAM, IN A SANDBOX (cutbox-rows.mjs): the forced cells as the released guide's own fill.sh prints them over the translation c3172a6eece41dbf… (all of the seat's roots in one cut). By AI agents, Wed Nov 11 2026. No macro, syntax, notation, axiom, sorry.
-/
import Derived.Test.YtfnldnodhfkojaaGreatChecked
import GoSem.Claim
import GoSem.ClaimJoined
import GoSem.ClaimMapViews
import Derived.JoinedTies
import Derived.KernelRfl
namespace Go.Proofs.YtfnldnodhfkojaaGreat
/- THE CELL 'sum', in the pinned program and in every row, IS THE sha256 OF THE DUMP (.gsa) THAT YtfnldnodhfkojaaGreatProg.lean LOADS. Nothing in Lean hashes anything: it is a label: what it is worth is what the hold of that sum in a sandbox is worth. -/
noncomputable def Tryz.pinned : Pinned := { name := "ytfnldnodhfkojaagreat", sum := "c3172a6eece41dbfa418842f1dfa074241f48acb62e1a81dd5f2a524e7f6da9f", checked := Tryz.checked }
namespace Rows
def none {H : Type} : Left H := { results := [], args := [] }

/-- 'towpathlaw06.SeglogTimes': WHATEVER THE INPUT: true; the input reads as it did. -/
def seglogTimesSpec : ChangeSpec := { name := "seglogTimes", fn := fun _ => fun
  | [d1, d2, d3, d4] => { results := [.lit (.bool true)], args := [d1, d2, d3, d4] }
  | _ => none }
def seglogTimesRow : OpenClaim := { program := "ytfnldnodhfkojaagreat", sum := "c3172a6eece41dbfa418842f1dfa074241f48acb62e1a81dd5f2a524e7f6da9f", func := "towpath/towpathlaw06.SeglogTimes", spec := "seglogTimes", unfollowed := true, recurses := true, apart := false }
def SeglogTimesSaid : Prop := seglogTimesRow.holds Tryz.pinned (OpenSpec.ofChange seglogTimesSpec)

/-- ITS FALSE NEIGHBOUR: 'it returns false'. Refute it at one input. -/
def seglogTimesWrong : ChangeSpec := { name := "seglogTimes", fn := fun _ => fun
  | [d1, d2, d3, d4] => { results := [.lit (.bool false)], args := [d1, d2, d3, d4] }
  | _ => none }
def SeglogTimesWrongFalsely : Prop := seglogTimesRow.holds Tryz.pinned (OpenSpec.ofChange seglogTimesWrong)

/-- 'towpathlaw06.SeglogReads': WHATEVER THE INPUT: true; the input reads as it did. -/
def seglogReadsSpec : ChangeSpec := { name := "seglogReads", fn := fun _ => fun
  | [d1, d2, d3, d4, d5] => { results := [.lit (.bool true)], args := [d1, d2, d3, d4, d5] }
  | _ => none }
def seglogReadsRow : OpenClaim := { program := "ytfnldnodhfkojaagreat", sum := "c3172a6eece41dbfa418842f1dfa074241f48acb62e1a81dd5f2a524e7f6da9f", func := "towpath/towpathlaw06.SeglogReads", spec := "seglogReads", unfollowed := true, recurses := true, apart := false }
def SeglogReadsSaid : Prop := seglogReadsRow.holds Tryz.pinned (OpenSpec.ofChange seglogReadsSpec)

/-- ITS FALSE NEIGHBOUR: 'it returns false'. Refute it at one input. -/
def seglogReadsWrong : ChangeSpec := { name := "seglogReads", fn := fun _ => fun
  | [d1, d2, d3, d4, d5] => { results := [.lit (.bool false)], args := [d1, d2, d3, d4, d5] }
  | _ => none }
def SeglogReadsWrongFalsely : Prop := seglogReadsRow.holds Tryz.pinned (OpenSpec.ofChange seglogReadsWrong)

/-- 'towpathlaw06.SeglogApart': WHATEVER THE INPUT: true; the input reads as it did. -/
def seglogApartSpec : ChangeSpec := { name := "seglogApart", fn := fun _ => fun
  | [d1, d2, d3] => { results := [.lit (.bool true)], args := [d1, d2, d3] }
  | _ => none }
def seglogApartRow : OpenClaim := { program := "ytfnldnodhfkojaagreat", sum := "c3172a6eece41dbfa418842f1dfa074241f48acb62e1a81dd5f2a524e7f6da9f", func := "towpath/towpathlaw06.SeglogApart", spec := "seglogApart", unfollowed := true, recurses := true, apart := false }
def SeglogApartSaid : Prop := seglogApartRow.holds Tryz.pinned (OpenSpec.ofChange seglogApartSpec)

/-- ITS FALSE NEIGHBOUR: 'it returns false'. Refute it at one input. -/
def seglogApartWrong : ChangeSpec := { name := "seglogApart", fn := fun _ => fun
  | [d1, d2, d3] => { results := [.lit (.bool false)], args := [d1, d2, d3] }
  | _ => none }
def SeglogApartWrongFalsely : Prop := seglogApartRow.holds Tryz.pinned (OpenSpec.ofChange seglogApartWrong)

/-- 'towpathlaw06.SeglogForged': WHATEVER THE INPUT: true; the input reads as it did. -/
def seglogForgedSpec : ChangeSpec := { name := "seglogForged", fn := fun _ => fun
  | [d1, d2] => { results := [.lit (.bool true)], args := [d1, d2] }
  | _ => none }
def seglogForgedRow : OpenClaim := { program := "ytfnldnodhfkojaagreat", sum := "c3172a6eece41dbfa418842f1dfa074241f48acb62e1a81dd5f2a524e7f6da9f", func := "towpath/towpathlaw06.SeglogForged", spec := "seglogForged", unfollowed := true, recurses := true, apart := false }
def SeglogForgedSaid : Prop := seglogForgedRow.holds Tryz.pinned (OpenSpec.ofChange seglogForgedSpec)

/-- ITS FALSE NEIGHBOUR: 'it returns false'. Refute it at one input. -/
def seglogForgedWrong : ChangeSpec := { name := "seglogForged", fn := fun _ => fun
  | [d1, d2] => { results := [.lit (.bool false)], args := [d1, d2] }
  | _ => none }
def SeglogForgedWrongFalsely : Prop := seglogForgedRow.holds Tryz.pinned (OpenSpec.ofChange seglogForgedWrong)

/-- 'towpathlaw06.SeglogFull': WHATEVER THE INPUT: true; the input reads as it did. -/
def seglogFullSpec : ChangeSpec := { name := "seglogFull", fn := fun _ => fun
  | [d1, d2, d3] => { results := [.lit (.bool true)], args := [d1, d2, d3] }
  | _ => none }
def seglogFullRow : OpenClaim := { program := "ytfnldnodhfkojaagreat", sum := "c3172a6eece41dbfa418842f1dfa074241f48acb62e1a81dd5f2a524e7f6da9f", func := "towpath/towpathlaw06.SeglogFull", spec := "seglogFull", unfollowed := true, recurses := true, apart := false }
def SeglogFullSaid : Prop := seglogFullRow.holds Tryz.pinned (OpenSpec.ofChange seglogFullSpec)

/-- ITS FALSE NEIGHBOUR: 'it returns false'. Refute it at one input. -/
def seglogFullWrong : ChangeSpec := { name := "seglogFull", fn := fun _ => fun
  | [d1, d2, d3] => { results := [.lit (.bool false)], args := [d1, d2, d3] }
  | _ => none }
def SeglogFullWrongFalsely : Prop := seglogFullRow.holds Tryz.pinned (OpenSpec.ofChange seglogFullWrong)

/-- 'towpathlaw06.SeglogNews': WHATEVER THE INPUT: true; the input reads as it did. -/
def seglogNewsSpec : ChangeSpec := { name := "seglogNews", fn := fun _ => fun
  | [d1, d2, d3] => { results := [.lit (.bool true)], args := [d1, d2, d3] }
  | _ => none }
def seglogNewsRow : OpenClaim := { program := "ytfnldnodhfkojaagreat", sum := "c3172a6eece41dbfa418842f1dfa074241f48acb62e1a81dd5f2a524e7f6da9f", func := "towpath/towpathlaw06.SeglogNews", spec := "seglogNews", unfollowed := true, recurses := true, apart := false }
def SeglogNewsSaid : Prop := seglogNewsRow.holds Tryz.pinned (OpenSpec.ofChange seglogNewsSpec)

/-- ITS FALSE NEIGHBOUR: 'it returns false'. Refute it at one input. -/
def seglogNewsWrong : ChangeSpec := { name := "seglogNews", fn := fun _ => fun
  | [d1, d2, d3] => { results := [.lit (.bool false)], args := [d1, d2, d3] }
  | _ => none }
def SeglogNewsWrongFalsely : Prop := seglogNewsRow.holds Tryz.pinned (OpenSpec.ofChange seglogNewsWrong)

/-- 'towpathlaw06.SeglogCrash': WHATEVER THE INPUT: true; the input reads as it did. -/
def seglogCrashSpec : ChangeSpec := { name := "seglogCrash", fn := fun _ => fun
  | [d1, d2, d3, d4, d5, d6] => { results := [.lit (.bool true)], args := [d1, d2, d3, d4, d5, d6] }
  | _ => none }
def seglogCrashRow : OpenClaim := { program := "ytfnldnodhfkojaagreat", sum := "c3172a6eece41dbfa418842f1dfa074241f48acb62e1a81dd5f2a524e7f6da9f", func := "towpath/towpathlaw06.SeglogCrash", spec := "seglogCrash", unfollowed := true, recurses := true, apart := false }
def SeglogCrashSaid : Prop := seglogCrashRow.holds Tryz.pinned (OpenSpec.ofChange seglogCrashSpec)

/-- ITS FALSE NEIGHBOUR: 'it returns false'. Refute it at one input. -/
def seglogCrashWrong : ChangeSpec := { name := "seglogCrash", fn := fun _ => fun
  | [d1, d2, d3, d4, d5, d6] => { results := [.lit (.bool false)], args := [d1, d2, d3, d4, d5, d6] }
  | _ => none }
def SeglogCrashWrongFalsely : Prop := seglogCrashRow.holds Tryz.pinned (OpenSpec.ofChange seglogCrashWrong)

/-- 'towpathlaw06.SeglogSwaps': WHATEVER THE INPUT: true; the input reads as it did. -/
def seglogSwapsSpec : ChangeSpec := { name := "seglogSwaps", fn := fun _ => fun
  | [d1, d2, d3, d4, d5, d6] => { results := [.lit (.bool true)], args := [d1, d2, d3, d4, d5, d6] }
  | _ => none }
def seglogSwapsRow : OpenClaim := { program := "ytfnldnodhfkojaagreat", sum := "c3172a6eece41dbfa418842f1dfa074241f48acb62e1a81dd5f2a524e7f6da9f", func := "towpath/towpathlaw06.SeglogSwaps", spec := "seglogSwaps", unfollowed := true, recurses := true, apart := false }
def SeglogSwapsSaid : Prop := seglogSwapsRow.holds Tryz.pinned (OpenSpec.ofChange seglogSwapsSpec)

/-- ITS FALSE NEIGHBOUR: 'it returns false'. Refute it at one input. -/
def seglogSwapsWrong : ChangeSpec := { name := "seglogSwaps", fn := fun _ => fun
  | [d1, d2, d3, d4, d5, d6] => { results := [.lit (.bool false)], args := [d1, d2, d3, d4, d5, d6] }
  | _ => none }
def SeglogSwapsWrongFalsely : Prop := seglogSwapsRow.holds Tryz.pinned (OpenSpec.ofChange seglogSwapsWrong)

/-- 'towpathlaw06.SeglogPlays': WHATEVER THE INPUT: true; the input reads as it did. -/
def seglogPlaysSpec : ChangeSpec := { name := "seglogPlays", fn := fun _ => fun
  | [d1, d2, d3] => { results := [.lit (.bool true)], args := [d1, d2, d3] }
  | _ => none }
def seglogPlaysRow : OpenClaim := { program := "ytfnldnodhfkojaagreat", sum := "c3172a6eece41dbfa418842f1dfa074241f48acb62e1a81dd5f2a524e7f6da9f", func := "towpath/towpathlaw06.SeglogPlays", spec := "seglogPlays", unfollowed := true, recurses := true, apart := false }
def SeglogPlaysSaid : Prop := seglogPlaysRow.holds Tryz.pinned (OpenSpec.ofChange seglogPlaysSpec)

/-- ITS FALSE NEIGHBOUR: 'it returns false'. Refute it at one input. -/
def seglogPlaysWrong : ChangeSpec := { name := "seglogPlays", fn := fun _ => fun
  | [d1, d2, d3] => { results := [.lit (.bool false)], args := [d1, d2, d3] }
  | _ => none }
def SeglogPlaysWrongFalsely : Prop := seglogPlaysRow.holds Tryz.pinned (OpenSpec.ofChange seglogPlaysWrong)

/-- 'towpathlaw06.SeglogNil': WHATEVER THE INPUT: true; the input reads as it did. -/
def seglogNilSpec : ChangeSpec := { name := "seglogNil", fn := fun _ => fun
  | [d1, d2] => { results := [.lit (.bool true)], args := [d1, d2] }
  | _ => none }
def seglogNilRow : OpenClaim := { program := "ytfnldnodhfkojaagreat", sum := "c3172a6eece41dbfa418842f1dfa074241f48acb62e1a81dd5f2a524e7f6da9f", func := "towpath/towpathlaw06.SeglogNil", spec := "seglogNil", unfollowed := true, recurses := true, apart := false }
def SeglogNilSaid : Prop := seglogNilRow.holds Tryz.pinned (OpenSpec.ofChange seglogNilSpec)

/-- ITS FALSE NEIGHBOUR: 'it returns false'. Refute it at one input. -/
def seglogNilWrong : ChangeSpec := { name := "seglogNil", fn := fun _ => fun
  | [d1, d2] => { results := [.lit (.bool false)], args := [d1, d2] }
  | _ => none }
def SeglogNilWrongFalsely : Prop := seglogNilRow.holds Tryz.pinned (OpenSpec.ofChange seglogNilWrong)

/- THE SECOND FORM. 'bulk': how many values and letters a reading holds, each counted each time it is reached (what is shared counts as often as it is met; a slice's spare places count too). A statement '..UptoSaid' is the law's where the arguments, and the package variables that the reading takes, are together of bulk at most 1048576: NARROWER than '..Said'. Prove '..Said' where nothing that the law and all that it calls make is longer than what came in: it says more and counts as full. Else prove '..UptoSaid'. A law counts once. -/
mutual
def uptoBulk {H : Type} : DataW H → Nat
  | .lit (.string bytes) => bytes.length + 1
  | .lit _ => 1
  | .nil => 1
  | .ptr d => uptoBulk d + 1
  | .slice elems spare => uptoBulkAll elems + uptoBulkAll spare + 1
  | .agg parts => uptoBulkAll parts + 1
  | .iface _ d => uptoBulk d + 1
  | .map entries => uptoBulkEntries entries + 1
  | .held _ => 1
def uptoBulkAll {H : Type} : List (DataW H) → Nat
  | [] => 0
  | d :: r => uptoBulk d + uptoBulkAll r
def uptoBulkEntries {H : Type} : List (Lit × DataW H) → Nat
  | [] => 0
  | x :: r => uptoBulkEntry x + uptoBulkEntries r
def uptoBulkEntry {H : Type} : Lit × DataW H → Nat
  | (.string bytes, d) => bytes.length + uptoBulk d + 1
  | (_, d) => uptoBulk d + 1
 end
def uptoSmall : (H : Type) → List (DataW H) → Bool := fun _ ds => decide (uptoBulkAll ds ≤ 1048576)
def OpenSpec.upto (s : _root_.Go.ChangeSpec) : _root_.Go.OpenSpec := { _root_.Go.OpenSpec.ofChange s with cond := some uptoSmall }

/-- 'towpathlaw06.SeglogTimes', WHERE WHAT IT READS IS OF BULK AT MOST 1048576: true; the input reads as it did. -/
def seglogTimesUptoRow : OpenClaim := { program := "ytfnldnodhfkojaagreat", sum := "c3172a6eece41dbfa418842f1dfa074241f48acb62e1a81dd5f2a524e7f6da9f", func := "towpath/towpathlaw06.SeglogTimes", spec := "seglogTimes", unfollowed := true, recurses := true, apart := false, narrowed := true }
def SeglogTimesUptoSaid : Prop := seglogTimesUptoRow.holds Tryz.pinned (OpenSpec.upto seglogTimesSpec)

/-- 'towpathlaw06.SeglogReads', WHERE WHAT IT READS IS OF BULK AT MOST 1048576: true; the input reads as it did. -/
def seglogReadsUptoRow : OpenClaim := { program := "ytfnldnodhfkojaagreat", sum := "c3172a6eece41dbfa418842f1dfa074241f48acb62e1a81dd5f2a524e7f6da9f", func := "towpath/towpathlaw06.SeglogReads", spec := "seglogReads", unfollowed := true, recurses := true, apart := false, narrowed := true }
def SeglogReadsUptoSaid : Prop := seglogReadsUptoRow.holds Tryz.pinned (OpenSpec.upto seglogReadsSpec)

/-- 'towpathlaw06.SeglogApart', WHERE WHAT IT READS IS OF BULK AT MOST 1048576: true; the input reads as it did. -/
def seglogApartUptoRow : OpenClaim := { program := "ytfnldnodhfkojaagreat", sum := "c3172a6eece41dbfa418842f1dfa074241f48acb62e1a81dd5f2a524e7f6da9f", func := "towpath/towpathlaw06.SeglogApart", spec := "seglogApart", unfollowed := true, recurses := true, apart := false, narrowed := true }
def SeglogApartUptoSaid : Prop := seglogApartUptoRow.holds Tryz.pinned (OpenSpec.upto seglogApartSpec)

/-- 'towpathlaw06.SeglogForged', WHERE WHAT IT READS IS OF BULK AT MOST 1048576: true; the input reads as it did. -/
def seglogForgedUptoRow : OpenClaim := { program := "ytfnldnodhfkojaagreat", sum := "c3172a6eece41dbfa418842f1dfa074241f48acb62e1a81dd5f2a524e7f6da9f", func := "towpath/towpathlaw06.SeglogForged", spec := "seglogForged", unfollowed := true, recurses := true, apart := false, narrowed := true }
def SeglogForgedUptoSaid : Prop := seglogForgedUptoRow.holds Tryz.pinned (OpenSpec.upto seglogForgedSpec)

/-- 'towpathlaw06.SeglogFull', WHERE WHAT IT READS IS OF BULK AT MOST 1048576: true; the input reads as it did. -/
def seglogFullUptoRow : OpenClaim := { program := "ytfnldnodhfkojaagreat", sum := "c3172a6eece41dbfa418842f1dfa074241f48acb62e1a81dd5f2a524e7f6da9f", func := "towpath/towpathlaw06.SeglogFull", spec := "seglogFull", unfollowed := true, recurses := true, apart := false, narrowed := true }
def SeglogFullUptoSaid : Prop := seglogFullUptoRow.holds Tryz.pinned (OpenSpec.upto seglogFullSpec)

/-- 'towpathlaw06.SeglogNews', WHERE WHAT IT READS IS OF BULK AT MOST 1048576: true; the input reads as it did. -/
def seglogNewsUptoRow : OpenClaim := { program := "ytfnldnodhfkojaagreat", sum := "c3172a6eece41dbfa418842f1dfa074241f48acb62e1a81dd5f2a524e7f6da9f", func := "towpath/towpathlaw06.SeglogNews", spec := "seglogNews", unfollowed := true, recurses := true, apart := false, narrowed := true }
def SeglogNewsUptoSaid : Prop := seglogNewsUptoRow.holds Tryz.pinned (OpenSpec.upto seglogNewsSpec)

/-- 'towpathlaw06.SeglogCrash', WHERE WHAT IT READS IS OF BULK AT MOST 1048576: true; the input reads as it did. -/
def seglogCrashUptoRow : OpenClaim := { program := "ytfnldnodhfkojaagreat", sum := "c3172a6eece41dbfa418842f1dfa074241f48acb62e1a81dd5f2a524e7f6da9f", func := "towpath/towpathlaw06.SeglogCrash", spec := "seglogCrash", unfollowed := true, recurses := true, apart := false, narrowed := true }
def SeglogCrashUptoSaid : Prop := seglogCrashUptoRow.holds Tryz.pinned (OpenSpec.upto seglogCrashSpec)

/-- 'towpathlaw06.SeglogSwaps', WHERE WHAT IT READS IS OF BULK AT MOST 1048576: true; the input reads as it did. -/
def seglogSwapsUptoRow : OpenClaim := { program := "ytfnldnodhfkojaagreat", sum := "c3172a6eece41dbfa418842f1dfa074241f48acb62e1a81dd5f2a524e7f6da9f", func := "towpath/towpathlaw06.SeglogSwaps", spec := "seglogSwaps", unfollowed := true, recurses := true, apart := false, narrowed := true }
def SeglogSwapsUptoSaid : Prop := seglogSwapsUptoRow.holds Tryz.pinned (OpenSpec.upto seglogSwapsSpec)

/-- 'towpathlaw06.SeglogPlays', WHERE WHAT IT READS IS OF BULK AT MOST 1048576: true; the input reads as it did. -/
def seglogPlaysUptoRow : OpenClaim := { program := "ytfnldnodhfkojaagreat", sum := "c3172a6eece41dbfa418842f1dfa074241f48acb62e1a81dd5f2a524e7f6da9f", func := "towpath/towpathlaw06.SeglogPlays", spec := "seglogPlays", unfollowed := true, recurses := true, apart := false, narrowed := true }
def SeglogPlaysUptoSaid : Prop := seglogPlaysUptoRow.holds Tryz.pinned (OpenSpec.upto seglogPlaysSpec)

/-- 'towpathlaw06.SeglogNil', WHERE WHAT IT READS IS OF BULK AT MOST 1048576: true; the input reads as it did. -/
def seglogNilUptoRow : OpenClaim := { program := "ytfnldnodhfkojaagreat", sum := "c3172a6eece41dbfa418842f1dfa074241f48acb62e1a81dd5f2a524e7f6da9f", func := "towpath/towpathlaw06.SeglogNil", spec := "seglogNil", unfollowed := true, recurses := true, apart := false, narrowed := true }
def SeglogNilUptoSaid : Prop := seglogNilUptoRow.holds Tryz.pinned (OpenSpec.upto seglogNilSpec)

end Rows
end Go.Proofs.YtfnldnodhfkojaaGreat
