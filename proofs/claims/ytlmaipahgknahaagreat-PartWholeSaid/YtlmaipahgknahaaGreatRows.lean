/-
  No cell of these rows narrows 'for every input' (looked for: loops, veiled, ifaces, maps, wideKeys, modest, calm, conditions, laid).
  DERIVED. THE GIVEN ROWS OF THIS SEAT. 7 by the template 'for every input the law returns true; each argument reads behind the call as it read before'; 0 by the template 'total and deterministic' (their statements: YtlmaipahgknahaaGreatTotals.lean).
  GIVEN WITH THE SEED: the statements are not yours to turn. If you find one false, say at which input.
  Laid BY PROGRAM, IN A SANDBOX (cutbox-rows.mjs): the forced cells as the released guide's own fill.sh prints them over the translation 01fd8a2e128627a2… (all of the seat's roots in one cut). By AI agents, Wed Nov 11 2026. No macro, syntax, notation, axiom, sorry.
-/
import Derived.Test.YtlmaipahgknahaaGreatChecked
import GoSem.Claim
import GoSem.ClaimJoined
import GoSem.ClaimMapViews
import Derived.JoinedTies
import Derived.KernelRfl
namespace Go.Proofs.YtlmaipahgknahaaGreat
/- THE CELL 'sum', in the pinned program and in every row, IS THE sha256 OF THE DUMP (.gsa) THAT YtlmaipahgknahaaGreatProg.lean LOADS. Nothing in Lean hashes anything: it is a label: what it is worth is what the hold of that sum in a sandbox is worth. -/
noncomputable def Tryz.pinned : Pinned := { name := "ytlmaipahgknahaagreat", sum := "01fd8a2e128627a22202b9c3c9afbeede0c058afb2eec28d953d9455efa984fc", checked := Tryz.checked }
namespace Rows
def none {H : Type} : Left H := { results := [], args := [] }

/-- 'towpathlaw10.PartWhole': WHATEVER THE INPUT: true; the input reads as it did. -/
def partWholeSpec : ChangeSpec := { name := "partWhole", fn := fun _ => fun
  | [d1, d2] => { results := [.lit (.bool true)], args := [d1, d2] }
  | _ => none }
def partWholeRow : OpenClaim := { program := "ytlmaipahgknahaagreat", sum := "01fd8a2e128627a22202b9c3c9afbeede0c058afb2eec28d953d9455efa984fc", func := "towpath/towpathlaw10.PartWhole", spec := "partWhole", unfollowed := true, recurses := true, plainKeys := false, apart := false }
def PartWholeSaid : Prop := partWholeRow.holds Tryz.pinned (OpenSpec.ofChange partWholeSpec)

/-- ITS FALSE NEIGHBOUR: 'it returns false'. Refute it at one input. -/
def partWholeWrong : ChangeSpec := { name := "partWhole", fn := fun _ => fun
  | [d1, d2] => { results := [.lit (.bool false)], args := [d1, d2] }
  | _ => none }
def PartWholeWrongFalsely : Prop := partWholeRow.holds Tryz.pinned (OpenSpec.ofChange partWholeWrong)

/-- 'towpathlaw10.PartFull': WHATEVER THE INPUT: true; the input reads as it did. -/
def partFullSpec : ChangeSpec := { name := "partFull", fn := fun _ => fun
  | [d1, d2, d3] => { results := [.lit (.bool true)], args := [d1, d2, d3] }
  | _ => none }
def partFullRow : OpenClaim := { program := "ytlmaipahgknahaagreat", sum := "01fd8a2e128627a22202b9c3c9afbeede0c058afb2eec28d953d9455efa984fc", func := "towpath/towpathlaw10.PartFull", spec := "partFull", unfollowed := true, recurses := true, plainKeys := false, apart := false }
def PartFullSaid : Prop := partFullRow.holds Tryz.pinned (OpenSpec.ofChange partFullSpec)

/-- ITS FALSE NEIGHBOUR: 'it returns false'. Refute it at one input. -/
def partFullWrong : ChangeSpec := { name := "partFull", fn := fun _ => fun
  | [d1, d2, d3] => { results := [.lit (.bool false)], args := [d1, d2, d3] }
  | _ => none }
def PartFullWrongFalsely : Prop := partFullRow.holds Tryz.pinned (OpenSpec.ofChange partFullWrong)

/-- 'towpathlaw10.PartForged': WHATEVER THE INPUT: true; the input reads as it did. -/
def partForgedSpec : ChangeSpec := { name := "partForged", fn := fun _ => fun
  | [d1, d2, d3, d4, d5] => { results := [.lit (.bool true)], args := [d1, d2, d3, d4, d5] }
  | _ => none }
def partForgedRow : OpenClaim := { program := "ytlmaipahgknahaagreat", sum := "01fd8a2e128627a22202b9c3c9afbeede0c058afb2eec28d953d9455efa984fc", func := "towpath/towpathlaw10.PartForged", spec := "partForged", unfollowed := true, recurses := true, plainKeys := false, apart := false }
def PartForgedSaid : Prop := partForgedRow.holds Tryz.pinned (OpenSpec.ofChange partForgedSpec)

/-- ITS FALSE NEIGHBOUR: 'it returns false'. Refute it at one input. -/
def partForgedWrong : ChangeSpec := { name := "partForged", fn := fun _ => fun
  | [d1, d2, d3, d4, d5] => { results := [.lit (.bool false)], args := [d1, d2, d3, d4, d5] }
  | _ => none }
def PartForgedWrongFalsely : Prop := partForgedRow.holds Tryz.pinned (OpenSpec.ofChange partForgedWrong)

/-- 'towpathlaw10.PartNews': WHATEVER THE INPUT: true; the input reads as it did. -/
def partNewsSpec : ChangeSpec := { name := "partNews", fn := fun _ => fun
  | [d1, d2, d3] => { results := [.lit (.bool true)], args := [d1, d2, d3] }
  | _ => none }
def partNewsRow : OpenClaim := { program := "ytlmaipahgknahaagreat", sum := "01fd8a2e128627a22202b9c3c9afbeede0c058afb2eec28d953d9455efa984fc", func := "towpath/towpathlaw10.PartNews", spec := "partNews", unfollowed := true, recurses := true, plainKeys := false, apart := false }
def PartNewsSaid : Prop := partNewsRow.holds Tryz.pinned (OpenSpec.ofChange partNewsSpec)

/-- ITS FALSE NEIGHBOUR: 'it returns false'. Refute it at one input. -/
def partNewsWrong : ChangeSpec := { name := "partNews", fn := fun _ => fun
  | [d1, d2, d3] => { results := [.lit (.bool false)], args := [d1, d2, d3] }
  | _ => none }
def PartNewsWrongFalsely : Prop := partNewsRow.holds Tryz.pinned (OpenSpec.ofChange partNewsWrong)

/-- 'towpathlaw10.PartOnce': WHATEVER THE INPUT: true; the input reads as it did. -/
def partOnceSpec : ChangeSpec := { name := "partOnce", fn := fun _ => fun
  | [d1, d2, d3] => { results := [.lit (.bool true)], args := [d1, d2, d3] }
  | _ => none }
def partOnceRow : OpenClaim := { program := "ytlmaipahgknahaagreat", sum := "01fd8a2e128627a22202b9c3c9afbeede0c058afb2eec28d953d9455efa984fc", func := "towpath/towpathlaw10.PartOnce", spec := "partOnce", unfollowed := true, recurses := true, plainKeys := false, apart := false }
def PartOnceSaid : Prop := partOnceRow.holds Tryz.pinned (OpenSpec.ofChange partOnceSpec)

/-- ITS FALSE NEIGHBOUR: 'it returns false'. Refute it at one input. -/
def partOnceWrong : ChangeSpec := { name := "partOnce", fn := fun _ => fun
  | [d1, d2, d3] => { results := [.lit (.bool false)], args := [d1, d2, d3] }
  | _ => none }
def PartOnceWrongFalsely : Prop := partOnceRow.holds Tryz.pinned (OpenSpec.ofChange partOnceWrong)

/-- 'towpathlaw10.PartNil': WHATEVER THE INPUT: true; the input reads as it did. -/
def partNilSpec : ChangeSpec := { name := "partNil", fn := fun _ => fun
  | [d1, d2, d3] => { results := [.lit (.bool true)], args := [d1, d2, d3] }
  | _ => none }
def partNilRow : OpenClaim := { program := "ytlmaipahgknahaagreat", sum := "01fd8a2e128627a22202b9c3c9afbeede0c058afb2eec28d953d9455efa984fc", func := "towpath/towpathlaw10.PartNil", spec := "partNil", inPlace := ["maps.clone"], unfollowed := true, recurses := true, plainKeys := false, apart := false }
def PartNilSaid : Prop := partNilRow.holds Tryz.pinned (OpenSpec.ofChange partNilSpec)

/-- ITS FALSE NEIGHBOUR: 'it returns false'. Refute it at one input. -/
def partNilWrong : ChangeSpec := { name := "partNil", fn := fun _ => fun
  | [d1, d2, d3] => { results := [.lit (.bool false)], args := [d1, d2, d3] }
  | _ => none }
def PartNilWrongFalsely : Prop := partNilRow.holds Tryz.pinned (OpenSpec.ofChange partNilWrong)

/-- 'towpathlaw10.PartShort': WHATEVER THE INPUT: true; the input reads as it did. -/
def partShortSpec : ChangeSpec := { name := "partShort", fn := fun _ => fun
  | [d1, d2, d3, d4, d5, d6] => { results := [.lit (.bool true)], args := [d1, d2, d3, d4, d5, d6] }
  | _ => none }
def partShortRow : OpenClaim := { program := "ytlmaipahgknahaagreat", sum := "01fd8a2e128627a22202b9c3c9afbeede0c058afb2eec28d953d9455efa984fc", func := "towpath/towpathlaw10.PartShort", spec := "partShort", inPlace := ["maps.clone"], unfollowed := true, recurses := true, plainKeys := false, apart := false }
def PartShortSaid : Prop := partShortRow.holds Tryz.pinned (OpenSpec.ofChange partShortSpec)

/-- ITS FALSE NEIGHBOUR: 'it returns false'. Refute it at one input. -/
def partShortWrong : ChangeSpec := { name := "partShort", fn := fun _ => fun
  | [d1, d2, d3, d4, d5, d6] => { results := [.lit (.bool false)], args := [d1, d2, d3, d4, d5, d6] }
  | _ => none }
def PartShortWrongFalsely : Prop := partShortRow.holds Tryz.pinned (OpenSpec.ofChange partShortWrong)

/- THE SECOND FORM. 'bulk': how many values and letters a reading holds, each counted each time it is reached (what is shared counts as often as it is met; a slice's spare places count too). A statement '..UptoSaid' is the law's where the arguments, and the package variables that the reading takes, are together of bulk at most 1048576: NARROWER than '..Said'. Prove '..Said' where nothing that the law and all that it calls make is longer than what came in: it says more and counts as full. Else prove '..UptoSaid'. A law counts once. -/
mutual
def uptoBulk {H : Type} : DataW H → Nat
  | .lit (.string bytes) => bytes.length + 1
  | .lit _ => 1
  | .nil => 1
  | .ptr d => uptoBulk d + 1
  | .slice elems spare => uptoBulkAll elems + uptoBulkAll spare + 1
  | .agg parts => uptoBulkAll parts + 1
  | .iface _ d => uptoBulk d + 1
  | .map entries => uptoBulkEntries entries + 1
  | .held _ => 1
def uptoBulkAll {H : Type} : List (DataW H) → Nat
  | [] => 0
  | d :: r => uptoBulk d + uptoBulkAll r
def uptoBulkEntries {H : Type} : List (Lit × DataW H) → Nat
  | [] => 0
  | x :: r => uptoBulkEntry x + uptoBulkEntries r
def uptoBulkEntry {H : Type} : Lit × DataW H → Nat
  | (.string bytes, d) => bytes.length + uptoBulk d + 1
  | (_, d) => uptoBulk d + 1
 end
def uptoSmall : (H : Type) → List (DataW H) → Bool := fun _ ds => decide (uptoBulkAll ds ≤ 1048576)
def OpenSpec.upto (s : _root_.Go.ChangeSpec) : _root_.Go.OpenSpec := { _root_.Go.OpenSpec.ofChange s with cond := some uptoSmall }

/-- 'towpathlaw10.PartWhole', WHERE WHAT IT READS IS OF BULK AT MOST 1048576: true; the input reads as it did. -/
def partWholeUptoRow : OpenClaim := { program := "ytlmaipahgknahaagreat", sum := "01fd8a2e128627a22202b9c3c9afbeede0c058afb2eec28d953d9455efa984fc", func := "towpath/towpathlaw10.PartWhole", spec := "partWhole", unfollowed := true, recurses := true, plainKeys := false, apart := false, narrowed := true }
def PartWholeUptoSaid : Prop := partWholeUptoRow.holds Tryz.pinned (OpenSpec.upto partWholeSpec)

/-- 'towpathlaw10.PartFull', WHERE WHAT IT READS IS OF BULK AT MOST 1048576: true; the input reads as it did. -/
def partFullUptoRow : OpenClaim := { program := "ytlmaipahgknahaagreat", sum := "01fd8a2e128627a22202b9c3c9afbeede0c058afb2eec28d953d9455efa984fc", func := "towpath/towpathlaw10.PartFull", spec := "partFull", unfollowed := true, recurses := true, plainKeys := false, apart := false, narrowed := true }
def PartFullUptoSaid : Prop := partFullUptoRow.holds Tryz.pinned (OpenSpec.upto partFullSpec)

/-- 'towpathlaw10.PartForged', WHERE WHAT IT READS IS OF BULK AT MOST 1048576: true; the input reads as it did. -/
def partForgedUptoRow : OpenClaim := { program := "ytlmaipahgknahaagreat", sum := "01fd8a2e128627a22202b9c3c9afbeede0c058afb2eec28d953d9455efa984fc", func := "towpath/towpathlaw10.PartForged", spec := "partForged", unfollowed := true, recurses := true, plainKeys := false, apart := false, narrowed := true }
def PartForgedUptoSaid : Prop := partForgedUptoRow.holds Tryz.pinned (OpenSpec.upto partForgedSpec)

/-- 'towpathlaw10.PartNews', WHERE WHAT IT READS IS OF BULK AT MOST 1048576: true; the input reads as it did. -/
def partNewsUptoRow : OpenClaim := { program := "ytlmaipahgknahaagreat", sum := "01fd8a2e128627a22202b9c3c9afbeede0c058afb2eec28d953d9455efa984fc", func := "towpath/towpathlaw10.PartNews", spec := "partNews", unfollowed := true, recurses := true, plainKeys := false, apart := false, narrowed := true }
def PartNewsUptoSaid : Prop := partNewsUptoRow.holds Tryz.pinned (OpenSpec.upto partNewsSpec)

/-- 'towpathlaw10.PartOnce', WHERE WHAT IT READS IS OF BULK AT MOST 1048576: true; the input reads as it did. -/
def partOnceUptoRow : OpenClaim := { program := "ytlmaipahgknahaagreat", sum := "01fd8a2e128627a22202b9c3c9afbeede0c058afb2eec28d953d9455efa984fc", func := "towpath/towpathlaw10.PartOnce", spec := "partOnce", unfollowed := true, recurses := true, plainKeys := false, apart := false, narrowed := true }
def PartOnceUptoSaid : Prop := partOnceUptoRow.holds Tryz.pinned (OpenSpec.upto partOnceSpec)

/-- 'towpathlaw10.PartNil', WHERE WHAT IT READS IS OF BULK AT MOST 1048576: true; the input reads as it did. -/
def partNilUptoRow : OpenClaim := { program := "ytlmaipahgknahaagreat", sum := "01fd8a2e128627a22202b9c3c9afbeede0c058afb2eec28d953d9455efa984fc", func := "towpath/towpathlaw10.PartNil", spec := "partNil", inPlace := ["maps.clone"], unfollowed := true, recurses := true, plainKeys := false, apart := false, narrowed := true }
def PartNilUptoSaid : Prop := partNilUptoRow.holds Tryz.pinned (OpenSpec.upto partNilSpec)

/-- 'towpathlaw10.PartShort', WHERE WHAT IT READS IS OF BULK AT MOST 1048576: true; the input reads as it did. -/
def partShortUptoRow : OpenClaim := { program := "ytlmaipahgknahaagreat", sum := "01fd8a2e128627a22202b9c3c9afbeede0c058afb2eec28d953d9455efa984fc", func := "towpath/towpathlaw10.PartShort", spec := "partShort", inPlace := ["maps.clone"], unfollowed := true, recurses := true, plainKeys := false, apart := false, narrowed := true }
def PartShortUptoSaid : Prop := partShortUptoRow.holds Tryz.pinned (OpenSpec.upto partShortSpec)

end Rows
end Go.Proofs.YtlmaipahgknahaaGreat
