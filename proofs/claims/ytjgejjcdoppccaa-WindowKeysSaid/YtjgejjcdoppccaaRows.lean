/-
  No cell of these rows narrows 'for every input' (looked for: loops, veiled, ifaces, maps, wideKeys, modest, calm, conditions, laid).
  DERIVED. THE GIVEN ROWS OF THIS SEAT. 5 by the template 'for every input the law returns true; each argument reads behind the call as it read before'; 0 by the template 'total and deterministic' (their statements: YtjgejjcdoppccaaTotals.lean).
  GIVEN WITH THE SEED: the statements are not yours to turn. If you find one false, say at which input.
  Laid BY PROGRAM, IN A SANDBOX (cutbox-rows.mjs): the forced cells as the released guide's own fill.sh prints them over the translation d19b6fced09b1ae5… (all of the seat's roots in one cut). By AI agents, Wed Nov 11 2026. No macro, syntax, notation, axiom, sorry.
-/
import Derived.Test.YtjgejjcdoppccaaChecked
import GoSem.Claim
import GoSem.ClaimJoined
import GoSem.ClaimMapViews
import Derived.JoinedTies
import Derived.KernelRfl
namespace Go.Proofs.Ytjgejjcdoppccaa
/- THE CELL 'sum', in the pinned program and in every row, IS THE sha256 OF THE DUMP (.gsa) THAT YtjgejjcdoppccaaProg.lean LOADS. Nothing in Lean hashes anything: it is a label: what it is worth is what the hold of that sum in a sandbox is worth. -/
noncomputable def Try.pinned : Pinned := { name := "ytjgejjcdoppccaa", sum := "d19b6fced09b1ae540b24f8991d29047dc5812502ea2b10281dd0033dcbf5fd6", checked := Try.checked }
namespace Rows
def none {H : Type} : Left H := { results := [], args := [] }

/-- 'towpathlaw21.WindowHops': WHATEVER THE INPUT: true; the input reads as it did. -/
def windowHopsSpec : ChangeSpec := { name := "windowHops", fn := fun _ => fun
  | [d1, d2, d3, d4] => { results := [.lit (.bool true)], args := [d1, d2, d3, d4] }
  | _ => none }
def windowHopsRow : OpenClaim := { program := "ytjgejjcdoppccaa", sum := "d19b6fced09b1ae540b24f8991d29047dc5812502ea2b10281dd0033dcbf5fd6", func := "towpath/towpathlaw21.WindowHops", spec := "windowHops", recurses := true, apart := false }
def WindowHopsSaid : Prop := windowHopsRow.holds Try.pinned (OpenSpec.ofChange windowHopsSpec)

/-- ITS FALSE NEIGHBOUR: 'it returns false'. Refute it at one input. -/
def windowHopsWrong : ChangeSpec := { name := "windowHops", fn := fun _ => fun
  | [d1, d2, d3, d4] => { results := [.lit (.bool false)], args := [d1, d2, d3, d4] }
  | _ => none }
def WindowHopsWrongFalsely : Prop := windowHopsRow.holds Try.pinned (OpenSpec.ofChange windowHopsWrong)

/-- 'towpathlaw21.WindowTumbles': WHATEVER THE INPUT: true; the input reads as it did. -/
def windowTumblesSpec : ChangeSpec := { name := "windowTumbles", fn := fun _ => fun
  | [d1, d2, d3] => { results := [.lit (.bool true)], args := [d1, d2, d3] }
  | _ => none }
def windowTumblesRow : OpenClaim := { program := "ytjgejjcdoppccaa", sum := "d19b6fced09b1ae540b24f8991d29047dc5812502ea2b10281dd0033dcbf5fd6", func := "towpath/towpathlaw21.WindowTumbles", spec := "windowTumbles", recurses := true, apart := false }
def WindowTumblesSaid : Prop := windowTumblesRow.holds Try.pinned (OpenSpec.ofChange windowTumblesSpec)

/-- ITS FALSE NEIGHBOUR: 'it returns false'. Refute it at one input. -/
def windowTumblesWrong : ChangeSpec := { name := "windowTumbles", fn := fun _ => fun
  | [d1, d2, d3] => { results := [.lit (.bool false)], args := [d1, d2, d3] }
  | _ => none }
def WindowTumblesWrongFalsely : Prop := windowTumblesRow.holds Try.pinned (OpenSpec.ofChange windowTumblesWrong)

/-- 'towpathlaw21.WindowSessions': WHATEVER THE INPUT: true; the input reads as it did. -/
def windowSessionsSpec : ChangeSpec := { name := "windowSessions", fn := fun _ => fun
  | [d1, d2] => { results := [.lit (.bool true)], args := [d1, d2] }
  | _ => none }
def windowSessionsRow : OpenClaim := { program := "ytjgejjcdoppccaa", sum := "d19b6fced09b1ae540b24f8991d29047dc5812502ea2b10281dd0033dcbf5fd6", func := "towpath/towpathlaw21.WindowSessions", spec := "windowSessions", recurses := true, apart := false }
def WindowSessionsSaid : Prop := windowSessionsRow.holds Try.pinned (OpenSpec.ofChange windowSessionsSpec)

/-- ITS FALSE NEIGHBOUR: 'it returns false'. Refute it at one input. -/
def windowSessionsWrong : ChangeSpec := { name := "windowSessions", fn := fun _ => fun
  | [d1, d2] => { results := [.lit (.bool false)], args := [d1, d2] }
  | _ => none }
def WindowSessionsWrongFalsely : Prop := windowSessionsRow.holds Try.pinned (OpenSpec.ofChange windowSessionsWrong)

/-- 'towpathlaw21.WindowMeets': WHATEVER THE INPUT: true; the input reads as it did. -/
def windowMeetsSpec : ChangeSpec := { name := "windowMeets", fn := fun _ => fun
  | [d1, d2, d3, d4, d5, d6] => { results := [.lit (.bool true)], args := [d1, d2, d3, d4, d5, d6] }
  | _ => none }
def windowMeetsRow : OpenClaim := { program := "ytjgejjcdoppccaa", sum := "d19b6fced09b1ae540b24f8991d29047dc5812502ea2b10281dd0033dcbf5fd6", func := "towpath/towpathlaw21.WindowMeets", spec := "windowMeets", recurses := true, apart := false }
def WindowMeetsSaid : Prop := windowMeetsRow.holds Try.pinned (OpenSpec.ofChange windowMeetsSpec)

/-- ITS FALSE NEIGHBOUR: 'it returns false'. Refute it at one input. -/
def windowMeetsWrong : ChangeSpec := { name := "windowMeets", fn := fun _ => fun
  | [d1, d2, d3, d4, d5, d6] => { results := [.lit (.bool false)], args := [d1, d2, d3, d4, d5, d6] }
  | _ => none }
def WindowMeetsWrongFalsely : Prop := windowMeetsRow.holds Try.pinned (OpenSpec.ofChange windowMeetsWrong)

/-- 'towpathlaw21.WindowKeys': WHATEVER THE INPUT: true; the input reads as it did. -/
def windowKeysSpec : ChangeSpec := { name := "windowKeys", fn := fun _ => fun
  | [d1, d2, d3, d4, d5, d6] => { results := [.lit (.bool true)], args := [d1, d2, d3, d4, d5, d6] }
  | _ => none }
def windowKeysRow : OpenClaim := { program := "ytjgejjcdoppccaa", sum := "d19b6fced09b1ae540b24f8991d29047dc5812502ea2b10281dd0033dcbf5fd6", func := "towpath/towpathlaw21.WindowKeys", spec := "windowKeys", recurses := true, apart := false }
def WindowKeysSaid : Prop := windowKeysRow.holds Try.pinned (OpenSpec.ofChange windowKeysSpec)

/-- ITS FALSE NEIGHBOUR: 'it returns false'. Refute it at one input. -/
def windowKeysWrong : ChangeSpec := { name := "windowKeys", fn := fun _ => fun
  | [d1, d2, d3, d4, d5, d6] => { results := [.lit (.bool false)], args := [d1, d2, d3, d4, d5, d6] }
  | _ => none }
def WindowKeysWrongFalsely : Prop := windowKeysRow.holds Try.pinned (OpenSpec.ofChange windowKeysWrong)

/- THE SECOND FORM. 'bulk': how many values and letters a reading holds, each counted each time it is reached (what is shared counts as often as it is met; a slice's spare places count too). A statement '..UptoSaid' is the law's where the arguments, and the package variables that the reading takes, are together of bulk at most 1048576: NARROWER than '..Said'. Prove '..Said' where nothing that the law and all that it calls make is longer than what came in: it says more and counts as full. Else prove '..UptoSaid'. A law counts once. -/
mutual
def uptoBulk {H : Type} : DataW H → Nat
  | .lit (.string bytes) => bytes.length + 1
  | .lit _ => 1
  | .nil => 1
  | .ptr d => uptoBulk d + 1
  | .slice elems spare => uptoBulkAll elems + uptoBulkAll spare + 1
  | .agg parts => uptoBulkAll parts + 1
  | .iface _ d => uptoBulk d + 1
  | .map entries => uptoBulkEntries entries + 1
  | .held _ => 1
def uptoBulkAll {H : Type} : List (DataW H) → Nat
  | [] => 0
  | d :: r => uptoBulk d + uptoBulkAll r
def uptoBulkEntries {H : Type} : List (Lit × DataW H) → Nat
  | [] => 0
  | x :: r => uptoBulkEntry x + uptoBulkEntries r
def uptoBulkEntry {H : Type} : Lit × DataW H → Nat
  | (.string bytes, d) => bytes.length + uptoBulk d + 1
  | (_, d) => uptoBulk d + 1
 end
def uptoSmall : (H : Type) → List (DataW H) → Bool := fun _ ds => decide (uptoBulkAll ds ≤ 1048576)
def OpenSpec.upto (s : _root_.Go.ChangeSpec) : _root_.Go.OpenSpec := { _root_.Go.OpenSpec.ofChange s with cond := some uptoSmall }

/-- 'towpathlaw21.WindowHops', WHERE WHAT IT READS IS OF BULK AT MOST 1048576: true; the input reads as it did. -/
def windowHopsUptoRow : OpenClaim := { program := "ytjgejjcdoppccaa", sum := "d19b6fced09b1ae540b24f8991d29047dc5812502ea2b10281dd0033dcbf5fd6", func := "towpath/towpathlaw21.WindowHops", spec := "windowHops", recurses := true, apart := false, narrowed := true }
def WindowHopsUptoSaid : Prop := windowHopsUptoRow.holds Try.pinned (OpenSpec.upto windowHopsSpec)

/-- 'towpathlaw21.WindowTumbles', WHERE WHAT IT READS IS OF BULK AT MOST 1048576: true; the input reads as it did. -/
def windowTumblesUptoRow : OpenClaim := { program := "ytjgejjcdoppccaa", sum := "d19b6fced09b1ae540b24f8991d29047dc5812502ea2b10281dd0033dcbf5fd6", func := "towpath/towpathlaw21.WindowTumbles", spec := "windowTumbles", recurses := true, apart := false, narrowed := true }
def WindowTumblesUptoSaid : Prop := windowTumblesUptoRow.holds Try.pinned (OpenSpec.upto windowTumblesSpec)

/-- 'towpathlaw21.WindowSessions', WHERE WHAT IT READS IS OF BULK AT MOST 1048576: true; the input reads as it did. -/
def windowSessionsUptoRow : OpenClaim := { program := "ytjgejjcdoppccaa", sum := "d19b6fced09b1ae540b24f8991d29047dc5812502ea2b10281dd0033dcbf5fd6", func := "towpath/towpathlaw21.WindowSessions", spec := "windowSessions", recurses := true, apart := false, narrowed := true }
def WindowSessionsUptoSaid : Prop := windowSessionsUptoRow.holds Try.pinned (OpenSpec.upto windowSessionsSpec)

/-- 'towpathlaw21.WindowMeets', WHERE WHAT IT READS IS OF BULK AT MOST 1048576: true; the input reads as it did. -/
def windowMeetsUptoRow : OpenClaim := { program := "ytjgejjcdoppccaa", sum := "d19b6fced09b1ae540b24f8991d29047dc5812502ea2b10281dd0033dcbf5fd6", func := "towpath/towpathlaw21.WindowMeets", spec := "windowMeets", recurses := true, apart := false, narrowed := true }
def WindowMeetsUptoSaid : Prop := windowMeetsUptoRow.holds Try.pinned (OpenSpec.upto windowMeetsSpec)

/-- 'towpathlaw21.WindowKeys', WHERE WHAT IT READS IS OF BULK AT MOST 1048576: true; the input reads as it did. -/
def windowKeysUptoRow : OpenClaim := { program := "ytjgejjcdoppccaa", sum := "d19b6fced09b1ae540b24f8991d29047dc5812502ea2b10281dd0033dcbf5fd6", func := "towpath/towpathlaw21.WindowKeys", spec := "windowKeys", recurses := true, apart := false, narrowed := true }
def WindowKeysUptoSaid : Prop := windowKeysUptoRow.holds Try.pinned (OpenSpec.upto windowKeysSpec)

end Rows
end Go.Proofs.Ytjgejjcdoppccaa
