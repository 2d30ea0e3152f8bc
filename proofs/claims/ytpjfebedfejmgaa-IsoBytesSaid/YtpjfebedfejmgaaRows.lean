/-
  No cell of these rows narrows 'for every input' (looked for: loops, veiled, ifaces, maps, wideKeys, modest, calm, conditions, laid).
  DERIVED. THE GIVEN ROWS OF THIS SEAT. 7 by the template 'for every input the law returns true; each argument reads behind the call as it read before'; 0 by the template 'total and deterministic' (their statements: YtpjfebedfejmgaaTotals.lean).
  GIVEN WITH THE SEED: the statements are not yours to turn. If you find one false, say at which input.
  Laid BY PROGRAM, IN A SANDBOX (cutbox-rows.mjs): the forced cells as the released guide's own fill.sh prints them over the translation 94ad74ce153b5b11… (all of the seat's roots in one cut). By AI agents, Wed Nov 11 2026. No macro, syntax, notation, axiom, sorry.
-/
import Derived.Test.YtpjfebedfejmgaaChecked
import GoSem.Claim
import GoSem.ClaimJoined
import GoSem.ClaimMapViews
import Derived.JoinedTies
import Derived.KernelRfl
namespace Go.Proofs.Ytpjfebedfejmgaa
/- THE CELL 'sum', in the pinned program and in every row, IS THE sha256 OF THE DUMP (.gsa) THAT YtpjfebedfejmgaaProg.lean LOADS. Nothing in Lean hashes anything: it is a label: what it is worth is what the hold of that sum in a sandbox is worth. -/
noncomputable def Try.pinned : Pinned := { name := "ytpjfebedfejmgaa", sum := "94ad74ce153b5b11e0101baf0ac7933689a10c711cdf49f1abbfade447609652", checked := Try.checked }
namespace Rows
def none {H : Type} : Left H := { results := [], args := [] }

/-- 'towpathlaw08.IsoCommitted': WHATEVER THE INPUT: true; the input reads as it did. -/
def isoCommittedSpec : ChangeSpec := { name := "isoCommitted", fn := fun _ => fun
  | [d] => { results := [.lit (.bool true)], args := [d] }
  | _ => none }
def isoCommittedRow : OpenClaim := { program := "ytpjfebedfejmgaa", sum := "94ad74ce153b5b11e0101baf0ac7933689a10c711cdf49f1abbfade447609652", func := "towpath/towpathlaw08.IsoCommitted", spec := "isoCommitted", unfollowed := true, recurses := true, plainKeys := false, apart := false }
def IsoCommittedSaid : Prop := isoCommittedRow.holds Try.pinned (OpenSpec.ofChange isoCommittedSpec)

/-- ITS FALSE NEIGHBOUR: 'it returns false'. Refute it at one input. -/
def isoCommittedWrong : ChangeSpec := { name := "isoCommitted", fn := fun _ => fun
  | [d] => { results := [.lit (.bool false)], args := [d] }
  | _ => none }
def IsoCommittedWrongFalsely : Prop := isoCommittedRow.holds Try.pinned (OpenSpec.ofChange isoCommittedWrong)

/-- 'towpathlaw08.IsoWhole': WHATEVER THE INPUT: true; the input reads as it did. -/
def isoWholeSpec : ChangeSpec := { name := "isoWhole", fn := fun _ => fun
  | [d] => { results := [.lit (.bool true)], args := [d] }
  | _ => none }
def isoWholeRow : OpenClaim := { program := "ytpjfebedfejmgaa", sum := "94ad74ce153b5b11e0101baf0ac7933689a10c711cdf49f1abbfade447609652", func := "towpath/towpathlaw08.IsoWhole", spec := "isoWhole", unfollowed := true, recurses := true, plainKeys := false, apart := false }
def IsoWholeSaid : Prop := isoWholeRow.holds Try.pinned (OpenSpec.ofChange isoWholeSpec)

/-- ITS FALSE NEIGHBOUR: 'it returns false'. Refute it at one input. -/
def isoWholeWrong : ChangeSpec := { name := "isoWhole", fn := fun _ => fun
  | [d] => { results := [.lit (.bool false)], args := [d] }
  | _ => none }
def IsoWholeWrongFalsely : Prop := isoWholeRow.holds Try.pinned (OpenSpec.ofChange isoWholeWrong)

/-- 'towpathlaw08.IsoGrows': WHATEVER THE INPUT: true; the input reads as it did. -/
def isoGrowsSpec : ChangeSpec := { name := "isoGrows", fn := fun _ => fun
  | [d] => { results := [.lit (.bool true)], args := [d] }
  | _ => none }
def isoGrowsRow : OpenClaim := { program := "ytpjfebedfejmgaa", sum := "94ad74ce153b5b11e0101baf0ac7933689a10c711cdf49f1abbfade447609652", func := "towpath/towpathlaw08.IsoGrows", spec := "isoGrows", unfollowed := true, recurses := true, plainKeys := false, apart := false }
def IsoGrowsSaid : Prop := isoGrowsRow.holds Try.pinned (OpenSpec.ofChange isoGrowsSpec)

/-- ITS FALSE NEIGHBOUR: 'it returns false'. Refute it at one input. -/
def isoGrowsWrong : ChangeSpec := { name := "isoGrows", fn := fun _ => fun
  | [d] => { results := [.lit (.bool false)], args := [d] }
  | _ => none }
def IsoGrowsWrongFalsely : Prop := isoGrowsRow.holds Try.pinned (OpenSpec.ofChange isoGrowsWrong)

/-- 'towpathlaw08.IsoForgets': WHATEVER THE INPUT: true; the input reads as it did. -/
def isoForgetsSpec : ChangeSpec := { name := "isoForgets", fn := fun _ => fun
  | [d1, d2] => { results := [.lit (.bool true)], args := [d1, d2] }
  | _ => none }
def isoForgetsRow : OpenClaim := { program := "ytpjfebedfejmgaa", sum := "94ad74ce153b5b11e0101baf0ac7933689a10c711cdf49f1abbfade447609652", func := "towpath/towpathlaw08.IsoForgets", spec := "isoForgets", unfollowed := true, recurses := true, plainKeys := false, apart := false }
def IsoForgetsSaid : Prop := isoForgetsRow.holds Try.pinned (OpenSpec.ofChange isoForgetsSpec)

/-- ITS FALSE NEIGHBOUR: 'it returns false'. Refute it at one input. -/
def isoForgetsWrong : ChangeSpec := { name := "isoForgets", fn := fun _ => fun
  | [d1, d2] => { results := [.lit (.bool false)], args := [d1, d2] }
  | _ => none }
def IsoForgetsWrongFalsely : Prop := isoForgetsRow.holds Try.pinned (OpenSpec.ofChange isoForgetsWrong)

/-- 'towpathlaw08.IsoNil': WHATEVER THE INPUT: true; the input reads as it did. -/
def isoNilSpec : ChangeSpec := { name := "isoNil", fn := fun _ => fun
  | [d1, d2] => { results := [.lit (.bool true)], args := [d1, d2] }
  | _ => none }
def isoNilRow : OpenClaim := { program := "ytpjfebedfejmgaa", sum := "94ad74ce153b5b11e0101baf0ac7933689a10c711cdf49f1abbfade447609652", func := "towpath/towpathlaw08.IsoNil", spec := "isoNil", inPlace := ["maps.clone"], unfollowed := true, recurses := true, plainKeys := false, apart := false }
def IsoNilSaid : Prop := isoNilRow.holds Try.pinned (OpenSpec.ofChange isoNilSpec)

/-- ITS FALSE NEIGHBOUR: 'it returns false'. Refute it at one input. -/
def isoNilWrong : ChangeSpec := { name := "isoNil", fn := fun _ => fun
  | [d1, d2] => { results := [.lit (.bool false)], args := [d1, d2] }
  | _ => none }
def IsoNilWrongFalsely : Prop := isoNilRow.holds Try.pinned (OpenSpec.ofChange isoNilWrong)

/-- 'towpathlaw08.IsoBytes': WHATEVER THE INPUT: true; the input reads as it did. -/
def isoBytesSpec : ChangeSpec := { name := "isoBytes", fn := fun _ => fun
  | [d1, d2, d3, d4] => { results := [.lit (.bool true)], args := [d1, d2, d3, d4] }
  | _ => none }
def isoBytesRow : OpenClaim := { program := "ytpjfebedfejmgaa", sum := "94ad74ce153b5b11e0101baf0ac7933689a10c711cdf49f1abbfade447609652", func := "towpath/towpathlaw08.IsoBytes", spec := "isoBytes", unfollowed := true, recurses := true, plainKeys := false, apart := false }
def IsoBytesSaid : Prop := isoBytesRow.holds Try.pinned (OpenSpec.ofChange isoBytesSpec)

/-- ITS FALSE NEIGHBOUR: 'it returns false'. Refute it at one input. -/
def isoBytesWrong : ChangeSpec := { name := "isoBytes", fn := fun _ => fun
  | [d1, d2, d3, d4] => { results := [.lit (.bool false)], args := [d1, d2, d3, d4] }
  | _ => none }
def IsoBytesWrongFalsely : Prop := isoBytesRow.holds Try.pinned (OpenSpec.ofChange isoBytesWrong)

/-- 'towpathlaw08.IsoPlays': WHATEVER THE INPUT: true; the input reads as it did. -/
def isoPlaysSpec : ChangeSpec := { name := "isoPlays", fn := fun _ => fun
  | [d] => { results := [.lit (.bool true)], args := [d] }
  | _ => none }
def isoPlaysRow : OpenClaim := { program := "ytpjfebedfejmgaa", sum := "94ad74ce153b5b11e0101baf0ac7933689a10c711cdf49f1abbfade447609652", func := "towpath/towpathlaw08.IsoPlays", spec := "isoPlays", unfollowed := true, recurses := true, plainKeys := false, apart := false }
def IsoPlaysSaid : Prop := isoPlaysRow.holds Try.pinned (OpenSpec.ofChange isoPlaysSpec)

/-- ITS FALSE NEIGHBOUR: 'it returns false'. Refute it at one input. -/
def isoPlaysWrong : ChangeSpec := { name := "isoPlays", fn := fun _ => fun
  | [d] => { results := [.lit (.bool false)], args := [d] }
  | _ => none }
def IsoPlaysWrongFalsely : Prop := isoPlaysRow.holds Try.pinned (OpenSpec.ofChange isoPlaysWrong)

/- THE SECOND FORM. 'bulk': how many values and letters a reading holds, each counted each time it is reached (what is shared counts as often as it is met; a slice's spare places count too). A statement '..UptoSaid' is the law's where the arguments, and the package variables that the reading takes, are together of bulk at most 1048576: NARROWER than '..Said'. Prove '..Said' where nothing that the law and all that it calls make is longer than what came in: it says more and counts as full. Else prove '..UptoSaid'. A law counts once. -/
mutual
def uptoBulk {H : Type} : DataW H → Nat
  | .lit (.string bytes) => bytes.length + 1
  | .lit _ => 1
  | .nil => 1
  | .ptr d => uptoBulk d + 1
  | .slice elems spare => uptoBulkAll elems + uptoBulkAll spare + 1
  | .agg parts => uptoBulkAll parts + 1
  | .iface _ d => uptoBulk d + 1
  | .map entries => uptoBulkEntries entries + 1
  | .held _ => 1
def uptoBulkAll {H : Type} : List (DataW H) → Nat
  | [] => 0
  | d :: r => uptoBulk d + uptoBulkAll r
def uptoBulkEntries {H : Type} : List (Lit × DataW H) → Nat
  | [] => 0
  | x :: r => uptoBulkEntry x + uptoBulkEntries r
def uptoBulkEntry {H : Type} : Lit × DataW H → Nat
  | (.string bytes, d) => bytes.length + uptoBulk d + 1
  | (_, d) => uptoBulk d + 1
 end
def uptoSmall : (H : Type) → List (DataW H) → Bool := fun _ ds => decide (uptoBulkAll ds ≤ 1048576)
def OpenSpec.upto (s : _root_.Go.ChangeSpec) : _root_.Go.OpenSpec := { _root_.Go.OpenSpec.ofChange s with cond := some uptoSmall }

/-- 'towpathlaw08.IsoCommitted', WHERE WHAT IT READS IS OF BULK AT MOST 1048576: true; the input reads as it did. -/
def isoCommittedUptoRow : OpenClaim := { program := "ytpjfebedfejmgaa", sum := "94ad74ce153b5b11e0101baf0ac7933689a10c711cdf49f1abbfade447609652", func := "towpath/towpathlaw08.IsoCommitted", spec := "isoCommitted", unfollowed := true, recurses := true, plainKeys := false, apart := false, narrowed := true }
def IsoCommittedUptoSaid : Prop := isoCommittedUptoRow.holds Try.pinned (OpenSpec.upto isoCommittedSpec)

/-- 'towpathlaw08.IsoWhole', WHERE WHAT IT READS IS OF BULK AT MOST 1048576: true; the input reads as it did. -/
def isoWholeUptoRow : OpenClaim := { program := "ytpjfebedfejmgaa", sum := "94ad74ce153b5b11e0101baf0ac7933689a10c711cdf49f1abbfade447609652", func := "towpath/towpathlaw08.IsoWhole", spec := "isoWhole", unfollowed := true, recurses := true, plainKeys := false, apart := false, narrowed := true }
def IsoWholeUptoSaid : Prop := isoWholeUptoRow.holds Try.pinned (OpenSpec.upto isoWholeSpec)

/-- 'towpathlaw08.IsoGrows', WHERE WHAT IT READS IS OF BULK AT MOST 1048576: true; the input reads as it did. -/
def isoGrowsUptoRow : OpenClaim := { program := "ytpjfebedfejmgaa", sum := "94ad74ce153b5b11e0101baf0ac7933689a10c711cdf49f1abbfade447609652", func := "towpath/towpathlaw08.IsoGrows", spec := "isoGrows", unfollowed := true, recurses := true, plainKeys := false, apart := false, narrowed := true }
def IsoGrowsUptoSaid : Prop := isoGrowsUptoRow.holds Try.pinned (OpenSpec.upto isoGrowsSpec)

/-- 'towpathlaw08.IsoForgets', WHERE WHAT IT READS IS OF BULK AT MOST 1048576: true; the input reads as it did. -/
def isoForgetsUptoRow : OpenClaim := { program := "ytpjfebedfejmgaa", sum := "94ad74ce153b5b11e0101baf0ac7933689a10c711cdf49f1abbfade447609652", func := "towpath/towpathlaw08.IsoForgets", spec := "isoForgets", unfollowed := true, recurses := true, plainKeys := false, apart := false, narrowed := true }
def IsoForgetsUptoSaid : Prop := isoForgetsUptoRow.holds Try.pinned (OpenSpec.upto isoForgetsSpec)

/-- 'towpathlaw08.IsoNil', WHERE WHAT IT READS IS OF BULK AT MOST 1048576: true; the input reads as it did. -/
def isoNilUptoRow : OpenClaim := { program := "ytpjfebedfejmgaa", sum := "94ad74ce153b5b11e0101baf0ac7933689a10c711cdf49f1abbfade447609652", func := "towpath/towpathlaw08.IsoNil", spec := "isoNil", inPlace := ["maps.clone"], unfollowed := true, recurses := true, plainKeys := false, apart := false, narrowed := true }
def IsoNilUptoSaid : Prop := isoNilUptoRow.holds Try.pinned (OpenSpec.upto isoNilSpec)

/-- 'towpathlaw08.IsoBytes', WHERE WHAT IT READS IS OF BULK AT MOST 1048576: true; the input reads as it did. -/
def isoBytesUptoRow : OpenClaim := { program := "ytpjfebedfejmgaa", sum := "94ad74ce153b5b11e0101baf0ac7933689a10c711cdf49f1abbfade447609652", func := "towpath/towpathlaw08.IsoBytes", spec := "isoBytes", unfollowed := true, recurses := true, plainKeys := false, apart := false, narrowed := true }
def IsoBytesUptoSaid : Prop := isoBytesUptoRow.holds Try.pinned (OpenSpec.upto isoBytesSpec)

/-- 'towpathlaw08.IsoPlays', WHERE WHAT IT READS IS OF BULK AT MOST 1048576: true; the input reads as it did. -/
def isoPlaysUptoRow : OpenClaim := { program := "ytpjfebedfejmgaa", sum := "94ad74ce153b5b11e0101baf0ac7933689a10c711cdf49f1abbfade447609652", func := "towpath/towpathlaw08.IsoPlays", spec := "isoPlays", unfollowed := true, recurses := true, plainKeys := false, apart := false, narrowed := true }
def IsoPlaysUptoSaid : Prop := isoPlaysUptoRow.holds Try.pinned (OpenSpec.upto isoPlaysSpec)

end Rows
end Go.Proofs.Ytpjfebedfejmgaa
