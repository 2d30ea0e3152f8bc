/-
  No cell of these rows narrows 'for every input' (looked for: loops, veiled, ifaces, maps, wideKeys, modest, calm, conditions, laid).
  DERIVED. THE GIVEN ROWS OF THIS SEAT. 4 by the template 'for every input the law returns true; each argument reads behind the call as it read before'; 0 by the template 'total and deterministic' (their statements: YtcpmaccapgpgaaaTotals.lean).
  GIVEN WITH THE SEED: the statements are not yours to turn. If you find one false, say at which input.
  Laid BY PROGRAM, IN A SANDBOX (cutbox-rows.mjs): the forced cells as the released guide's own fill.sh prints them over the translation 5d5b35693fdc9da4… (all of the seat's roots in one cut). By AI agents, Wed Nov 11 2026. No macro, syntax, notation, axiom, sorry.
-/
import Derived.Test.YtcpmaccapgpgaaaChecked
import GoSem.Claim
import GoSem.ClaimJoined
import GoSem.ClaimMapViews
import Derived.JoinedTies
import Derived.KernelRfl
namespace Go.Proofs.Ytcpmaccapgpgaaa
/- THE CELL 'sum', in the pinned program and in every row, IS THE sha256 OF THE DUMP (.gsa) THAT YtcpmaccapgpgaaaProg.lean LOADS. Nothing in Lean hashes anything: it is a label: what it is worth is what the hold of that sum in a sandbox is worth. -/
noncomputable def Try.pinned : Pinned := { name := "ytcpmaccapgpgaaa", sum := "5d5b35693fdc9da4bca8d01f28542ed01ecef737dcf30c74ecab15231454c44a", checked := Try.checked }
namespace Rows
def none {H : Type} : Left H := { results := [], args := [] }

/-- 'towpathlaw07.DedupOnce': WHATEVER THE INPUT: true; the input reads as it did. -/
def dedupOnceSpec : ChangeSpec := { name := "dedupOnce", fn := fun _ => fun
  | [d1, d2] => { results := [.lit (.bool true)], args := [d1, d2] }
  | _ => none }
def dedupOnceRow : OpenClaim := { program := "ytcpmaccapgpgaaa", sum := "5d5b35693fdc9da4bca8d01f28542ed01ecef737dcf30c74ecab15231454c44a", func := "towpath/towpathlaw07.DedupOnce", spec := "dedupOnce", unfollowed := true, recurses := true, apart := false }
def DedupOnceSaid : Prop := dedupOnceRow.holds Try.pinned (OpenSpec.ofChange dedupOnceSpec)

/-- ITS FALSE NEIGHBOUR: 'it returns false'. Refute it at one input. -/
def dedupOnceWrong : ChangeSpec := { name := "dedupOnce", fn := fun _ => fun
  | [d1, d2] => { results := [.lit (.bool false)], args := [d1, d2] }
  | _ => none }
def DedupOnceWrongFalsely : Prop := dedupOnceRow.holds Try.pinned (OpenSpec.ofChange dedupOnceWrong)

/-- 'towpathlaw07.DedupStable': WHATEVER THE INPUT: true; the input reads as it did. -/
def dedupStableSpec : ChangeSpec := { name := "dedupStable", fn := fun _ => fun
  | [d] => { results := [.lit (.bool true)], args := [d] }
  | _ => none }
def dedupStableRow : OpenClaim := { program := "ytcpmaccapgpgaaa", sum := "5d5b35693fdc9da4bca8d01f28542ed01ecef737dcf30c74ecab15231454c44a", func := "towpath/towpathlaw07.DedupStable", spec := "dedupStable", unfollowed := true, recurses := true, apart := false }
def DedupStableSaid : Prop := dedupStableRow.holds Try.pinned (OpenSpec.ofChange dedupStableSpec)

/-- ITS FALSE NEIGHBOUR: 'it returns false'. Refute it at one input. -/
def dedupStableWrong : ChangeSpec := { name := "dedupStable", fn := fun _ => fun
  | [d] => { results := [.lit (.bool false)], args := [d] }
  | _ => none }
def DedupStableWrongFalsely : Prop := dedupStableRow.holds Try.pinned (OpenSpec.ofChange dedupStableWrong)

/-- 'towpathlaw07.DedupNews': WHATEVER THE INPUT: true; the input reads as it did. -/
def dedupNewsSpec : ChangeSpec := { name := "dedupNews", fn := fun _ => fun
  | [d] => { results := [.lit (.bool true)], args := [d] }
  | _ => none }
def dedupNewsRow : OpenClaim := { program := "ytcpmaccapgpgaaa", sum := "5d5b35693fdc9da4bca8d01f28542ed01ecef737dcf30c74ecab15231454c44a", func := "towpath/towpathlaw07.DedupNews", spec := "dedupNews", unfollowed := true, recurses := true, apart := false }
def DedupNewsSaid : Prop := dedupNewsRow.holds Try.pinned (OpenSpec.ofChange dedupNewsSpec)

/-- ITS FALSE NEIGHBOUR: 'it returns false'. Refute it at one input. -/
def dedupNewsWrong : ChangeSpec := { name := "dedupNews", fn := fun _ => fun
  | [d] => { results := [.lit (.bool false)], args := [d] }
  | _ => none }
def DedupNewsWrongFalsely : Prop := dedupNewsRow.holds Try.pinned (OpenSpec.ofChange dedupNewsWrong)

/-- 'towpathlaw07.DedupNil': WHATEVER THE INPUT: true; the input reads as it did. -/
def dedupNilSpec : ChangeSpec := { name := "dedupNil", fn := fun _ => fun
  | [d1, d2] => { results := [.lit (.bool true)], args := [d1, d2] }
  | _ => none }
def dedupNilRow : OpenClaim := { program := "ytcpmaccapgpgaaa", sum := "5d5b35693fdc9da4bca8d01f28542ed01ecef737dcf30c74ecab15231454c44a", func := "towpath/towpathlaw07.DedupNil", spec := "dedupNil", inPlace := ["maps.clone"], unfollowed := true, recurses := true, apart := false }
def DedupNilSaid : Prop := dedupNilRow.holds Try.pinned (OpenSpec.ofChange dedupNilSpec)

/-- ITS FALSE NEIGHBOUR: 'it returns false'. Refute it at one input. -/
def dedupNilWrong : ChangeSpec := { name := "dedupNil", fn := fun _ => fun
  | [d1, d2] => { results := [.lit (.bool false)], args := [d1, d2] }
  | _ => none }
def DedupNilWrongFalsely : Prop := dedupNilRow.holds Try.pinned (OpenSpec.ofChange dedupNilWrong)

/- THE SECOND FORM. 'bulk': how many values and letters a reading holds, each counted each time it is reached (what is shared counts as often as it is met; a slice's spare places count too). A statement '..UptoSaid' is the law's where the arguments, and the package variables that the reading takes, are together of bulk at most 1048576: NARROWER than '..Said'. Prove '..Said' where nothing that the law and all that it calls make is longer than what came in: it says more and counts as full. Else prove '..UptoSaid'. A law counts once. -/
mutual
def uptoBulk {H : Type} : DataW H → Nat
  | .lit (.string bytes) => bytes.length + 1
  | .lit _ => 1
  | .nil => 1
  | .ptr d => uptoBulk d + 1
  | .slice elems spare => uptoBulkAll elems + uptoBulkAll spare + 1
  | .agg parts => uptoBulkAll parts + 1
  | .iface _ d => uptoBulk d + 1
  | .map entries => uptoBulkEntries entries + 1
  | .held _ => 1
def uptoBulkAll {H : Type} : List (DataW H) → Nat
  | [] => 0
  | d :: r => uptoBulk d + uptoBulkAll r
def uptoBulkEntries {H : Type} : List (Lit × DataW H) → Nat
  | [] => 0
  | x :: r => uptoBulkEntry x + uptoBulkEntries r
def uptoBulkEntry {H : Type} : Lit × DataW H → Nat
  | (.string bytes, d) => bytes.length + uptoBulk d + 1
  | (_, d) => uptoBulk d + 1
 end
def uptoSmall : (H : Type) → List (DataW H) → Bool := fun _ ds => decide (uptoBulkAll ds ≤ 1048576)
def OpenSpec.upto (s : _root_.Go.ChangeSpec) : _root_.Go.OpenSpec := { _root_.Go.OpenSpec.ofChange s with cond := some uptoSmall }

/-- 'towpathlaw07.DedupOnce', WHERE WHAT IT READS IS OF BULK AT MOST 1048576: true; the input reads as it did. -/
def dedupOnceUptoRow : OpenClaim := { program := "ytcpmaccapgpgaaa", sum := "5d5b35693fdc9da4bca8d01f28542ed01ecef737dcf30c74ecab15231454c44a", func := "towpath/towpathlaw07.DedupOnce", spec := "dedupOnce", unfollowed := true, recurses := true, apart := false, narrowed := true }
def DedupOnceUptoSaid : Prop := dedupOnceUptoRow.holds Try.pinned (OpenSpec.upto dedupOnceSpec)

/-- 'towpathlaw07.DedupStable', WHERE WHAT IT READS IS OF BULK AT MOST 1048576: true; the input reads as it did. -/
def dedupStableUptoRow : OpenClaim := { program := "ytcpmaccapgpgaaa", sum := "5d5b35693fdc9da4bca8d01f28542ed01ecef737dcf30c74ecab15231454c44a", func := "towpath/towpathlaw07.DedupStable", spec := "dedupStable", unfollowed := true, recurses := true, apart := false, narrowed := true }
def DedupStableUptoSaid : Prop := dedupStableUptoRow.holds Try.pinned (OpenSpec.upto dedupStableSpec)

/-- 'towpathlaw07.DedupNews', WHERE WHAT IT READS IS OF BULK AT MOST 1048576: true; the input reads as it did. -/
def dedupNewsUptoRow : OpenClaim := { program := "ytcpmaccapgpgaaa", sum := "5d5b35693fdc9da4bca8d01f28542ed01ecef737dcf30c74ecab15231454c44a", func := "towpath/towpathlaw07.DedupNews", spec := "dedupNews", unfollowed := true, recurses := true, apart := false, narrowed := true }
def DedupNewsUptoSaid : Prop := dedupNewsUptoRow.holds Try.pinned (OpenSpec.upto dedupNewsSpec)

/-- 'towpathlaw07.DedupNil', WHERE WHAT IT READS IS OF BULK AT MOST 1048576: true; the input reads as it did. -/
def dedupNilUptoRow : OpenClaim := { program := "ytcpmaccapgpgaaa", sum := "5d5b35693fdc9da4bca8d01f28542ed01ecef737dcf30c74ecab15231454c44a", func := "towpath/towpathlaw07.DedupNil", spec := "dedupNil", inPlace := ["maps.clone"], unfollowed := true, recurses := true, apart := false, narrowed := true }
def DedupNilUptoSaid : Prop := dedupNilUptoRow.holds Try.pinned (OpenSpec.upto dedupNilSpec)

end Rows
end Go.Proofs.Ytcpmaccapgpgaaa
