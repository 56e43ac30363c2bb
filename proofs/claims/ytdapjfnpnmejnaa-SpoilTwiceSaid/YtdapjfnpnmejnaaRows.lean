/-
  No cell of these rows narrows 'for every input' (looked for: loops, veiled, ifaces, maps, wideKeys, modest, calm, conditions, laid).
  DERIVED. THE GIVEN ROWS OF THIS SEAT. 4 by the template 'for every input the law returns true; each argument reads behind the call as it read before'; 0 by the template 'total and deterministic' (their statements: YtdapjfnpnmejnaaTotals.lean).
  GIVEN WITH THE SEED: the statements are not yours to turn. If you find one false, say at which input.
  Laid BY PROGRAM, IN A SANDBOX (cutbox-rows.mjs): the forced cells as the released guide's own fill.sh prints them over the translation 35dfcb74d848323f… (all of the seat's roots in one cut). By AI agents, Wed Nov 11 2026. No macro, syntax, notation, axiom, sorry.
-/
import Derived.Test.YtdapjfnpnmejnaaChecked
import GoSem.Claim
import GoSem.ClaimJoined
import GoSem.ClaimMapViews
import Derived.JoinedTies
import Derived.KernelRfl
namespace Go.Proofs.Ytdapjfnpnmejnaa
/- THE CELL 'sum', in the pinned program and in every row, IS THE sha256 OF THE DUMP (.gsa) THAT YtdapjfnpnmejnaaProg.lean LOADS. Nothing in Lean hashes anything: it is a label: what it is worth is what the hold of that sum in a sandbox is worth. -/
noncomputable def Try.pinned : Pinned := { name := "ytdapjfnpnmejnaa", sum := "35dfcb74d848323f3044b7d8ace3149ae6ff1c8fe2e6cf42a0f9eb7468db56c0", checked := Try.checked }
namespace Rows
def none {H : Type} : Left H := { results := [], args := [] }

/-- 'juratlaw45.FrontCuts': WHATEVER THE INPUT: true; the input reads as it did. -/
def frontCutsSpec : ChangeSpec := { name := "frontCuts", fn := fun _ => fun
  | [d1, d2] => { results := [.lit (.bool true)], args := [d1, d2] }
  | _ => none }
def frontCutsRow : OpenClaim := { program := "ytdapjfnpnmejnaa", sum := "35dfcb74d848323f3044b7d8ace3149ae6ff1c8fe2e6cf42a0f9eb7468db56c0", func := "jurat/juratlaw45.FrontCuts", spec := "frontCuts", inPlace := ["internal/abi.NoEscape"], unfollowed := true, recurses := true, apart := false }
def FrontCutsSaid : Prop := frontCutsRow.holds Try.pinned (OpenSpec.ofChange frontCutsSpec)

/-- ITS FALSE NEIGHBOUR: 'it returns false'. Refute it at one input. -/
def frontCutsWrong : ChangeSpec := { name := "frontCuts", fn := fun _ => fun
  | [d1, d2] => { results := [.lit (.bool false)], args := [d1, d2] }
  | _ => none }
def FrontCutsWrongFalsely : Prop := frontCutsRow.holds Try.pinned (OpenSpec.ofChange frontCutsWrong)

/-- 'juratlaw40.BoundTells': WHATEVER THE INPUT: true; the input reads as it did. -/
def boundTellsSpec : ChangeSpec := { name := "boundTells", fn := fun _ => fun
  | [d1, d2, d3] => { results := [.lit (.bool true)], args := [d1, d2, d3] }
  | _ => none }
def boundTellsRow : OpenClaim := { program := "ytdapjfnpnmejnaa", sum := "35dfcb74d848323f3044b7d8ace3149ae6ff1c8fe2e6cf42a0f9eb7468db56c0", func := "jurat/juratlaw40.BoundTells", spec := "boundTells", unfollowed := true, recurses := true, apart := false }
def BoundTellsSaid : Prop := boundTellsRow.holds Try.pinned (OpenSpec.ofChange boundTellsSpec)

/-- ITS FALSE NEIGHBOUR: 'it returns false'. Refute it at one input. -/
def boundTellsWrong : ChangeSpec := { name := "boundTells", fn := fun _ => fun
  | [d1, d2, d3] => { results := [.lit (.bool false)], args := [d1, d2, d3] }
  | _ => none }
def BoundTellsWrongFalsely : Prop := boundTellsRow.holds Try.pinned (OpenSpec.ofChange boundTellsWrong)

/-- 'juratlaw41.SpoilEdits': WHATEVER THE INPUT: true; the input reads as it did. -/
def spoilEditsSpec : ChangeSpec := { name := "spoilEdits", fn := fun _ => fun
  | [d1, d2] => { results := [.lit (.bool true)], args := [d1, d2] }
  | _ => none }
def spoilEditsRow : OpenClaim := { program := "ytdapjfnpnmejnaa", sum := "35dfcb74d848323f3044b7d8ace3149ae6ff1c8fe2e6cf42a0f9eb7468db56c0", func := "jurat/juratlaw41.SpoilEdits", spec := "spoilEdits", inPlace := ["slices.overlaps[jurat/api.Record]", "slices.overlaps[int]", "internal/abi.NoEscape"], unfollowed := true, recurses := true, apart := false }
def SpoilEditsSaid : Prop := spoilEditsRow.holds Try.pinned (OpenSpec.ofChange spoilEditsSpec)

/-- ITS FALSE NEIGHBOUR: 'it returns false'. Refute it at one input. -/
def spoilEditsWrong : ChangeSpec := { name := "spoilEdits", fn := fun _ => fun
  | [d1, d2] => { results := [.lit (.bool false)], args := [d1, d2] }
  | _ => none }
def SpoilEditsWrongFalsely : Prop := spoilEditsRow.holds Try.pinned (OpenSpec.ofChange spoilEditsWrong)

/-- 'juratlaw41.SpoilTwice': WHATEVER THE INPUT: true; the input reads as it did. -/
def spoilTwiceSpec : ChangeSpec := { name := "spoilTwice", fn := fun _ => fun
  | [d1, d2, d3] => { results := [.lit (.bool true)], args := [d1, d2, d3] }
  | _ => none }
def spoilTwiceRow : OpenClaim := { program := "ytdapjfnpnmejnaa", sum := "35dfcb74d848323f3044b7d8ace3149ae6ff1c8fe2e6cf42a0f9eb7468db56c0", func := "jurat/juratlaw41.SpoilTwice", spec := "spoilTwice", inPlace := ["slices.overlaps[jurat/api.Record]", "slices.overlaps[int]", "internal/abi.NoEscape"], unfollowed := true, recurses := true, apart := false }
def SpoilTwiceSaid : Prop := spoilTwiceRow.holds Try.pinned (OpenSpec.ofChange spoilTwiceSpec)

/-- ITS FALSE NEIGHBOUR: 'it returns false'. Refute it at one input. -/
def spoilTwiceWrong : ChangeSpec := { name := "spoilTwice", fn := fun _ => fun
  | [d1, d2, d3] => { results := [.lit (.bool false)], args := [d1, d2, d3] }
  | _ => none }
def SpoilTwiceWrongFalsely : Prop := spoilTwiceRow.holds Try.pinned (OpenSpec.ofChange spoilTwiceWrong)

/- THE SECOND FORM. 'bulk': how many values and letters a reading holds, each counted each time it is reached (what is shared counts as often as it is met; a slice's spare places count too). A statement '..UptoSaid' is the law's where the arguments, and the package variables that the reading takes, are together of bulk at most 1048576: NARROWER than '..Said'. Prove '..Said' where nothing that the law and all that it calls make is longer than what came in: it says more and counts as full. Else prove '..UptoSaid'. A law counts once. -/
mutual
def uptoBulk {H : Type} : DataW H → Nat
  | .lit (.string bytes) => bytes.length + 1
  | .lit _ => 1
  | .nil => 1
  | .ptr d => uptoBulk d + 1
  | .slice elems spare => uptoBulkAll elems + uptoBulkAll spare + 1
  | .agg parts => uptoBulkAll parts + 1
  | .iface _ d => uptoBulk d + 1
  | .map entries => uptoBulkEntries entries + 1
  | .held _ => 1
def uptoBulkAll {H : Type} : List (DataW H) → Nat
  | [] => 0
  | d :: r => uptoBulk d + uptoBulkAll r
def uptoBulkEntries {H : Type} : List (Lit × DataW H) → Nat
  | [] => 0
  | x :: r => uptoBulkEntry x + uptoBulkEntries r
def uptoBulkEntry {H : Type} : Lit × DataW H → Nat
  | (.string bytes, d) => bytes.length + uptoBulk d + 1
  | (_, d) => uptoBulk d + 1
 end
def uptoSmall : (H : Type) → List (DataW H) → Bool := fun _ ds => decide (uptoBulkAll ds ≤ 1048576)
def OpenSpec.upto (s : _root_.Go.ChangeSpec) : _root_.Go.OpenSpec := { _root_.Go.OpenSpec.ofChange s with cond := some uptoSmall }

/-- 'juratlaw45.FrontCuts', WHERE WHAT IT READS IS OF BULK AT MOST 1048576: true; the input reads as it did. -/
def frontCutsUptoRow : OpenClaim := { program := "ytdapjfnpnmejnaa", sum := "35dfcb74d848323f3044b7d8ace3149ae6ff1c8fe2e6cf42a0f9eb7468db56c0", func := "jurat/juratlaw45.FrontCuts", spec := "frontCuts", inPlace := ["internal/abi.NoEscape"], unfollowed := true, recurses := true, apart := false, narrowed := true }
def FrontCutsUptoSaid : Prop := frontCutsUptoRow.holds Try.pinned (OpenSpec.upto frontCutsSpec)

/-- 'juratlaw40.BoundTells', WHERE WHAT IT READS IS OF BULK AT MOST 1048576: true; the input reads as it did. -/
def boundTellsUptoRow : OpenClaim := { program := "ytdapjfnpnmejnaa", sum := "35dfcb74d848323f3044b7d8ace3149ae6ff1c8fe2e6cf42a0f9eb7468db56c0", func := "jurat/juratlaw40.BoundTells", spec := "boundTells", unfollowed := true, recurses := true, apart := false, narrowed := true }
def BoundTellsUptoSaid : Prop := boundTellsUptoRow.holds Try.pinned (OpenSpec.upto boundTellsSpec)

/-- 'juratlaw41.SpoilEdits', WHERE WHAT IT READS IS OF BULK AT MOST 1048576: true; the input reads as it did. -/
def spoilEditsUptoRow : OpenClaim := { program := "ytdapjfnpnmejnaa", sum := "35dfcb74d848323f3044b7d8ace3149ae6ff1c8fe2e6cf42a0f9eb7468db56c0", func := "jurat/juratlaw41.SpoilEdits", spec := "spoilEdits", inPlace := ["slices.overlaps[jurat/api.Record]", "slices.overlaps[int]", "internal/abi.NoEscape"], unfollowed := true, recurses := true, apart := false, narrowed := true }
def SpoilEditsUptoSaid : Prop := spoilEditsUptoRow.holds Try.pinned (OpenSpec.upto spoilEditsSpec)

/-- 'juratlaw41.SpoilTwice', WHERE WHAT IT READS IS OF BULK AT MOST 1048576: true; the input reads as it did. -/
def spoilTwiceUptoRow : OpenClaim := { program := "ytdapjfnpnmejnaa", sum := "35dfcb74d848323f3044b7d8ace3149ae6ff1c8fe2e6cf42a0f9eb7468db56c0", func := "jurat/juratlaw41.SpoilTwice", spec := "spoilTwice", inPlace := ["slices.overlaps[jurat/api.Record]", "slices.overlaps[int]", "internal/abi.NoEscape"], unfollowed := true, recurses := true, apart := false, narrowed := true }
def SpoilTwiceUptoSaid : Prop := spoilTwiceUptoRow.holds Try.pinned (OpenSpec.upto spoilTwiceSpec)

end Rows
end Go.Proofs.Ytdapjfnpnmejnaa
