/-
  No cell of these rows narrows 'for every input' (looked for: loops, veiled, ifaces, maps, wideKeys, modest, calm, conditions, laid).
  DERIVED. THE GIVEN ROWS OF THIS SEAT. 7 by the template 'for every input the law returns true; each argument reads behind the call as it read before'; 0 by the template 'total and deterministic' (their statements: YtkbdfnmeomkpjaaTotals.lean).
  GIVEN WITH THE SEED: the statements are not yours to turn. If you find one false, say at which input.
  Laid BY PROGRAM, IN A SANDBOX (cutbox-rows.mjs): the forced cells as the released guide's own fill.sh prints them over the translation 8afa3fff7d1ee213… (all of the seat's roots in one cut). By AI agents, Wed Nov 11 2026. No macro, syntax, notation, axiom, sorry.
-/
import Derived.Test.YtkbdfnmeomkpjaaChecked
import GoSem.Claim
import GoSem.ClaimJoined
import GoSem.ClaimMapViews
import Derived.JoinedTies
import Derived.KernelRfl
namespace Go.Proofs.Ytkbdfnmeomkpjaa
/- THE CELL 'sum', in the pinned program and in every row, IS THE sha256 OF THE DUMP (.gsa) THAT YtkbdfnmeomkpjaaProg.lean LOADS. Nothing in Lean hashes anything: it is a label: what it is worth is what the hold of that sum in a sandbox is worth. -/
noncomputable def Try.pinned : Pinned := { name := "ytkbdfnmeomkpjaa", sum := "8afa3fff7d1ee2134a73a8dcee3544c96b5ecefb7888f66b15b35954a9fb5fc8", checked := Try.checked }
namespace Rows
def none {H : Type} : Left H := { results := [], args := [] }

/-- 'juratlaw34.GuardAgrees': WHATEVER THE INPUT: true; the input reads as it did. -/
def guardAgreesSpec : ChangeSpec := { name := "guardAgrees", fn := fun _ => fun
  | [d1, d2, d3] => { results := [.lit (.bool true)], args := [d1, d2, d3] }
  | _ => none }
def guardAgreesRow : OpenClaim := { program := "ytkbdfnmeomkpjaa", sum := "8afa3fff7d1ee2134a73a8dcee3544c96b5ecefb7888f66b15b35954a9fb5fc8", func := "jurat/juratlaw34.GuardAgrees", spec := "guardAgrees", unfollowed := true, recurses := true, apart := false }
def GuardAgreesSaid : Prop := guardAgreesRow.holds Try.pinned (OpenSpec.ofChange guardAgreesSpec)

/-- ITS FALSE NEIGHBOUR: 'it returns false'. Refute it at one input. -/
def guardAgreesWrong : ChangeSpec := { name := "guardAgrees", fn := fun _ => fun
  | [d1, d2, d3] => { results := [.lit (.bool false)], args := [d1, d2, d3] }
  | _ => none }
def GuardAgreesWrongFalsely : Prop := guardAgreesRow.holds Try.pinned (OpenSpec.ofChange guardAgreesWrong)

/-- 'juratlaw34.GuardTells': WHATEVER THE INPUT: true; the input reads as it did. -/
def guardTellsSpec : ChangeSpec := { name := "guardTells", fn := fun _ => fun
  | [d1, d2, d3, d4] => { results := [.lit (.bool true)], args := [d1, d2, d3, d4] }
  | _ => none }
def guardTellsRow : OpenClaim := { program := "ytkbdfnmeomkpjaa", sum := "8afa3fff7d1ee2134a73a8dcee3544c96b5ecefb7888f66b15b35954a9fb5fc8", func := "jurat/juratlaw34.GuardTells", spec := "guardTells", unfollowed := true, recurses := true, apart := false }
def GuardTellsSaid : Prop := guardTellsRow.holds Try.pinned (OpenSpec.ofChange guardTellsSpec)

/-- ITS FALSE NEIGHBOUR: 'it returns false'. Refute it at one input. -/
def guardTellsWrong : ChangeSpec := { name := "guardTells", fn := fun _ => fun
  | [d1, d2, d3, d4] => { results := [.lit (.bool false)], args := [d1, d2, d3, d4] }
  | _ => none }
def GuardTellsWrongFalsely : Prop := guardTellsRow.holds Try.pinned (OpenSpec.ofChange guardTellsWrong)

/-- 'juratlaw17.LinkReads': WHATEVER THE INPUT: true; the input reads as it did. -/
def linkReadsSpec : ChangeSpec := { name := "linkReads", fn := fun _ => fun
  | [d1, d2] => { results := [.lit (.bool true)], args := [d1, d2] }
  | _ => none }
def linkReadsRow : OpenClaim := { program := "ytkbdfnmeomkpjaa", sum := "8afa3fff7d1ee2134a73a8dcee3544c96b5ecefb7888f66b15b35954a9fb5fc8", func := "jurat/juratlaw17.LinkReads", spec := "linkReads", unfollowed := true, recurses := true, apart := false }
def LinkReadsSaid : Prop := linkReadsRow.holds Try.pinned (OpenSpec.ofChange linkReadsSpec)

/-- ITS FALSE NEIGHBOUR: 'it returns false'. Refute it at one input. -/
def linkReadsWrong : ChangeSpec := { name := "linkReads", fn := fun _ => fun
  | [d1, d2] => { results := [.lit (.bool false)], args := [d1, d2] }
  | _ => none }
def LinkReadsWrongFalsely : Prop := linkReadsRow.holds Try.pinned (OpenSpec.ofChange linkReadsWrong)

/-- 'juratlaw17.LinkTells': WHATEVER THE INPUT: true; the input reads as it did. -/
def linkTellsSpec : ChangeSpec := { name := "linkTells", fn := fun _ => fun
  | [d1, d2] => { results := [.lit (.bool true)], args := [d1, d2] }
  | _ => none }
def linkTellsRow : OpenClaim := { program := "ytkbdfnmeomkpjaa", sum := "8afa3fff7d1ee2134a73a8dcee3544c96b5ecefb7888f66b15b35954a9fb5fc8", func := "jurat/juratlaw17.LinkTells", spec := "linkTells", unfollowed := true, recurses := true, apart := false }
def LinkTellsSaid : Prop := linkTellsRow.holds Try.pinned (OpenSpec.ofChange linkTellsSpec)

/-- ITS FALSE NEIGHBOUR: 'it returns false'. Refute it at one input. -/
def linkTellsWrong : ChangeSpec := { name := "linkTells", fn := fun _ => fun
  | [d1, d2] => { results := [.lit (.bool false)], args := [d1, d2] }
  | _ => none }
def LinkTellsWrongFalsely : Prop := linkTellsRow.holds Try.pinned (OpenSpec.ofChange linkTellsWrong)

/-- 'juratlaw17.LinkFalls': WHATEVER THE INPUT: true; the input reads as it did. -/
def linkFallsSpec : ChangeSpec := { name := "linkFalls", fn := fun _ => fun
  | [d1, d2, d3] => { results := [.lit (.bool true)], args := [d1, d2, d3] }
  | _ => none }
def linkFallsRow : OpenClaim := { program := "ytkbdfnmeomkpjaa", sum := "8afa3fff7d1ee2134a73a8dcee3544c96b5ecefb7888f66b15b35954a9fb5fc8", func := "jurat/juratlaw17.LinkFalls", spec := "linkFalls", unfollowed := true, recurses := true, apart := false }
def LinkFallsSaid : Prop := linkFallsRow.holds Try.pinned (OpenSpec.ofChange linkFallsSpec)

/-- ITS FALSE NEIGHBOUR: 'it returns false'. Refute it at one input. -/
def linkFallsWrong : ChangeSpec := { name := "linkFalls", fn := fun _ => fun
  | [d1, d2, d3] => { results := [.lit (.bool false)], args := [d1, d2, d3] }
  | _ => none }
def LinkFallsWrongFalsely : Prop := linkFallsRow.holds Try.pinned (OpenSpec.ofChange linkFallsWrong)

/-- 'juratlaw36.ClaimTrue': WHATEVER THE INPUT: true; the input reads as it did. -/
def claimTrueSpec : ChangeSpec := { name := "claimTrue", fn := fun _ => fun
  | [d1, d2, d3, d4] => { results := [.lit (.bool true)], args := [d1, d2, d3, d4] }
  | _ => none }
def claimTrueRow : OpenClaim := { program := "ytkbdfnmeomkpjaa", sum := "8afa3fff7d1ee2134a73a8dcee3544c96b5ecefb7888f66b15b35954a9fb5fc8", func := "jurat/juratlaw36.ClaimTrue", spec := "claimTrue", unfollowed := true, recurses := true, apart := false }
def ClaimTrueSaid : Prop := claimTrueRow.holds Try.pinned (OpenSpec.ofChange claimTrueSpec)

/-- ITS FALSE NEIGHBOUR: 'it returns false'. Refute it at one input. -/
def claimTrueWrong : ChangeSpec := { name := "claimTrue", fn := fun _ => fun
  | [d1, d2, d3, d4] => { results := [.lit (.bool false)], args := [d1, d2, d3, d4] }
  | _ => none }
def ClaimTrueWrongFalsely : Prop := claimTrueRow.holds Try.pinned (OpenSpec.ofChange claimTrueWrong)

/-- 'juratlaw21.AutoKinds': WHATEVER THE INPUT: true; the input reads as it did. -/
def autoKindsSpec : ChangeSpec := { name := "autoKinds", fn := fun _ => fun
  | [d1, d2, d3] => { results := [.lit (.bool true)], args := [d1, d2, d3] }
  | _ => none }
def autoKindsRow : OpenClaim := { program := "ytkbdfnmeomkpjaa", sum := "8afa3fff7d1ee2134a73a8dcee3544c96b5ecefb7888f66b15b35954a9fb5fc8", func := "jurat/juratlaw21.AutoKinds", spec := "autoKinds", inPlace := ["internal/abi.NoEscape"], unfollowed := true, recurses := true, apart := false }
def AutoKindsSaid : Prop := autoKindsRow.holds Try.pinned (OpenSpec.ofChange autoKindsSpec)

/-- ITS FALSE NEIGHBOUR: 'it returns false'. Refute it at one input. -/
def autoKindsWrong : ChangeSpec := { name := "autoKinds", fn := fun _ => fun
  | [d1, d2, d3] => { results := [.lit (.bool false)], args := [d1, d2, d3] }
  | _ => none }
def AutoKindsWrongFalsely : Prop := autoKindsRow.holds Try.pinned (OpenSpec.ofChange autoKindsWrong)

/- THE SECOND FORM. 'bulk': how many values and letters a reading holds, each counted each time it is reached (what is shared counts as often as it is met; a slice's spare places count too). A statement '..UptoSaid' is the law's where the arguments, and the package variables that the reading takes, are together of bulk at most 1048576: NARROWER than '..Said'. Prove '..Said' where nothing that the law and all that it calls make is longer than what came in: it says more and counts as full. Else prove '..UptoSaid'. A law counts once. -/
mutual
def uptoBulk {H : Type} : DataW H → Nat
  | .lit (.string bytes) => bytes.length + 1
  | .lit _ => 1
  | .nil => 1
  | .ptr d => uptoBulk d + 1
  | .slice elems spare => uptoBulkAll elems + uptoBulkAll spare + 1
  | .agg parts => uptoBulkAll parts + 1
  | .iface _ d => uptoBulk d + 1
  | .map entries => uptoBulkEntries entries + 1
  | .held _ => 1
def uptoBulkAll {H : Type} : List (DataW H) → Nat
  | [] => 0
  | d :: r => uptoBulk d + uptoBulkAll r
def uptoBulkEntries {H : Type} : List (Lit × DataW H) → Nat
  | [] => 0
  | x :: r => uptoBulkEntry x + uptoBulkEntries r
def uptoBulkEntry {H : Type} : Lit × DataW H → Nat
  | (.string bytes, d) => bytes.length + uptoBulk d + 1
  | (_, d) => uptoBulk d + 1
 end
def uptoSmall : (H : Type) → List (DataW H) → Bool := fun _ ds => decide (uptoBulkAll ds ≤ 1048576)
def OpenSpec.upto (s : _root_.Go.ChangeSpec) : _root_.Go.OpenSpec := { _root_.Go.OpenSpec.ofChange s with cond := some uptoSmall }

/-- 'juratlaw34.GuardAgrees', WHERE WHAT IT READS IS OF BULK AT MOST 1048576: true; the input reads as it did. -/
def guardAgreesUptoRow : OpenClaim := { program := "ytkbdfnmeomkpjaa", sum := "8afa3fff7d1ee2134a73a8dcee3544c96b5ecefb7888f66b15b35954a9fb5fc8", func := "jurat/juratlaw34.GuardAgrees", spec := "guardAgrees", unfollowed := true, recurses := true, apart := false, narrowed := true }
def GuardAgreesUptoSaid : Prop := guardAgreesUptoRow.holds Try.pinned (OpenSpec.upto guardAgreesSpec)

/-- 'juratlaw34.GuardTells', WHERE WHAT IT READS IS OF BULK AT MOST 1048576: true; the input reads as it did. -/
def guardTellsUptoRow : OpenClaim := { program := "ytkbdfnmeomkpjaa", sum := "8afa3fff7d1ee2134a73a8dcee3544c96b5ecefb7888f66b15b35954a9fb5fc8", func := "jurat/juratlaw34.GuardTells", spec := "guardTells", unfollowed := true, recurses := true, apart := false, narrowed := true }
def GuardTellsUptoSaid : Prop := guardTellsUptoRow.holds Try.pinned (OpenSpec.upto guardTellsSpec)

/-- 'juratlaw17.LinkReads', WHERE WHAT IT READS IS OF BULK AT MOST 1048576: true; the input reads as it did. -/
def linkReadsUptoRow : OpenClaim := { program := "ytkbdfnmeomkpjaa", sum := "8afa3fff7d1ee2134a73a8dcee3544c96b5ecefb7888f66b15b35954a9fb5fc8", func := "jurat/juratlaw17.LinkReads", spec := "linkReads", unfollowed := true, recurses := true, apart := false, narrowed := true }
def LinkReadsUptoSaid : Prop := linkReadsUptoRow.holds Try.pinned (OpenSpec.upto linkReadsSpec)

/-- 'juratlaw17.LinkTells', WHERE WHAT IT READS IS OF BULK AT MOST 1048576: true; the input reads as it did. -/
def linkTellsUptoRow : OpenClaim := { program := "ytkbdfnmeomkpjaa", sum := "8afa3fff7d1ee2134a73a8dcee3544c96b5ecefb7888f66b15b35954a9fb5fc8", func := "jurat/juratlaw17.LinkTells", spec := "linkTells", unfollowed := true, recurses := true, apart := false, narrowed := true }
def LinkTellsUptoSaid : Prop := linkTellsUptoRow.holds Try.pinned (OpenSpec.upto linkTellsSpec)

/-- 'juratlaw17.LinkFalls', WHERE WHAT IT READS IS OF BULK AT MOST 1048576: true; the input reads as it did. -/
def linkFallsUptoRow : OpenClaim := { program := "ytkbdfnmeomkpjaa", sum := "8afa3fff7d1ee2134a73a8dcee3544c96b5ecefb7888f66b15b35954a9fb5fc8", func := "jurat/juratlaw17.LinkFalls", spec := "linkFalls", unfollowed := true, recurses := true, apart := false, narrowed := true }
def LinkFallsUptoSaid : Prop := linkFallsUptoRow.holds Try.pinned (OpenSpec.upto linkFallsSpec)

/-- 'juratlaw36.ClaimTrue', WHERE WHAT IT READS IS OF BULK AT MOST 1048576: true; the input reads as it did. -/
def claimTrueUptoRow : OpenClaim := { program := "ytkbdfnmeomkpjaa", sum := "8afa3fff7d1ee2134a73a8dcee3544c96b5ecefb7888f66b15b35954a9fb5fc8", func := "jurat/juratlaw36.ClaimTrue", spec := "claimTrue", unfollowed := true, recurses := true, apart := false, narrowed := true }
def ClaimTrueUptoSaid : Prop := claimTrueUptoRow.holds Try.pinned (OpenSpec.upto claimTrueSpec)

/-- 'juratlaw21.AutoKinds', WHERE WHAT IT READS IS OF BULK AT MOST 1048576: true; the input reads as it did. -/
def autoKindsUptoRow : OpenClaim := { program := "ytkbdfnmeomkpjaa", sum := "8afa3fff7d1ee2134a73a8dcee3544c96b5ecefb7888f66b15b35954a9fb5fc8", func := "jurat/juratlaw21.AutoKinds", spec := "autoKinds", inPlace := ["internal/abi.NoEscape"], unfollowed := true, recurses := true, apart := false, narrowed := true }
def AutoKindsUptoSaid : Prop := autoKindsUptoRow.holds Try.pinned (OpenSpec.upto autoKindsSpec)

end Rows
end Go.Proofs.Ytkbdfnmeomkpjaa
