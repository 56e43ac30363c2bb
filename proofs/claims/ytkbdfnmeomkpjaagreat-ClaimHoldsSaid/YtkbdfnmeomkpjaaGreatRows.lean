/-
  No cell of these rows narrows 'for every input' (looked for: loops, veiled, ifaces, maps, wideKeys, modest, calm, conditions, laid).
  DERIVED. THE GIVEN ROWS OF THIS SEAT. 4 by the template 'for every input the law returns true; each argument reads behind the call as it read before'; 0 by the template 'total and deterministic' (their statements: YtkbdfnmeomkpjaaGreatTotals.lean).
  GIVEN WITH THE SEED: the statements are not yours to turn. If you find one false, say at which input.
  Laid BY PROGRAM, IN A SANDBOX (cutbox-rows.mjs): the forced cells as the released guide's own fill.sh prints them over the translation 610d9ad7290262ed… (all of the seat's roots in one cut). By AI agents, Wed Nov 11 2026. No macro, syntax, notation, axiom, sorry.
-/
import Derived.Test.YtkbdfnmeomkpjaaGreatChecked
import GoSem.Claim
import GoSem.ClaimJoined
import GoSem.ClaimMapViews
import Derived.JoinedTies
import Derived.KernelRfl
namespace Go.Proofs.YtkbdfnmeomkpjaaGreat
/- THE CELL 'sum', in the pinned program and in every row, IS THE sha256 OF THE DUMP (.gsa) THAT YtkbdfnmeomkpjaaGreatProg.lean LOADS. Nothing in Lean hashes anything: it is a label: what it is worth is what the hold of that sum in a sandbox is worth. -/
noncomputable def Tryz.pinned : Pinned := { name := "ytkbdfnmeomkpjaagreat", sum := "610d9ad7290262ed6e38719afddfc3578dbc6cb2e011fdc10ff1590b40639a37", checked := Tryz.checked }
namespace Rows
def none {H : Type} : Left H := { results := [], args := [] }

/-- 'juratlaw36.ClaimFinds': WHATEVER THE INPUT: true; the input reads as it did. -/
def claimFindsSpec : ChangeSpec := { name := "claimFinds", fn := fun _ => fun
  | [d1, d2, d3, d4] => { results := [.lit (.bool true)], args := [d1, d2, d3, d4] }
  | _ => none }
def claimFindsRow : OpenClaim := { program := "ytkbdfnmeomkpjaagreat", sum := "610d9ad7290262ed6e38719afddfc3578dbc6cb2e011fdc10ff1590b40639a37", func := "jurat/juratlaw36.ClaimFinds", spec := "claimFinds", unfollowed := true, recurses := true, apart := false }
def ClaimFindsSaid : Prop := claimFindsRow.holds Tryz.pinned (OpenSpec.ofChange claimFindsSpec)

/-- ITS FALSE NEIGHBOUR: 'it returns false'. Refute it at one input. -/
def claimFindsWrong : ChangeSpec := { name := "claimFinds", fn := fun _ => fun
  | [d1, d2, d3, d4] => { results := [.lit (.bool false)], args := [d1, d2, d3, d4] }
  | _ => none }
def ClaimFindsWrongFalsely : Prop := claimFindsRow.holds Tryz.pinned (OpenSpec.ofChange claimFindsWrong)

/-- 'juratlaw36.ClaimHolds': WHATEVER THE INPUT: true; the input reads as it did. -/
def claimHoldsSpec : ChangeSpec := { name := "claimHolds", fn := fun _ => fun
  | [d1, d2, d3, d4] => { results := [.lit (.bool true)], args := [d1, d2, d3, d4] }
  | _ => none }
def claimHoldsRow : OpenClaim := { program := "ytkbdfnmeomkpjaagreat", sum := "610d9ad7290262ed6e38719afddfc3578dbc6cb2e011fdc10ff1590b40639a37", func := "jurat/juratlaw36.ClaimHolds", spec := "claimHolds", unfollowed := true, recurses := true, apart := false }
def ClaimHoldsSaid : Prop := claimHoldsRow.holds Tryz.pinned (OpenSpec.ofChange claimHoldsSpec)

/-- ITS FALSE NEIGHBOUR: 'it returns false'. Refute it at one input. -/
def claimHoldsWrong : ChangeSpec := { name := "claimHolds", fn := fun _ => fun
  | [d1, d2, d3, d4] => { results := [.lit (.bool false)], args := [d1, d2, d3, d4] }
  | _ => none }
def ClaimHoldsWrongFalsely : Prop := claimHoldsRow.holds Tryz.pinned (OpenSpec.ofChange claimHoldsWrong)

/-- 'juratlaw23.WalkFeeds': WHATEVER THE INPUT: true; the input reads as it did. -/
def walkFeedsSpec : ChangeSpec := { name := "walkFeeds", fn := fun _ => fun
  | [d1, d2, d3, d4] => { results := [.lit (.bool true)], args := [d1, d2, d3, d4] }
  | _ => none }
def walkFeedsRow : OpenClaim := { program := "ytkbdfnmeomkpjaagreat", sum := "610d9ad7290262ed6e38719afddfc3578dbc6cb2e011fdc10ff1590b40639a37", func := "jurat/juratlaw23.WalkFeeds", spec := "walkFeeds", inPlace := ["internal/abi.NoEscape"], unfollowed := true, recurses := true, apart := false }
def WalkFeedsSaid : Prop := walkFeedsRow.holds Tryz.pinned (OpenSpec.ofChange walkFeedsSpec)

/-- ITS FALSE NEIGHBOUR: 'it returns false'. Refute it at one input. -/
def walkFeedsWrong : ChangeSpec := { name := "walkFeeds", fn := fun _ => fun
  | [d1, d2, d3, d4] => { results := [.lit (.bool false)], args := [d1, d2, d3, d4] }
  | _ => none }
def WalkFeedsWrongFalsely : Prop := walkFeedsRow.holds Tryz.pinned (OpenSpec.ofChange walkFeedsWrong)

/-- 'juratlaw23.WalkParts': WHATEVER THE INPUT: true; the input reads as it did. -/
def walkPartsSpec : ChangeSpec := { name := "walkParts", fn := fun _ => fun
  | [d1, d2, d3, d4, d5] => { results := [.lit (.bool true)], args := [d1, d2, d3, d4, d5] }
  | _ => none }
def walkPartsRow : OpenClaim := { program := "ytkbdfnmeomkpjaagreat", sum := "610d9ad7290262ed6e38719afddfc3578dbc6cb2e011fdc10ff1590b40639a37", func := "jurat/juratlaw23.WalkParts", spec := "walkParts", inPlace := ["internal/abi.NoEscape"], unfollowed := true, recurses := true, apart := false }
def WalkPartsSaid : Prop := walkPartsRow.holds Tryz.pinned (OpenSpec.ofChange walkPartsSpec)

/-- ITS FALSE NEIGHBOUR: 'it returns false'. Refute it at one input. -/
def walkPartsWrong : ChangeSpec := { name := "walkParts", fn := fun _ => fun
  | [d1, d2, d3, d4, d5] => { results := [.lit (.bool false)], args := [d1, d2, d3, d4, d5] }
  | _ => none }
def WalkPartsWrongFalsely : Prop := walkPartsRow.holds Tryz.pinned (OpenSpec.ofChange walkPartsWrong)

/- THE SECOND FORM. 'bulk': how many values and letters a reading holds, each counted each time it is reached (what is shared counts as often as it is met; a slice's spare places count too). A statement '..UptoSaid' is the law's where the arguments, and the package variables that the reading takes, are together of bulk at most 1048576: NARROWER than '..Said'. Prove '..Said' where nothing that the law and all that it calls make is longer than what came in: it says more and counts as full. Else prove '..UptoSaid'. A law counts once. -/
mutual
def uptoBulk {H : Type} : DataW H → Nat
  | .lit (.string bytes) => bytes.length + 1
  | .lit _ => 1
  | .nil => 1
  | .ptr d => uptoBulk d + 1
  | .slice elems spare => uptoBulkAll elems + uptoBulkAll spare + 1
  | .agg parts => uptoBulkAll parts + 1
  | .iface _ d => uptoBulk d + 1
  | .map entries => uptoBulkEntries entries + 1
  | .held _ => 1
def uptoBulkAll {H : Type} : List (DataW H) → Nat
  | [] => 0
  | d :: r => uptoBulk d + uptoBulkAll r
def uptoBulkEntries {H : Type} : List (Lit × DataW H) → Nat
  | [] => 0
  | x :: r => uptoBulkEntry x + uptoBulkEntries r
def uptoBulkEntry {H : Type} : Lit × DataW H → Nat
  | (.string bytes, d) => bytes.length + uptoBulk d + 1
  | (_, d) => uptoBulk d + 1
 end
def uptoSmall : (H : Type) → List (DataW H) → Bool := fun _ ds => decide (uptoBulkAll ds ≤ 1048576)
def OpenSpec.upto (s : _root_.Go.ChangeSpec) : _root_.Go.OpenSpec := { _root_.Go.OpenSpec.ofChange s with cond := some uptoSmall }

/-- 'juratlaw36.ClaimFinds', WHERE WHAT IT READS IS OF BULK AT MOST 1048576: true; the input reads as it did. -/
def claimFindsUptoRow : OpenClaim := { program := "ytkbdfnmeomkpjaagreat", sum := "610d9ad7290262ed6e38719afddfc3578dbc6cb2e011fdc10ff1590b40639a37", func := "jurat/juratlaw36.ClaimFinds", spec := "claimFinds", unfollowed := true, recurses := true, apart := false, narrowed := true }
def ClaimFindsUptoSaid : Prop := claimFindsUptoRow.holds Tryz.pinned (OpenSpec.upto claimFindsSpec)

/-- 'juratlaw36.ClaimHolds', WHERE WHAT IT READS IS OF BULK AT MOST 1048576: true; the input reads as it did. -/
def claimHoldsUptoRow : OpenClaim := { program := "ytkbdfnmeomkpjaagreat", sum := "610d9ad7290262ed6e38719afddfc3578dbc6cb2e011fdc10ff1590b40639a37", func := "jurat/juratlaw36.ClaimHolds", spec := "claimHolds", unfollowed := true, recurses := true, apart := false, narrowed := true }
def ClaimHoldsUptoSaid : Prop := claimHoldsUptoRow.holds Tryz.pinned (OpenSpec.upto claimHoldsSpec)

/-- 'juratlaw23.WalkFeeds', WHERE WHAT IT READS IS OF BULK AT MOST 1048576: true; the input reads as it did. -/
def walkFeedsUptoRow : OpenClaim := { program := "ytkbdfnmeomkpjaagreat", sum := "610d9ad7290262ed6e38719afddfc3578dbc6cb2e011fdc10ff1590b40639a37", func := "jurat/juratlaw23.WalkFeeds", spec := "walkFeeds", inPlace := ["internal/abi.NoEscape"], unfollowed := true, recurses := true, apart := false, narrowed := true }
def WalkFeedsUptoSaid : Prop := walkFeedsUptoRow.holds Tryz.pinned (OpenSpec.upto walkFeedsSpec)

/-- 'juratlaw23.WalkParts', WHERE WHAT IT READS IS OF BULK AT MOST 1048576: true; the input reads as it did. -/
def walkPartsUptoRow : OpenClaim := { program := "ytkbdfnmeomkpjaagreat", sum := "610d9ad7290262ed6e38719afddfc3578dbc6cb2e011fdc10ff1590b40639a37", func := "jurat/juratlaw23.WalkParts", spec := "walkParts", inPlace := ["internal/abi.NoEscape"], unfollowed := true, recurses := true, apart := false, narrowed := true }
def WalkPartsUptoSaid : Prop := walkPartsUptoRow.holds Tryz.pinned (OpenSpec.upto walkPartsSpec)

end Rows
end Go.Proofs.YtkbdfnmeomkpjaaGreat
