/-
  No cell of these rows narrows 'for every input' (looked for: loops, veiled, ifaces, maps, wideKeys, modest, calm, conditions, laid).
  DERIVED. THE GIVEN ROWS OF THIS SEAT. 9 by the template 'for every input the law returns true; each argument reads behind the call as it read before'; 0 by the template 'total and deterministic' (their statements: YtacodojaolnhnaaTotals.lean).
  GIVEN WITH THE SEED: the statements are not yours to turn. If you find one false, say at which input.
  Laid BY PROGRAM, IN A SANDBOX (cutbox-rows.mjs): the forced cells as the released guide's own fill.sh prints them over the translation d721c3d648d3e9f0… (all of the seat's roots in one cut). By AI agents, Wed Nov 11 2026. No macro, syntax, notation, axiom, sorry.
-/
import Derived.Test.YtacodojaolnhnaaChecked
import GoSem.Claim
import GoSem.ClaimJoined
import GoSem.ClaimMapViews
import Derived.JoinedTies
import Derived.KernelRfl
namespace Go.Proofs.Ytacodojaolnhnaa
/- THE CELL 'sum', in the pinned program and in every row, IS THE sha256 OF THE DUMP (.gsa) THAT YtacodojaolnhnaaProg.lean LOADS. Nothing in Lean hashes anything: it is a label: what it is worth is what the hold of that sum in a sandbox is worth. -/
noncomputable def Try.pinned : Pinned := { name := "ytacodojaolnhnaa", sum := "d721c3d648d3e9f062a2a0c787c8f41879faff3a0c314d0916dc4d499cf80ef0", checked := Try.checked }
namespace Rows
def none {H : Type} : Left H := { results := [], args := [] }

/-- 'juratlaw07.RingKeeps': WHATEVER THE INPUT: true; the input reads as it did. -/
def ringKeepsSpec : ChangeSpec := { name := "ringKeeps", fn := fun _ => fun
  | [d1, d2, d3, d4, d5] => { results := [.lit (.bool true)], args := [d1, d2, d3, d4, d5] }
  | _ => none }
def ringKeepsRow : OpenClaim := { program := "ytacodojaolnhnaa", sum := "d721c3d648d3e9f062a2a0c787c8f41879faff3a0c314d0916dc4d499cf80ef0", func := "jurat/juratlaw07.RingKeeps", spec := "ringKeeps", apart := false }
def RingKeepsSaid : Prop := ringKeepsRow.holds Try.pinned (OpenSpec.ofChange ringKeepsSpec)

/-- ITS FALSE NEIGHBOUR: 'it returns false'. Refute it at one input. -/
def ringKeepsWrong : ChangeSpec := { name := "ringKeeps", fn := fun _ => fun
  | [d1, d2, d3, d4, d5] => { results := [.lit (.bool false)], args := [d1, d2, d3, d4, d5] }
  | _ => none }
def RingKeepsWrongFalsely : Prop := ringKeepsRow.holds Try.pinned (OpenSpec.ofChange ringKeepsWrong)

/-- 'juratlaw07.RingGrows': WHATEVER THE INPUT: true; the input reads as it did. -/
def ringGrowsSpec : ChangeSpec := { name := "ringGrows", fn := fun _ => fun
  | [d1, d2, d3, d4, d5] => { results := [.lit (.bool true)], args := [d1, d2, d3, d4, d5] }
  | _ => none }
def ringGrowsRow : OpenClaim := { program := "ytacodojaolnhnaa", sum := "d721c3d648d3e9f062a2a0c787c8f41879faff3a0c314d0916dc4d499cf80ef0", func := "jurat/juratlaw07.RingGrows", spec := "ringGrows", apart := false }
def RingGrowsSaid : Prop := ringGrowsRow.holds Try.pinned (OpenSpec.ofChange ringGrowsSpec)

/-- ITS FALSE NEIGHBOUR: 'it returns false'. Refute it at one input. -/
def ringGrowsWrong : ChangeSpec := { name := "ringGrows", fn := fun _ => fun
  | [d1, d2, d3, d4, d5] => { results := [.lit (.bool false)], args := [d1, d2, d3, d4, d5] }
  | _ => none }
def RingGrowsWrongFalsely : Prop := ringGrowsRow.holds Try.pinned (OpenSpec.ofChange ringGrowsWrong)

/-- 'juratlaw07.RingNone': WHATEVER THE INPUT: true; the input reads as it did. -/
def ringNoneSpec : ChangeSpec := { name := "ringNone", fn := fun _ => fun
  | [d1, d2, d3] => { results := [.lit (.bool true)], args := [d1, d2, d3] }
  | _ => none }
def ringNoneRow : OpenClaim := { program := "ytacodojaolnhnaa", sum := "d721c3d648d3e9f062a2a0c787c8f41879faff3a0c314d0916dc4d499cf80ef0", func := "jurat/juratlaw07.RingNone", spec := "ringNone", apart := false }
def RingNoneSaid : Prop := ringNoneRow.holds Try.pinned (OpenSpec.ofChange ringNoneSpec)

/-- ITS FALSE NEIGHBOUR: 'it returns false'. Refute it at one input. -/
def ringNoneWrong : ChangeSpec := { name := "ringNone", fn := fun _ => fun
  | [d1, d2, d3] => { results := [.lit (.bool false)], args := [d1, d2, d3] }
  | _ => none }
def RingNoneWrongFalsely : Prop := ringNoneRow.holds Try.pinned (OpenSpec.ofChange ringNoneWrong)

/-- 'juratlaw05.EscapeQuotes': WHATEVER THE INPUT: true; the input reads as it did. -/
def escapeQuotesSpec : ChangeSpec := { name := "escapeQuotes", fn := fun _ => fun
  | [d1, d2] => { results := [.lit (.bool true)], args := [d1, d2] }
  | _ => none }
def escapeQuotesRow : OpenClaim := { program := "ytacodojaolnhnaa", sum := "d721c3d648d3e9f062a2a0c787c8f41879faff3a0c314d0916dc4d499cf80ef0", func := "jurat/juratlaw05.EscapeQuotes", spec := "escapeQuotes", inPlace := ["internal/bytealg.IndexByteString", "internal/abi.NoEscape"], apart := false }
def EscapeQuotesSaid : Prop := escapeQuotesRow.holds Try.pinned (OpenSpec.ofChange escapeQuotesSpec)

/-- ITS FALSE NEIGHBOUR: 'it returns false'. Refute it at one input. -/
def escapeQuotesWrong : ChangeSpec := { name := "escapeQuotes", fn := fun _ => fun
  | [d1, d2] => { results := [.lit (.bool false)], args := [d1, d2] }
  | _ => none }
def EscapeQuotesWrongFalsely : Prop := escapeQuotesRow.holds Try.pinned (OpenSpec.ofChange escapeQuotesWrong)

/-- 'juratlaw35.PaneSees': WHATEVER THE INPUT: true; the input reads as it did. -/
def paneSeesSpec : ChangeSpec := { name := "paneSees", fn := fun _ => fun
  | [d1, d2, d3] => { results := [.lit (.bool true)], args := [d1, d2, d3] }
  | _ => none }
def paneSeesRow : OpenClaim := { program := "ytacodojaolnhnaa", sum := "d721c3d648d3e9f062a2a0c787c8f41879faff3a0c314d0916dc4d499cf80ef0", func := "jurat/juratlaw35.PaneSees", spec := "paneSees", apart := false }
def PaneSeesSaid : Prop := paneSeesRow.holds Try.pinned (OpenSpec.ofChange paneSeesSpec)

/-- ITS FALSE NEIGHBOUR: 'it returns false'. Refute it at one input. -/
def paneSeesWrong : ChangeSpec := { name := "paneSees", fn := fun _ => fun
  | [d1, d2, d3] => { results := [.lit (.bool false)], args := [d1, d2, d3] }
  | _ => none }
def PaneSeesWrongFalsely : Prop := paneSeesRow.holds Try.pinned (OpenSpec.ofChange paneSeesWrong)

/-- 'juratlaw35.PaneNone': WHATEVER THE INPUT: true; the input reads as it did. -/
def paneNoneSpec : ChangeSpec := { name := "paneNone", fn := fun _ => fun
  | [d1, d2, d3] => { results := [.lit (.bool true)], args := [d1, d2, d3] }
  | _ => none }
def paneNoneRow : OpenClaim := { program := "ytacodojaolnhnaa", sum := "d721c3d648d3e9f062a2a0c787c8f41879faff3a0c314d0916dc4d499cf80ef0", func := "jurat/juratlaw35.PaneNone", spec := "paneNone", apart := false }
def PaneNoneSaid : Prop := paneNoneRow.holds Try.pinned (OpenSpec.ofChange paneNoneSpec)

/-- ITS FALSE NEIGHBOUR: 'it returns false'. Refute it at one input. -/
def paneNoneWrong : ChangeSpec := { name := "paneNone", fn := fun _ => fun
  | [d1, d2, d3] => { results := [.lit (.bool false)], args := [d1, d2, d3] }
  | _ => none }
def PaneNoneWrongFalsely : Prop := paneNoneRow.holds Try.pinned (OpenSpec.ofChange paneNoneWrong)

/-- 'juratlaw05.EscapeReads': WHATEVER THE INPUT: true; the input reads as it did. -/
def escapeReadsSpec : ChangeSpec := { name := "escapeReads", fn := fun _ => fun
  | [d] => { results := [.lit (.bool true)], args := [d] }
  | _ => none }
def escapeReadsRow : OpenClaim := { program := "ytacodojaolnhnaa", sum := "d721c3d648d3e9f062a2a0c787c8f41879faff3a0c314d0916dc4d499cf80ef0", func := "jurat/juratlaw05.EscapeReads", spec := "escapeReads", inPlace := ["internal/bytealg.IndexByteString", "internal/abi.NoEscape"], unfollowed := true, recurses := true, apart := false }
def EscapeReadsSaid : Prop := escapeReadsRow.holds Try.pinned (OpenSpec.ofChange escapeReadsSpec)

/-- ITS FALSE NEIGHBOUR: 'it returns false'. Refute it at one input. -/
def escapeReadsWrong : ChangeSpec := { name := "escapeReads", fn := fun _ => fun
  | [d] => { results := [.lit (.bool false)], args := [d] }
  | _ => none }
def EscapeReadsWrongFalsely : Prop := escapeReadsRow.holds Try.pinned (OpenSpec.ofChange escapeReadsWrong)

/-- 'juratlaw05.EscapeBack': WHATEVER THE INPUT: true; the input reads as it did. -/
def escapeBackSpec : ChangeSpec := { name := "escapeBack", fn := fun _ => fun
  | [d1, d2] => { results := [.lit (.bool true)], args := [d1, d2] }
  | _ => none }
def escapeBackRow : OpenClaim := { program := "ytacodojaolnhnaa", sum := "d721c3d648d3e9f062a2a0c787c8f41879faff3a0c314d0916dc4d499cf80ef0", func := "jurat/juratlaw05.EscapeBack", spec := "escapeBack", inPlace := ["internal/bytealg.IndexByteString", "internal/abi.NoEscape"], unfollowed := true, recurses := true, apart := false }
def EscapeBackSaid : Prop := escapeBackRow.holds Try.pinned (OpenSpec.ofChange escapeBackSpec)

/-- ITS FALSE NEIGHBOUR: 'it returns false'. Refute it at one input. -/
def escapeBackWrong : ChangeSpec := { name := "escapeBack", fn := fun _ => fun
  | [d1, d2] => { results := [.lit (.bool false)], args := [d1, d2] }
  | _ => none }
def EscapeBackWrongFalsely : Prop := escapeBackRow.holds Try.pinned (OpenSpec.ofChange escapeBackWrong)

/-- 'juratlaw01.DigitTexts': WHATEVER THE INPUT: true; the input reads as it did. -/
def digitTextsSpec : ChangeSpec := { name := "digitTexts", fn := fun _ => fun
  | [d1, d2] => { results := [.lit (.bool true)], args := [d1, d2] }
  | _ => none }
def digitTextsRow : OpenClaim := { program := "ytacodojaolnhnaa", sum := "d721c3d648d3e9f062a2a0c787c8f41879faff3a0c314d0916dc4d499cf80ef0", func := "jurat/juratlaw01.DigitTexts", spec := "digitTexts", inPlace := ["internal/abi.NoEscape", "internal/bytealg.MakeNoZero"], recurses := true, apart := false }
def DigitTextsSaid : Prop := digitTextsRow.holds Try.pinned (OpenSpec.ofChange digitTextsSpec)

/-- ITS FALSE NEIGHBOUR: 'it returns false'. Refute it at one input. -/
def digitTextsWrong : ChangeSpec := { name := "digitTexts", fn := fun _ => fun
  | [d1, d2] => { results := [.lit (.bool false)], args := [d1, d2] }
  | _ => none }
def DigitTextsWrongFalsely : Prop := digitTextsRow.holds Try.pinned (OpenSpec.ofChange digitTextsWrong)

/- THE SECOND FORM. 'bulk': how many values and letters a reading holds, each counted each time it is reached (what is shared counts as often as it is met; a slice's spare places count too). A statement '..UptoSaid' is the law's where the arguments, and the package variables that the reading takes, are together of bulk at most 1048576: NARROWER than '..Said'. Prove '..Said' where nothing that the law and all that it calls make is longer than what came in: it says more and counts as full. Else prove '..UptoSaid'. A law counts once. -/
mutual
def uptoBulk {H : Type} : DataW H → Nat
  | .lit (.string bytes) => bytes.length + 1
  | .lit _ => 1
  | .nil => 1
  | .ptr d => uptoBulk d + 1
  | .slice elems spare => uptoBulkAll elems + uptoBulkAll spare + 1
  | .agg parts => uptoBulkAll parts + 1
  | .iface _ d => uptoBulk d + 1
  | .map entries => uptoBulkEntries entries + 1
  | .held _ => 1
def uptoBulkAll {H : Type} : List (DataW H) → Nat
  | [] => 0
  | d :: r => uptoBulk d + uptoBulkAll r
def uptoBulkEntries {H : Type} : List (Lit × DataW H) → Nat
  | [] => 0
  | x :: r => uptoBulkEntry x + uptoBulkEntries r
def uptoBulkEntry {H : Type} : Lit × DataW H → Nat
  | (.string bytes, d) => bytes.length + uptoBulk d + 1
  | (_, d) => uptoBulk d + 1
 end
def uptoSmall : (H : Type) → List (DataW H) → Bool := fun _ ds => decide (uptoBulkAll ds ≤ 1048576)
def OpenSpec.upto (s : _root_.Go.ChangeSpec) : _root_.Go.OpenSpec := { _root_.Go.OpenSpec.ofChange s with cond := some uptoSmall }

/-- 'juratlaw07.RingKeeps', WHERE WHAT IT READS IS OF BULK AT MOST 1048576: true; the input reads as it did. -/
def ringKeepsUptoRow : OpenClaim := { program := "ytacodojaolnhnaa", sum := "d721c3d648d3e9f062a2a0c787c8f41879faff3a0c314d0916dc4d499cf80ef0", func := "jurat/juratlaw07.RingKeeps", spec := "ringKeeps", apart := false, narrowed := true }
def RingKeepsUptoSaid : Prop := ringKeepsUptoRow.holds Try.pinned (OpenSpec.upto ringKeepsSpec)

/-- 'juratlaw07.RingGrows', WHERE WHAT IT READS IS OF BULK AT MOST 1048576: true; the input reads as it did. -/
def ringGrowsUptoRow : OpenClaim := { program := "ytacodojaolnhnaa", sum := "d721c3d648d3e9f062a2a0c787c8f41879faff3a0c314d0916dc4d499cf80ef0", func := "jurat/juratlaw07.RingGrows", spec := "ringGrows", apart := false, narrowed := true }
def RingGrowsUptoSaid : Prop := ringGrowsUptoRow.holds Try.pinned (OpenSpec.upto ringGrowsSpec)

/-- 'juratlaw07.RingNone', WHERE WHAT IT READS IS OF BULK AT MOST 1048576: true; the input reads as it did. -/
def ringNoneUptoRow : OpenClaim := { program := "ytacodojaolnhnaa", sum := "d721c3d648d3e9f062a2a0c787c8f41879faff3a0c314d0916dc4d499cf80ef0", func := "jurat/juratlaw07.RingNone", spec := "ringNone", apart := false, narrowed := true }
def RingNoneUptoSaid : Prop := ringNoneUptoRow.holds Try.pinned (OpenSpec.upto ringNoneSpec)

/-- 'juratlaw05.EscapeQuotes', WHERE WHAT IT READS IS OF BULK AT MOST 1048576: true; the input reads as it did. -/
def escapeQuotesUptoRow : OpenClaim := { program := "ytacodojaolnhnaa", sum := "d721c3d648d3e9f062a2a0c787c8f41879faff3a0c314d0916dc4d499cf80ef0", func := "jurat/juratlaw05.EscapeQuotes", spec := "escapeQuotes", inPlace := ["internal/bytealg.IndexByteString", "internal/abi.NoEscape"], apart := false, narrowed := true }
def EscapeQuotesUptoSaid : Prop := escapeQuotesUptoRow.holds Try.pinned (OpenSpec.upto escapeQuotesSpec)

/-- 'juratlaw35.PaneSees', WHERE WHAT IT READS IS OF BULK AT MOST 1048576: true; the input reads as it did. -/
def paneSeesUptoRow : OpenClaim := { program := "ytacodojaolnhnaa", sum := "d721c3d648d3e9f062a2a0c787c8f41879faff3a0c314d0916dc4d499cf80ef0", func := "jurat/juratlaw35.PaneSees", spec := "paneSees", apart := false, narrowed := true }
def PaneSeesUptoSaid : Prop := paneSeesUptoRow.holds Try.pinned (OpenSpec.upto paneSeesSpec)

/-- 'juratlaw35.PaneNone', WHERE WHAT IT READS IS OF BULK AT MOST 1048576: true; the input reads as it did. -/
def paneNoneUptoRow : OpenClaim := { program := "ytacodojaolnhnaa", sum := "d721c3d648d3e9f062a2a0c787c8f41879faff3a0c314d0916dc4d499cf80ef0", func := "jurat/juratlaw35.PaneNone", spec := "paneNone", apart := false, narrowed := true }
def PaneNoneUptoSaid : Prop := paneNoneUptoRow.holds Try.pinned (OpenSpec.upto paneNoneSpec)

/-- 'juratlaw05.EscapeReads', WHERE WHAT IT READS IS OF BULK AT MOST 1048576: true; the input reads as it did. -/
def escapeReadsUptoRow : OpenClaim := { program := "ytacodojaolnhnaa", sum := "d721c3d648d3e9f062a2a0c787c8f41879faff3a0c314d0916dc4d499cf80ef0", func := "jurat/juratlaw05.EscapeReads", spec := "escapeReads", inPlace := ["internal/bytealg.IndexByteString", "internal/abi.NoEscape"], unfollowed := true, recurses := true, apart := false, narrowed := true }
def EscapeReadsUptoSaid : Prop := escapeReadsUptoRow.holds Try.pinned (OpenSpec.upto escapeReadsSpec)

/-- 'juratlaw05.EscapeBack', WHERE WHAT IT READS IS OF BULK AT MOST 1048576: true; the input reads as it did. -/
def escapeBackUptoRow : OpenClaim := { program := "ytacodojaolnhnaa", sum := "d721c3d648d3e9f062a2a0c787c8f41879faff3a0c314d0916dc4d499cf80ef0", func := "jurat/juratlaw05.EscapeBack", spec := "escapeBack", inPlace := ["internal/bytealg.IndexByteString", "internal/abi.NoEscape"], unfollowed := true, recurses := true, apart := false, narrowed := true }
def EscapeBackUptoSaid : Prop := escapeBackUptoRow.holds Try.pinned (OpenSpec.upto escapeBackSpec)

/-- 'juratlaw01.DigitTexts', WHERE WHAT IT READS IS OF BULK AT MOST 1048576: true; the input reads as it did. -/
def digitTextsUptoRow : OpenClaim := { program := "ytacodojaolnhnaa", sum := "d721c3d648d3e9f062a2a0c787c8f41879faff3a0c314d0916dc4d499cf80ef0", func := "jurat/juratlaw01.DigitTexts", spec := "digitTexts", inPlace := ["internal/abi.NoEscape", "internal/bytealg.MakeNoZero"], recurses := true, apart := false, narrowed := true }
def DigitTextsUptoSaid : Prop := digitTextsUptoRow.holds Try.pinned (OpenSpec.upto digitTextsSpec)

end Rows
end Go.Proofs.Ytacodojaolnhnaa
