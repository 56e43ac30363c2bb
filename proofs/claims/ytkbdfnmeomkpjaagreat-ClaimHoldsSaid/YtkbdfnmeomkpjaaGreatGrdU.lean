/- The numbers of the texts that end with a byte, by the reference; lists of texts held one against the other; how long texts are in all; no condition but the sizes. -/
import Derived.Test.YtkbdfnmeomkpjaaGreatGrdT
import Derived.Test.YtkbdfnmeomkpjaaGreatLst
namespace Go.Proofs.YtkbdfnmeomkpjaaGreat
open Go.RowKit
set_option linter.unusedVariables false
set_option linter.unusedSimpArgs false
set_option maxRecDepth 100000

def totL (l : List (List UInt8)) : Nat := (l.map List.length).sum
end Go.Proofs.YtkbdfnmeomkpjaaGreat
