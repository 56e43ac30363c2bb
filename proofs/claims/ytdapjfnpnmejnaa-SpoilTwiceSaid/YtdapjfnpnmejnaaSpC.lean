/- Numbers as bytes, for the printed texts: what a reading comes to, as a tuple; no program in sight. -/
import Derived.Test.YtdapjfnpnmejnaaSpB
namespace Go.Proofs.Ytdapjfnpnmejnaa
open Go.RowKit
set_option linter.unusedVariables false
set_option linter.unusedSimpArgs false

def strL (l : List UInt8) : ByteArray := ⟨l.toArray⟩
def vresT (r : Res Nat) : Int × Int × Int := match r with
  | .ok (n, z) => (n, z, 0)
  | .error e => (0, 0, e)
theorem vresV_T (r : Res Nat) : vresV r = .tuple #[.int .i64 (vresT r).1, .int .i64 (vresT r).2.1, .int .i64 (vresT r).2.2] := by
  cases r with
  | error e => rfl
  | ok p => rfl
def addP (a b : Int) : Int × Int := if isO a = true ∧ isO b = true then (if a > 4611686018427387903 - b then (0, 10) else (a + b, 0)) else (0, 2)
theorem addR_P (a b : Int) : addR a b = .tuple #[.int .i64 (addP a b).1, .int .i64 (addP a b).2] := by
  unfold addR addP
  split
  · split <;> rfl
  · rfl
theorem strL_list (s : ByteArray) : strL s.data.toList = s := bytes_mk s
end Go.Proofs.Ytdapjfnpnmejnaa
