/- A number's text, by the reference: what the walks of its functions give; no condition but that the number is an int. -/
import Derived.Test.YtjcjmjnajhkdaaaDoorDigL
import Derived.Test.YtjcjmjnajhkdaaaDoorProg
namespace Go.Proofs.YtjcjmjnajhkdaaaDoor
open Go.RowKit
set_option linter.unusedVariables false
set_option linter.unusedSimpArgs false
set_option maxRecDepth 100000

theorem tdiv_neg10 {n : Int} (h : n < 0) : Int.tdiv n 10 = -((n.natAbs / 10 : Nat) : Int) := by
  have e : n = -((n.natAbs : Nat) : Int) := by omega
  conv => lhs; rw [e, Int.neg_tdiv]
  rfl
theorem tmod_neg10 {n : Int} (h : n < 0) : Int.tmod n 10 = -((n.natAbs % 10 : Nat) : Int) := by
  have e : n = -((n.natAbs : Nat) : Int) := by omega
  conv => lhs; rw [e, Int.neg_tmod]
  rfl
theorem ret_num {k : IntKind} {a b : Int} (h : a = b) : Ending.returned (.int k a) = .returned (.int k b) := by rw [h]
theorem size_ (n : Int) (w : World) (h1 : -9223372036854775808 ≤ n) (h2 : n ≤ 9223372036854775807) : Calls Tryd.prog 75 #[.int .i64 n] w fun e w' => e = .returned (.int .u64 n.natAbs) ∧ w = w' := by
  go_enter Tryd.func75, Tryd.ntmps75
  by_cases h : n < 0
  · go_wp2
    go_ret
    exact ⟨ret_num (by omega), rfl⟩
  · go_wp2
    go_ret
    exact ⟨ret_num (by omega), rfl⟩

end Go.Proofs.YtjcjmjnajhkdaaaDoor
