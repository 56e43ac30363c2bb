/- Leaps: whether no list of the first ones has a pair; no condition but the sizes. -/
import Derived.Test.YtkbdfnmeomkpjaaGreatGrdF
namespace Go.Proofs.YtkbdfnmeomkpjaaGreat
open Go.RowKit
set_option linter.unusedVariables false
set_option linter.unusedSimpArgs false
set_option maxRecDepth 100000

set_option maxHeartbeats 1000000 in
theorem leaps_nil (a c : Int) (n : Int) (w : World) : Calls Tryz.prog 75 #[.pointer none, .int .u8 a, .int .u8 c, .int .i64 n] w fun e w' => e = .returned (.bool false) ∧ Pure' w w' := by
  go_enter Tryz.func75, Tryz.ntmps75
  go_wp2_with fail
  go_ret
  exact ⟨rfl, Keeps.refl _ w⟩
set_option maxHeartbeats 2000000 in
theorem leaps_out (g cap : Nat) (a c : Int) (A : Option Addr) (m : Nat) (n : Int) (w : World) (hg : w.cell? ⟨g, 2, none⟩ = some (.slice A m cap)) (hn : ¬ (1 ≤ n ∧ n ≤ m)) :
    Calls Tryz.prog 75 #[.pointer (some ⟨g, 0, none⟩), .int .u8 a, .int .u8 c, .int .i64 n] w fun e w' => e = .returned (.bool false) ∧ Pure' w w' := by
  by_cases h1 : n < 1
  · clear hn hg
    go_enter Tryz.func75, Tryz.ntmps75
    go_wp2_with fail
    go_ret
    exact ⟨rfl, Keeps.refl _ w⟩
  · have h2 : (m : Int) < n := by omega
    clear hn
    go_enter Tryz.func75, Tryz.ntmps75
    go_wp2_with fail
    go_ret
    exact ⟨rfl, Keeps.refl _ w⟩
end Go.Proofs.YtkbdfnmeomkpjaaGreat
