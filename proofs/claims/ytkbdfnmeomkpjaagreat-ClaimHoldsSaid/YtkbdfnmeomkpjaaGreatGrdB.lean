/- Whether a row of four words has a byte, as the closure asks it; no condition but the sizes. -/
import Derived.Test.YtkbdfnmeomkpjaaGreatGrdA
namespace Go.Proofs.YtkbdfnmeomkpjaaGreat
open Go.RowKit
set_option linter.unusedVariables false
set_option linter.unusedSimpArgs false
set_option maxRecDepth 100000

/-- Four words, as an array's cells. -/
def rowC (u0 u1 u2 u3 : Nat) : Array Value := #[.int .u64 (u0 : Int), .int .u64 (u1 : Int), .int .u64 (u2 : Int), .int .u64 (u3 : Int)]
/-- The word that holds a byte's bit. -/
def rowW (u0 u1 u2 u3 c : Nat) : Nat := if c / 64 = 0 then u0 else if c / 64 = 1 then u1 else if c / 64 = 2 then u2 else u3
theorem rowC_at (u0 u1 u2 u3 c : Nat) (hc : c < 256) : (rowC u0 u1 u2 u3)[c / 64]? = some (.int .u64 ((rowW u0 u1 u2 u3 c : Nat) : Int)) := by
  have h : c / 64 = 0 ∨ c / 64 = 1 ∨ c / 64 = 2 ∨ c / 64 = 3 := by omega
  unfold rowC rowW
  rcases h with h | h | h | h <;> rw [h] <;> rfl
theorem rowW_lt {u0 u1 u2 u3 : Nat} (c : Nat) (hu : ∀ u ∈ [u0, u1, u2, u3], u < 18446744073709551616) : rowW u0 u1 u2 u3 c < 18446744073709551616 := by
  have h0 := hu u0 (by simp)
  have h1 := hu u1 (by simp)
  have h2 := hu u2 (by simp)
  have h3 := hu u3 (by simp)
  unfold rowW
  split
  · exact h0
  · split
    · exact h1
    · split
      · exact h2
      · exact h3
def rowHas (u0 u1 u2 u3 c : Nat) : Bool := decide (rowW u0 u1 u2 u3 c / 2 ^ (c % 64) % 2 = 1)

set_option maxHeartbeats 1000000 in
theorem skips1_ (bc c u0 u1 u2 u3 : Nat) (w : World) (hc : c < 256) (hbc : w.cell? ⟨bc, 0, none⟩ = some (.int .u8 (c : Int))) (hb : bc < w.heap.size) (hu : ∀ u ∈ [u0, u1, u2, u3], u < 18446744073709551616) :
    Calls Tryz.prog 102 #[.agg (rowC u0 u1 u2 u3), .pointer (some ⟨bc, 0, none⟩)] w fun e w' => e = .returned (.bool (rowHas u0 u1 u2 u3 c)) ∧ Pure' w w' := by
  go_enter Tryz.func102, Tryz.ntmps102
  go_wp2_with fail
  have hcell : (w.alloc (.cells (rowC u0 u1 u2 u3) 124)).cell? ⟨w.heap.size, 0 + c / 64, none⟩ = some (.int .u64 ((rowW u0 u1 u2 u3 c : Nat) : Int)) := by
    rw [Nat.zero_add]
    exact (Blk.cell (Blk.new w 124 (rowC u0 u1 u2 u3)) (c / 64)).trans (rowC_at u0 u1 u2 u3 c hc)
  refine (has_ _ 0 c _ _ hc hcell (rowW_lt c hu)).mono ?_
  rintro e w1 ⟨rfl, rfl⟩
  go_wp2_with fail
  go_ret
  exact ⟨rfl, (Keeps.refl _ w).alloc _⟩
end Go.Proofs.YtkbdfnmeomkpjaaGreat
