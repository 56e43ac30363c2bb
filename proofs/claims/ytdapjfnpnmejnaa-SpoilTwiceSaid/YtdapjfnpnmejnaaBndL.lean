/- Offsets, sums and products of them, and how long a record is written: the plain law; no program in sight. -/
import Derived.Test.YtdapjfnpnmejnaaMem
import Derived.Lib.BitFns
namespace Go.Proofs.Ytdapjfnpnmejnaa
set_option linter.unusedVariables false
set_option linter.unusedSimpArgs false

/-- An offset? -/
def isO (n : Int) : Bool := decide (0 ≤ n) && decide (n ≤ 4611686018427387903)
theorem isO_iff {n : Int} : isO n = true ↔ 0 ≤ n ∧ n ≤ 4611686018427387903 := by simp [isO]
theorem isO_no {n : Int} : isO n = false ↔ n < 0 ∨ 4611686018427387903 < n := by
  rw [← Bool.not_eq_true, isO_iff]
  constructor
  · intro h; omega
  · intro h; omega

/-- The sum of a list of offsets, behind n; none: it is none. -/
def sumV : List Int → Int → Option Int
  | [], n => some n
  | x :: l, n => if 0 ≤ x ∧ x ≤ 4611686018427387903 - n then sumV l (n + x) else none
theorem sumV_range : ∀ (l : List Int) (n v : Int), 0 ≤ n → n ≤ 4611686018427387903 → sumV l n = some v → 0 ≤ v ∧ v ≤ 4611686018427387903
  | [], n, v, h1, h2, h => by injection h with h; omega
  | x :: l, n, v, h1, h2, h => by
    rw [sumV] at h
    split at h
    · rename_i hx; exact sumV_range l (n + x) v (by omega) (by omega) h
    · cases h
/-- A number so often; -1: that is none. -/
def mulV (a n : Int) : Int := if (0 ≤ a ∧ a ≤ 4611686018427387903) ∧ (0 ≤ n ∧ n ≤ 4611686018427387903) ∧ a * n ≤ 4611686018427387903 then a * n else -1
theorem mulV_range (a n : Int) : -1 ≤ mulV a n ∧ mulV a n ≤ 4611686018427387903 := by
  unfold mulV
  split
  · rename_i h
    have : 0 ≤ a * n := Int.mul_nonneg h.1.1 h.2.1.1
    omega
  · omega

/-- Bit by bit. -/
theorem half_step (a n k : Nat) : a * (n / 2 ^ k) = 2 * (a * (n / 2 ^ (k + 1))) + a * (n / 2 ^ k % 2) := by
  have h : n / 2 ^ k = 2 * (n / 2 ^ (k + 1)) + n / 2 ^ k % 2 := by
    rw [Nat.pow_succ, ← Nat.div_div_eq_div_mul]; omega
  conv => lhs; rw [h]
  rw [Nat.mul_add, ← Nat.mul_assoc, Nat.mul_comm a 2, Nat.mul_assoc]
theorem part_le (a n k : Nat) : a * (n / 2 ^ k) ≤ a * n := Nat.mul_le_mul_left _ (Nat.div_le_self _ _)

/-- How many bytes a number has. -/
def sizeL (n : Nat) : Nat := if n < 128 then 1 else 1 + sizeL (n / 128)
termination_by n
decreasing_by omega
theorem sizeL_small {n : Nat} (h : n < 128) : sizeL n = 1 := by rw [sizeL, if_pos h]
theorem sizeL_big {n : Nat} (h : ¬ n < 128) : sizeL n = 1 + sizeL (n / 128) := by rw [sizeL, if_neg h]
theorem sizeL_pos (n : Nat) : 1 ≤ sizeL n := by
  by_cases h : n < 128
  · rw [sizeL_small h]; exact Nat.le_refl _
  · rw [sizeL_big h]; omega
theorem sizeL_le : ∀ (m n : Nat), n < 128 ^ m → 1 ≤ m → sizeL n ≤ m
  | 0, n, _, h => by omega
  | m + 1, n, hn, _ => by
    by_cases h : n < 128
    · rw [sizeL_small h]; omega
    · rw [sizeL_big h]
      have h1 : n / 128 < 128 ^ m := by rw [Nat.pow_succ] at hn; omega
      have h2 : 1 ≤ m := by
        rcases Nat.eq_zero_or_pos m with rfl | h2
        · simp at h1; omega
        · exact h2
      have := sizeL_le m (n / 128) h1 h2
      omega
theorem bits_small : ∀ n : Fin 128, max 1 ((Lib.bitLen n.val + 6) / 7) = 1 ∧ (n.val = 0 ∨ 1 ≤ Lib.bitLen n.val) := by decide +kernel
theorem bits_pos (n : Nat) (h : 1 ≤ n) (h2 : n < 2 ^ 64) : 1 ≤ Lib.bitLen n := by rw [Lib.bitLen_half n (by omega) h2]; omega
theorem sizeL_bits (n : Nat) (h : n < 2 ^ 64) : max 1 ((Lib.bitLen n + 6) / 7) = sizeL n := by
  induction n using Nat.strongRecOn with
  | _ n ih =>
    by_cases hn : n < 128
    · rw [sizeL_small hn]; exact (bits_small ⟨n, hn⟩).1
    · rw [sizeL_big hn, ← ih (n / 128) (by omega) (by omega), show (128 : Nat) = 2 ^ 7 from rfl, Lib.bitLen_shift 7 n (by omega) h]
      have := bits_pos (n / 2 ^ 7) (by omega) (by omega)
      omega

/-- Of a number that may be below 0. -/
def szV (n : Int) : Nat := if n < 0 then 0 else sizeL n.toNat
theorem szV_le (n : Int) (h : n ≤ 9223372036854775807) : szV n ≤ 9 := by
  unfold szV
  split
  · omega
  · exact sizeL_le 9 _ (by omega) (by omega)

/-- Of the Ids, behind one. -/
def idsV : List Int → Int → Nat
  | [], _ => 0
  | d :: l, a => szV (RowKit.wrap64 (d - a)) + idsV l d
end Go.Proofs.Ytdapjfnpnmejnaa
