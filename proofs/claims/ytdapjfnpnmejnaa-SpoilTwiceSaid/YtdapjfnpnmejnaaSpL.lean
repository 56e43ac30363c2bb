/- Numbers as bytes, their plain law; no program in sight. -/
import Derived.Test.YtdapjfnpnmejnaaMem
namespace Go.Proofs.Ytdapjfnpnmejnaa
set_option linter.unusedVariables false
set_option linter.unusedSimpArgs false

/-- What a reading comes to: an error's number, or a thing and how many bytes it has. -/
abbrev Res (α : Type) := Except Int (α × Nat)

/-- A number read from at most k bytes. -/
def numL : Nat → List UInt8 → Bool → Res Nat
  | 0, _, _ => .error 5
  | k + 1, [], _ => .error 4
  | k + 1, c :: s, first =>
    if c.toNat < 128 then (if c.toNat = 0 ∧ first = false then .error 3 else .ok (c.toNat, 1))
    else match numL k s false with
      | .ok (n, z) => .ok (c.toNat % 128 + 128 * n, z + 1)
      | .error e => .error e
def takeV (s : List UInt8) : Res Nat := numL 9 s true

/-- A number's bytes. -/
def encV (n : Nat) : List UInt8 := if n < 128 then [UInt8.ofNat n] else UInt8.ofNat (n % 128 + 128) :: encV (n / 128)
termination_by n
decreasing_by omega
theorem encV_small {n : Nat} (h : n < 128) : encV n = [UInt8.ofNat n] := by rw [encV, if_pos h]
theorem encV_big {n : Nat} (h : ¬ n < 128) : encV n = UInt8.ofNat (n % 128 + 128) :: encV (n / 128) := by rw [encV, if_neg h]
theorem toNat_ofNat (n : Nat) (h : n < 256) : (UInt8.ofNat n).toNat = n := by simp [UInt8.toNat_ofNat']; omega
theorem ofNat_toNat (c : UInt8) : UInt8.ofNat c.toNat = c := by simp

theorem numL_bound : ∀ (k : Nat) (s : List UInt8) (f : Bool) (n z : Nat), numL k s f = .ok (n, z) → n < 128 ^ k ∧ 1 ≤ z ∧ z ≤ k ∧ z ≤ s.length ∧ (f = false → 0 < n)
  | 0, s, f, n, z, h => by cases h
  | k + 1, [], f, n, z, h => by cases h
  | k + 1, c :: s, f, n, z, h => by
    rw [numL] at h
    have hp : 1 ≤ 128 ^ k := Nat.one_le_pow _ _ (by decide)
    have hps : 128 ^ (k + 1) = 128 * 128 ^ k := by rw [Nat.pow_succ, Nat.mul_comm]
    have hc := c.toNat_lt
    split at h
    · split at h
      · cases h
      · rename_i h1 h2
        injection h with h
        injection h with h3 h4
        subst h3; subst h4
        refine ⟨by omega, by omega, by omega, by simp, fun hf => ?_⟩
        rcases Nat.eq_zero_or_pos c.toNat with h0 | h0
        · exact absurd ⟨h0, hf⟩ h2
        · exact h0
    · split at h
      · rename_i h1 n' z' hr
        injection h with h
        injection h with h3 h4
        subst h3; subst h4
        obtain ⟨b1, b2, b3, b4, b5⟩ := numL_bound k s false n' z' hr
        exact ⟨by omega, by omega, by omega, by simp; omega, fun _ => by have := b5 rfl; omega⟩
      · cases h
/-- What is read is what is written of it. -/
theorem numL_sound : ∀ (k : Nat) (s : List UInt8) (f : Bool) (n z : Nat), numL k s f = .ok (n, z) → s.take z = encV n
  | 0, s, f, n, z, h => by cases h
  | k + 1, [], f, n, z, h => by cases h
  | k + 1, c :: s, f, n, z, h => by
    rw [numL] at h
    have hc := c.toNat_lt
    split at h
    · split at h
      · cases h
      · rename_i h1 h2
        injection h with h
        injection h with h3 h4
        subst h3; subst h4
        rw [encV_small h1, ofNat_toNat]; rfl
    · split at h
      · rename_i h1 n' z' hr
        injection h with h
        injection h with h3 h4
        subst h3; subst h4
        have ih := numL_sound k s false n' z' hr
        have hb := (numL_bound k s false n' z' hr).2.2.2.2 rfl
        rw [encV_big (by omega), List.take_succ_cons, ih]
        rw [show (c.toNat % 128 + 128 * n') % 128 = c.toNat % 128 by omega, show (c.toNat % 128 + 128 * n') / 128 = n' by omega, show c.toNat % 128 + 128 = c.toNat by omega, ofNat_toNat]
      · cases h
/-- What stands behind does not matter. -/
theorem numL_local : ∀ (k : Nat) (s x : List UInt8) (f : Bool) (n z : Nat), numL k s f = .ok (n, z) → numL k (s.take z ++ x) f = .ok (n, z)
  | 0, s, x, f, n, z, h => by cases h
  | k + 1, [], x, f, n, z, h => by cases h
  | k + 1, c :: s, x, f, n, z, h => by
    rw [numL] at h
    split at h
    · rename_i h1
      split at h
      · cases h
      · rename_i h2
        injection h with h
        injection h with h3 h4
        subst h3; subst h4
        simp only [List.take_succ_cons, List.take_zero, List.cons_append, List.nil_append]
        rw [numL, if_pos h1, if_neg h2]
    · rename_i h1
      split at h
      · rename_i n' z' hr
        injection h with h
        injection h with h3 h4
        subst h3; subst h4
        rw [List.take_succ_cons, List.cons_append, numL, if_neg h1, numL_local k s x false n' z' hr]
      · cases h
theorem takeV_bound {s : List UInt8} {n z : Nat} (h : takeV s = .ok (n, z)) : n < 9223372036854775808 ∧ 1 ≤ z ∧ z ≤ 9 ∧ z ≤ s.length := by
  obtain ⟨h1, h2, h3, h4, _⟩ := numL_bound 9 s true n z h
  exact ⟨by have : (128 : Nat) ^ 9 = 9223372036854775808 := by decide
            omega, h2, h3, h4⟩

/-- A reading that goes on. -/
def shiftR (a j : Nat) (r : Res Nat) : Res Nat := match r with | .ok (n, z) => .ok (a + 128 ^ j * n, j + z) | .error e => .error e
theorem shiftR_zero (r : Res Nat) : shiftR 0 0 r = r := by
  cases r with
  | error e => rfl
  | ok p => cases p; simp [shiftR]
/-- One byte more. -/
theorem shiftR_step {a j k : Nat} {c : UInt8} {s : List UInt8} {f : Bool} (h : ¬ c.toNat < 128) : shiftR a j (numL (k + 1) (c :: s) f) = shiftR (a + c.toNat % 128 * 128 ^ j) (j + 1) (numL k s false) := by
  rw [numL, if_neg h]
  cases numL k s false with
  | error e => rfl
  | ok p =>
    obtain ⟨n, z⟩ := p
    simp only [shiftR]
    rw [show a + 128 ^ j * (c.toNat % 128 + 128 * n) = a + c.toNat % 128 * 128 ^ j + 128 ^ (j + 1) * n by rw [Nat.mul_add, Nat.pow_succ, ← Nat.mul_assoc, Nat.mul_comm (128 ^ j) (c.toNat % 128)]; omega, show j + (z + 1) = j + 1 + z by omega]
end Go.Proofs.Ytdapjfnpnmejnaa
