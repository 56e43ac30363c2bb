/- The chapter's examples of a guard, and what the scanner's tables tell against what the checker lets be; no condition but the sizes. -/
import Derived.Test.YtkbdfnmeomkpjaaGreatGrdU
namespace Go.Proofs.YtkbdfnmeomkpjaaGreat
open Go.RowKit
set_option linter.unusedVariables false
set_option linter.unusedSimpArgs false
set_option maxRecDepth 100000

def AWg : List (List UInt8) := [[97, 98, 99], [98, 99]]
def awlg : List ByteArray := [⟨#[97, 98, 99]⟩, ⟨#[98, 99]⟩]
theorem awlg_ok : OkL awlg := ⟨by simp [awlg], by decide, by decide⟩
theorem awg_only {lp : List ByteArray} (h : lp.Perm awlg) (ho : (bl lp).Pairwise (· < ·)) : bl lp = AWg := by
  have hp : (bl lp).Perm AWg := h.map _
  exact hp.eq_of_pairwise (le := fun a b => a < b) (fun a b _ _ h1 h2 => absurd h2 (lt_as h1)) ho (by decide)
theorem u8_of {a : Int} (h : 0 ≤ a ∧ a ≤ 255) : ∃ c : UInt8, a = (c.toNat : Int) := ⟨UInt8.ofNat a.toNat, by simp; omega⟩
theorem skip_first {l : List (List UInt8)} {m n1 : Nat} {ch : UInt8} (h : FirstP l ch m n1) (i : Nat) : skipB l m ch (i : Int) = (decide (1 ≤ i) && decide (i ≤ n1)) := by
  obtain ⟨h1, h2, h3⟩ := h
  by_cases hi : 1 ≤ i
  · by_cases hm : i ≤ m
    · rw [skipB_in ch hi hm, decide_eq_true hi, Bool.true_and]
      by_cases hn : i ≤ n1
      · rw [decide_eq_true hn]
        have : (List.range i).any (fun d => hasD l ch d) = false := by
          rw [List.any_eq_false]
          intro d hd
          have hd := List.mem_range.1 hd
          rw [h2 d (by omega)]; decide
        rw [this]; rfl
      · rw [decide_eq_false hn]
        have : (List.range i).any (fun d => hasD l ch d) = true := List.any_eq_true.2 ⟨n1, List.mem_range.2 (by omega), h3 (by omega)⟩
        rw [this]; rfl
    · rw [skipB_out ch (.inr (by omega)), decide_eq_false (p := i ≤ n1) (by omega), Bool.and_false]
  · rw [skipB_out ch (.inl (by omega)), decide_eq_false hi]; rfl
theorem leap_near {l : List (List UInt8)} {m n1 : Nat} {a ch : UInt8} (h : NearP l a ch (m - 1) n1) (i : Nat) : leapB l m a ch (i : Int) = (decide (1 ≤ i) && decide (i ≤ n1)) := by
  obtain ⟨h1, h2, h3⟩ := h
  by_cases hi : 1 ≤ i
  · by_cases hm : i ≤ m - 1
    · rw [leapB_in a ch hi hm, decide_eq_true hi, Bool.true_and]
      by_cases hn : i ≤ n1
      · rw [decide_eq_true hn]
        have : (List.range i).any (fun d => hasP l a ch d) = false := by
          rw [List.any_eq_false]
          intro d hd
          have hd := List.mem_range.1 hd
          rw [h2 d (by omega)]; decide
        rw [this]; rfl
      · rw [decide_eq_false hn]
        have : (List.range i).any (fun d => hasP l a ch d) = true := List.any_eq_true.2 ⟨n1, List.mem_range.2 (by omega), h3 (by omega)⟩
        rw [this]; rfl
    · rw [leapB_out a ch (.inr (by omega)), decide_eq_false (p := i ≤ n1) (by omega), Bool.and_false]
  · rw [leapB_out a ch (.inl (by omega)), decide_eq_false hi]; rfl
end Go.Proofs.YtkbdfnmeomkpjaaGreat
