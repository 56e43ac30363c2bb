/- A text found in a trie; what a set's list is; no condition but the sizes. -/
import Derived.Test.YtkbdfnmeomkpjaaGreatLnkR
namespace Go.Proofs.YtkbdfnmeomkpjaaGreat
open Go.RowKit
set_option linter.unusedVariables false
set_option linter.unusedSimpArgs false
set_option maxRecDepth 100000

theorem bl_mem {lp : List ByteArray} {y : List UInt8} (h : y ∈ bl lp) : ∃ s ∈ lp, s.data.toList = y := by
  unfold bl at h
  obtain ⟨s, hs, e⟩ := List.mem_map.1 h
  exact ⟨s, hs, e⟩
theorem new_ord {l lp : List ByteArray} (h : (OkL l ∧ lp.Perm l ∧ InOrd lp) ∨ lp = []) : (bl lp).Pairwise (· < ·) ∧ ∀ y ∈ bl lp, y ≠ [] := by
  rcases h with ⟨⟨_, h2, h3⟩, hp, ho⟩ | rfl
  · constructor
    · have hnd : lp.Nodup := hp.nodup_iff.2 h3
      unfold bl
      rw [List.pairwise_map]
      refine (List.Pairwise.and ho hnd).imp fun {a b} h => ?_
      rcases lt_tri a.data.toList b.data.toList with h1 | h1 | h1
      · exact h1
      · exfalso
        refine h.2 ?_
        have : a.data = b.data := Array.toList_inj.1 h1
        cases a; cases b; simp_all
      · exact absurd h1 h.1
    · intro y hy e
      obtain ⟨s, hs, e2⟩ := bl_mem hy
      refine h2 s (hp.mem_iff.1 hs) ?_
      rw [Lib.size_eq, e2, e]
      rfl
  · exact ⟨List.Pairwise.nil, fun y hy => by simp [bl] at hy⟩
theorem new_few {l lp : List ByteArray} {N M : Nat} (h : lp.Perm l ∨ lp = []) (hN : l.length ≤ N) (hM : ∀ s ∈ l, s.size ≤ M) : lp.length ≤ N ∧ ∀ y ∈ bl lp, y.length ≤ M := by
  rcases h with h | rfl
  · refine ⟨by rw [h.length_eq]; exact hN, fun y hy => ?_⟩
    obtain ⟨s, hs, e⟩ := bl_mem hy
    rw [← e, ← Lib.size_eq]
    exact hM s (h.mem_iff.1 hs)
  · exact ⟨Nat.zero_le _, fun y hy => by simp [bl] at hy⟩

end Go.Proofs.YtkbdfnmeomkpjaaGreat
