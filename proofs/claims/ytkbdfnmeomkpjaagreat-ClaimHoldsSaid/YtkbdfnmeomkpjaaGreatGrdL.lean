/- Compact at uint16 on a sorted list: each number once; no condition but the sizes. -/
import Derived.Test.YtkbdfnmeomkpjaaGreatGrdK
import Derived.Test.YtkbdfnmeomkpjaaGreatShelf
namespace Go.Proofs.YtkbdfnmeomkpjaaGreat
open Go.RowKit Go.Sort Go.Lib
set_option linter.unusedVariables false
set_option linter.unusedSimpArgs false
set_option maxRecDepth 100000

theorem Row.short {w : World} {t : TypeId} {b cap n k : Nat} {xs : List Value} (h : Row w t 1 (.slice (some ⟨b, 0, none⟩) n cap) n xs) (hk : k ≤ n) :
    Row w t 1 (.slice (some ⟨b, 0, none⟩) k cap) k (xs.take k) := by
  have hl := h.1
  refine ⟨by rw [List.length_take]; omega, ?_⟩
  rcases h.2 with ⟨h2, _⟩ | ⟨g, cap', cur, hv, hg, hh, hnc, hm, hz, ht⟩
  · cases h2
  · injection hv with h3 _ h5
    injection h3 with h3
    injection h3 with h3
    subst h3; subst h5
    refine .inr ⟨b, cap, cur, rfl, hg, hh, by omega, hm, hz, ?_⟩
    rw [← ht, List.take_take]
    congr 1
    omega
set_option maxHeartbeats 1000000 in
theorem cmp16_ (b cap : Nat) (L : List Nat) (w : World) (h : Row w 90 1 (.slice (some ⟨b, 0, none⟩) L.length cap) L.length (u16Vs L)) (hs : L.Pairwise (· ≤ ·)) (hn : L.length ≤ 12) (hcap : L.length ≤ cap) :
    Calls Tryz.prog 59 #[.slice (some ⟨b, 0, none⟩) L.length cap] w fun e w' => ∃ M : List Nat, e = .returned (.slice (some ⟨b, 0, none⟩) M.length cap) ∧ M.Pairwise (· < ·) ∧ (∀ y, y ∈ M ↔ y ∈ L) ∧ M.length ≤ L.length ∧ Row w' 90 1 (.slice (some ⟨b, 0, none⟩) M.length cap) M.length (u16Vs M) ∧ Keeps (fun x => x = b) w w' := by
  obtain ⟨M, e1, e2, e3, e4⟩ := comp_plain L hs
  have hc := Tryz.slices_Compact (Value.int .u16) (fun _ => rfl) (EqlAt.intD _ _ .u16) (NeqAt.intD _ _ .u16) (0 : Int) Tryz.zeroValue90 b 0 cap (castA L) w h.holds (by rw [castA_size]; omega) (by rw [castA_size]; exact hcap)
  rw [e1, castA_size, List.length_map] at hc
  refine hc.mono ?_
  rintro e w' ⟨rfl, q, rfl⟩
  refine ⟨M, rfl, e2, e3, e4, ?_, Keeps.putRow_ _ _ _ _⟩
  have hr := (h.putRow_ q ((M.map (fun y : Nat => (y : Int))) ++ List.replicate (L.length - M.length) 0).toArray (by simp; omega)).short e4
  rw [List.map_append, List.take_left' (by simp)] at hr
  rw [show u16Vs M = (M.map (fun y : Nat => (y : Int))).map (Value.int .u16) by simp [u16Vs]]
  exact hr
end Go.Proofs.YtkbdfnmeomkpjaaGreat
