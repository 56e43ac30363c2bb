/- Skips: whether no row of the first ones has a byte; no condition but the sizes. -/
import Derived.Test.YtkbdfnmeomkpjaaGreatGrdC
namespace Go.Proofs.YtkbdfnmeomkpjaaGreat
open Go.RowKit
set_option linter.unusedVariables false
set_option linter.unusedSimpArgs false
set_option maxRecDepth 100000

theorem RowsAt.take {w : World} {b : Nat} {R : List GR} (h : RowsAt w b R) (n : Nat) : RowsAt w b (R.take n) := by
  intro k r hr j hj
  rw [List.getElem?_take] at hr
  split at hr
  · exact h k r hr j hj
  · cases hr
/-- What Skips answers of rows. -/
def skipsV (R : List GR) (c : Nat) (n : Int) : Bool := decide (1 ≤ n) && decide (n ≤ R.length) && !((R.take n.toNat).any fun r => grHas r c)
set_option maxHeartbeats 1000000 in
theorem skips_nil (c : Nat) (n : Int) (w : World) : Calls Tryz.prog 74 #[.pointer none, .int .u8 (c : Int), .int .i64 n] w fun e w' => e = .returned (.bool false) ∧ Pure' w w' := by
  go_enter Tryz.func74, Tryz.ntmps74
  go_wp2_with fail
  go_ret
  exact ⟨rfl, (Keeps.refl _ w).alloc _⟩
set_option maxHeartbeats 2000000 in
theorem skips_out (g c cap : Nat) (A : Option Addr) (m : Nat) (n : Int) (w : World) (hg : w.cell? ⟨g, 1, none⟩ = some (.slice A m cap)) (hgl : g < w.heap.size) (hn : ¬ (1 ≤ n ∧ n ≤ m)) :
    Calls Tryz.prog 74 #[.pointer (some ⟨g, 0, none⟩), .int .u8 (c : Int), .int .i64 n] w fun e w' => e = .returned (.bool false) ∧ Pure' w w' := by
  have hg2 : (w.alloc (.cells #[.int .u8 (c : Int)] 5)).cell? ⟨g, 1, none⟩ = some (.slice A m cap) := by
    rw [← hg]
    have := Below.heap_alloc w (.cells #[.int .u8 (c : Int)] 5) g hgl
    simp only [World.cell?, this]
  clear hg
  by_cases h1 : n < 1
  · clear hn
    go_enter Tryz.func74, Tryz.ntmps74
    go_wp2_with fail
    go_ret
    exact ⟨rfl, (Keeps.refl _ w).alloc _⟩
  · have h2 : (m : Int) < n := by omega
    clear hn
    go_enter Tryz.func74, Tryz.ntmps74
    go_wp2_with fail
    go_ret
    exact ⟨rfl, (Keeps.refl _ w).alloc _⟩
set_option maxHeartbeats 2000000 in
theorem skips_in (g c cap b : Nat) (R : List GR) (k : Nat) (w : World) (hc : c < 256) (hg : w.cell? ⟨g, 1, none⟩ = some (.slice (some ⟨b, 0, none⟩) R.length cap)) (hgl : g < w.heap.size) (hbl : b < w.heap.size) (hR : RowsAt w b R) (hok : ∀ r ∈ R, grOk r) (hn : R.length ≤ 1000) (hcap : R.length ≤ cap) (hk1 : 1 ≤ k) (hk : k ≤ R.length) :
    Calls Tryz.prog 74 #[.pointer (some ⟨g, 0, none⟩), .int .u8 (c : Int), .int .i64 (k : Int)] w fun e w' => e = .returned (.bool (!((R.take k).any fun r => grHas r c))) ∧ Pure' w w' := by
  have hg2 : (w.alloc (.cells #[.int .u8 (c : Int)] 5)).cell? ⟨g, 1, none⟩ = some (.slice (some ⟨b, 0, none⟩) R.length cap) := by
    rw [← hg]
    have := Below.heap_alloc w (.cells #[.int .u8 (c : Int)] 5) g hgl
    simp only [World.cell?, this]
  have hK : Pure' w (w.alloc (.cells #[.int .u8 (c : Int)] 5)) := (Keeps.refl _ w).alloc _
  have hsz : (w.alloc (.cells #[.int .u8 (c : Int)] 5)).heap.size = w.heap.size + 1 := by show (w.heap.push _).size = _; exact Array.size_push _
  have hlen : (R.take k).length = k := by rw [List.length_take]; omega
  have H := fun cp => containsf_ w.heap.size c b cp (R.take k) (w.alloc (.cells #[.int .u8 (c : Int)] 5)) hc (by rw [Blk.cell (Blk.new w _ _) 0]; rfl) (by omega) (by omega) ((hR.pure hbl hK).take k) (fun r hr => hok r (List.mem_of_mem_take hr)) (by omega)
  rw [hlen] at H
  have HH := Lib.hid H
  have HKK := Lib.hid hK
  generalize (R.take k).any (fun r => grHas r c) = q at HH ⊢
  have h1 : ¬ (k : Int) < 1 := by omega
  have h2 : ¬ (R.length : Int) < (k : Int) := by omega
  have h3 : (k : Int) ≤ (cap : Int) := by omega
  generalize R.length = m at *
  clear H hK hsz hlen hR hok hg
  go_enter Tryz.func74, Tryz.ntmps74
  go_wp2_with fail
  refine (HH.out _).mono ?_
  rintro e w1 ⟨rfl, hk2⟩
  have HK2 := Lib.hid (HKK.out.trans hk2 (fun _ _ hf => hf))
  clear hk2
  go_wp2_with fail
  go_ret
  exact ⟨rfl, HK2.out⟩
end Go.Proofs.YtkbdfnmeomkpjaaGreat
