/- How the reference takes a line: it says nothing; no condition but the sizes. -/
import Derived.Test.YtjcjmjnajhkdaaaDoorScrG
namespace Go.Proofs.YtjcjmjnajhkdaaaDoor
open Go.RowKit
set_option linter.unusedVariables false
set_option linter.unusedSimpArgs false
set_option maxRecDepth 100000

set_option maxHeartbeats 1000000 in
theorem rline_none (s : Sc) (a0 a1 a5 a6 : Option Addr) (n0 n1 n5 n6 k0 k1 k5 k6 : Nat) (sc cc : Bool) (A : Option Addr) (n c B : Nat) (ws : List (List UInt8)) (w : World) (h : ScR w (.slice a0 n0 k0) (.slice a1 n1 k1) (.slice a5 n5 k5) (.slice a6 n6 k6) s) (hs : Sees w B 1 A n (strVs ws)) (hA : ∀ ad, A = some ad → ∃ g, ad = ⟨g, 0, none⟩)
    (hn : (n ≠ 2 ∧ n ≠ 4) ∨ (n = 2 ∧ ws.head? ≠ some wPattern ∧ ws.head? ≠ some wPart ∧ ws.head? ≠ some wCerts) ∨ (n = 4 ∧ ws.head? ≠ some wScan ∧ ws.head? ≠ some wSpoil)) :
    Calls Tryd.prog 22 #[scV (.slice a0 n0 k0) (.slice a1 n1 k1) (.slice a5 n5 k5) (.slice a6 n6 k6) s, .slice A n c, .bool sc, .bool cc] w fun e w' => RLine (.slice a0 n0 k0) (.slice a1 n1 k1) (.slice a5 n5 k5) (.slice a6 n6 k6) none w e w' := by
  have HR := Lib.hid h
  unfold scV
  have HV := Lib.hid (RV.start w (.slice a0 n0 k0) (.slice a1 n1 k1) (.slice a5 n5 k5) (.slice a6 n6 k6) s)
  have F0 := Lib.hid HV.out.b0
  have F1 := Lib.hid HV.out.b1
  have ONE := Lib.hid (show (#[(.slice a0 n0 k0), (.slice a1 n1 k1), (.int .i64 s.table), (.bool s.skip), (.int .i64 s.every), (.slice a5 n5 k5), (.slice a6 n6 k6)] : Array Value).all (·.oneCell') = true by simp [Value.oneCell'])
  have low := HV.out.low
  rcases hn with ⟨h2, h4⟩ | ⟨rfl, h1, h2, h3⟩ | ⟨rfl, h1, h2⟩
  · have q1 : ((n : Int) == 2) = false := by simp; omega
    have q2 : ((n : Int) == 4) = false := by simp; omega
    clear hs h low hA
    go_enter Tryd.func22, Tryd.ntmps22
    go_wp2_with (first
        | ((with_reducible refine at_op ⟨some 202, _, _, _, _, _⟩ ?_); refine wpList_load_row rfl 35 (.tmp 4) rfl w.heap.size rfl 35 #[(.slice a0 n0 k0), (.slice a1 n1 k1), (.int .i64 s.table), (.bool s.skip), (.int .i64 s.every), (.slice a5 n5 k5), (.slice a6 n6 k6)] (0, 0) _ F0.out Tryd.underlying35 rfl (by kernel_rfl) ?_)
        | ((with_reducible refine at_op ⟨none, .store 35 (.tmp 8) (.tmp 202), _, _, _, _⟩ ?_); refine wpList_store_row rfl 35 (.tmp 8) (.tmp 202) rfl (w.heap.size + 1) #[(.slice a0 n0 k0), (.slice a1 n1 k1), (.int .i64 s.table), (.bool s.skip), (.int .i64 s.every), (.slice a5 n5 k5), (.slice a6 n6 k6)] rfl rfl 35 _ F1.out (by kernel_rfl) rfl ONE.out ?_))
    refine rline_end (H := w.heap.size + 1) rfl rfl rfl (F1.out.setRow #[(.slice a0 n0 k0), (.slice a1 n1 k1), (.int .i64 s.table), (.bool s.skip), (.int .i64 s.every), (.slice a5 n5 k5), (.slice a6 n6 k6)]) rfl ?_
    exact ⟨HV.out.low.setRow (.inr (by omega)) _, a0, n0, k0, a1, n1, k1, a5, n5, k5, a6, n6, k6, s, rfl, fun r hr => by cases hr⟩
  · obtain ⟨ad0, a, rfl, hw0, c0⟩ := word_at hs (show 0 < 2 by decide)
    obtain ⟨g, rfl⟩ := hA ad0 rfl
    rw [add_flat] at c0
    have e0 := keepc c0 low
    have hh : ws.head? = some a := by rw [List.head?_eq_getElem?]; exact hw0
    rw [hh] at h1 h2 h3
    have q1 : (a == [112, 97, 116, 116, 101, 114, 110]) = false := by simpa [wPattern] using h1
    have q2 : (a == [112, 97, 114, 116]) = false := by simpa [wPart] using h2
    have q5 : (a == [99, 101, 114, 116, 115]) = false := by simpa [wCerts] using h3
    clear hs h low hA h1 h2 h3 hw0 hh c0
    go_enter Tryd.func22, Tryd.ntmps22
    go_wp2_with (first
        | ((with_reducible refine at_op ⟨some 202, _, _, _, _, _⟩ ?_); refine wpList_load_row rfl 35 (.tmp 4) rfl w.heap.size rfl 35 #[(.slice a0 n0 k0), (.slice a1 n1 k1), (.int .i64 s.table), (.bool s.skip), (.int .i64 s.every), (.slice a5 n5 k5), (.slice a6 n6 k6)] (0, 0) _ F0.out Tryd.underlying35 rfl (by kernel_rfl) ?_)
        | ((with_reducible refine at_op ⟨none, .store 35 (.tmp 8) (.tmp 202), _, _, _, _⟩ ?_); refine wpList_store_row rfl 35 (.tmp 8) (.tmp 202) rfl (w.heap.size + 1) #[(.slice a0 n0 k0), (.slice a1 n1 k1), (.int .i64 s.table), (.bool s.skip), (.int .i64 s.every), (.slice a5 n5 k5), (.slice a6 n6 k6)] rfl rfl 35 _ F1.out (by kernel_rfl) rfl ONE.out ?_))
    refine rline_end (H := w.heap.size + 1) rfl rfl rfl (F1.out.setRow #[(.slice a0 n0 k0), (.slice a1 n1 k1), (.int .i64 s.table), (.bool s.skip), (.int .i64 s.every), (.slice a5 n5 k5), (.slice a6 n6 k6)]) rfl ?_
    exact ⟨HV.out.low.setRow (.inr (by omega)) _, a0, n0, k0, a1, n1, k1, a5, n5, k5, a6, n6, k6, s, rfl, fun r hr => by cases hr⟩
  · obtain ⟨ad0, a, rfl, hw0, c0⟩ := word_at hs (show 0 < 4 by decide)
    obtain ⟨g, rfl⟩ := hA ad0 rfl
    rw [add_flat] at c0
    have e0 := keepc c0 low
    have hh : ws.head? = some a := by rw [List.head?_eq_getElem?]; exact hw0
    rw [hh] at h1 h2
    have q1 : (a == [115, 99, 97, 110]) = false := by simpa [wScan] using h1
    have q2 : (a == [115, 112, 111, 105, 108]) = false := by simpa [wSpoil] using h2
    clear hs h low hA h1 h2 hw0 hh c0
    go_enter Tryd.func22, Tryd.ntmps22
    go_wp2_with (first
        | ((with_reducible refine at_op ⟨some 202, _, _, _, _, _⟩ ?_); refine wpList_load_row rfl 35 (.tmp 4) rfl w.heap.size rfl 35 #[(.slice a0 n0 k0), (.slice a1 n1 k1), (.int .i64 s.table), (.bool s.skip), (.int .i64 s.every), (.slice a5 n5 k5), (.slice a6 n6 k6)] (0, 0) _ F0.out Tryd.underlying35 rfl (by kernel_rfl) ?_)
        | ((with_reducible refine at_op ⟨none, .store 35 (.tmp 8) (.tmp 202), _, _, _, _⟩ ?_); refine wpList_store_row rfl 35 (.tmp 8) (.tmp 202) rfl (w.heap.size + 1) #[(.slice a0 n0 k0), (.slice a1 n1 k1), (.int .i64 s.table), (.bool s.skip), (.int .i64 s.every), (.slice a5 n5 k5), (.slice a6 n6 k6)] rfl rfl 35 _ F1.out (by kernel_rfl) rfl ONE.out ?_))
    refine rline_end (H := w.heap.size + 1) rfl rfl rfl (F1.out.setRow #[(.slice a0 n0 k0), (.slice a1 n1 k1), (.int .i64 s.table), (.bool s.skip), (.int .i64 s.every), (.slice a5 n5 k5), (.slice a6 n6 k6)]) rfl ?_
    exact ⟨HV.out.low.setRow (.inr (by omega)) _, a0, n0, k0, a1, n1, k1, a5, n5, k5, a6, n6, k6, s, rfl, fun r hr => by cases hr⟩

end Go.Proofs.YtjcjmjnajhkdaaaDoor
