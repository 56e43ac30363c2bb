/- What DigitTexts answers; no condition. -/
import Derived.Test.YtacodojaolnhnaaDigF
namespace Go.Proofs.Ytacodojaolnhnaa
open Go.RowKit
set_option linter.unusedVariables false
set_option linter.unusedSimpArgs false
set_option maxRecDepth 100000

theorem aw1 : parseR [45, 53] (-9) 9 = .tuple #[.int .i64 (-5), .int .i64 0] := by
  unfold parseR; rw [show parseV [45, 53] (-9) 9 = (-5, 0) by decide +kernel]
theorem aw2 : parseR [48, 48, 55] 0 9 = .tuple #[.int .i64 0, .int .i64 3] := by
  unfold parseR; rw [show parseV [48, 48, 55] 0 9 = (0, 3) by decide +kernel]
theorem aw3 : parseR [49, 48] 0 9 = .tuple #[.int .i64 0, .int .i64 11] := by
  unfold parseR; rw [show parseV [49, 48] 0 9 = (0, 11) by decide +kernel]
theorem aw4 : rowL [3, 0, -1] = [51, 44, 48, 44, 45, 49] := by
  have h1 : textL 3 = [dg 3] := by rw [textL_pos (by decide)]; exact natL_small (by decide)
  have h2 : textL 0 = [dg 0] := by rw [textL_pos (by decide)]; exact natL_small (by decide)
  have h3 : textL (-1) = [45, dg 1] := by rw [textL_neg (by decide)]; exact congrArg _ (natL_small (by decide))
  unfold rowL
  rw [if_neg (by decide)]
  simp only [List.map_cons, List.map_nil, h1, h2, h3]
  decide +kernel

theorem sees_new (w : World) (e : TypeId) (us : List Value) (n : Nat) (hn : us.length = n) : Sees (w.alloc (.cells us.toArray e)) (w.alloc (.cells us.toArray e)).heap.size 1 (some ⟨w.heap.size, 0, none⟩) n us := by
  refine ⟨by omega, fun _ => ⟨_, rfl, ?_, fun j u hu => ?_⟩⟩
  · show w.heap.size < (w.heap.push _).size
    rw [Array.size_push]; exact Nat.lt_succ_self _
  · rw [show (⟨w.heap.size, 0, none⟩ : Addr).add j = ⟨w.heap.size, j, none⟩ from by unfold Addr.add; split <;> simp_all, (Blk.new w e us.toArray).cell]
    simpa using hu

set_option maxHeartbeats 1000000 in
theorem awake01 (w : World) : Calls Try.prog 46 #[] w fun e w' => e = .returned (.bool true) ∧ Pure' w w' := by
  have H1 := Lib.hid parse_
  have H2 := Lib.hid row_
  have E1 := Lib.hid aw1
  have E2 := Lib.hid aw2
  have E3 := Lib.hid aw3
  obtain ⟨q, hq⟩ : ∃ q : ByteArray, q = ⟨(rowL [3, 0, -1]).toArray⟩ := ⟨_, rfl⟩
  have T : (q.toList == [51, 44, 48, 44, 45, 49]) = true := by rw [hq, aw4]; decide +kernel
  have HQ := Lib.hid hq
  clear hq
  go_enter Try.func46, Try.ntmps46
  go_wp2_with (first
    | (go_at_call 62; refine (H1.out _ _ _ _ (by decide) (by decide) (by decide)).mono ?_; rintro e w1 ⟨rfl, hk⟩; first | (rw [E1.out]; have HK1 := Lib.hid hk; clear hk) | (rw [E2.out]; have HK2 := Lib.hid hk; clear hk) | (rw [E3.out]; have HK3 := Lib.hid hk; clear hk))
    | (go_at_call 49; refine (H2.out _ _ _ _ [3, 0, -1] _ (sees_new _ _ [.int .i64 3, .int .i64 0, .int .i64 (-1)] 3 rfl) (Nat.le_refl _) (by decide) (by decide)).mono ?_; rintro e w4 ⟨rfl, hk⟩; rw [← HQ.out]; have HK4 := Lib.hid hk; clear hk))
  go_ret
  exact ⟨rfl, (((HK1.out.then_ HK2.out).then_ HK3.out).alloc _).then_ HK4.out⟩

set_option maxHeartbeats 1000000 in
theorem texts_walk (w : World) (n : Int) (A : Option Addr) (m c : Nat) (zs : List Int) (hn : -9223372036854775808 ≤ n ∧ n ≤ 9223372036854775807)
    (hl : m ≤ c ∧ m ≤ maxLen ∧ Sees w w.heap.size 1 A m (zs.map (Value.int .i64)) ∧ ∀ z ∈ zs, -9223372036854775808 ≤ z ∧ z ≤ 9223372036854775807) :
    Calls Try.prog 11 #[.int .i64 n, .slice A m c] w fun e w' => e = .returned (.bool true) ∧ Pure' w w' := by
  obtain ⟨h1, h2, h3, h4⟩ := hl
  unfold maxLen at h2
  have H5 := Lib.hid awake01
  by_cases h : 100 < m
  · go_enter Try.func11, Try.ntmps11
    go_wp2_with (go_at_call 46; refine (H5.out _).mono ?_; rintro e w1 ⟨rfl, hp1⟩)
    go_ret
    exact ⟨rfl, by assumption⟩
  · have H1 := Lib.hid (fun w => text_ n w hn.1 hn.2)
    have H2 := Lib.hid (fun w => rtext n w hn.1 hn.2)
    have H3 := Lib.hid (fun w1 (hp : Pure' w w1) => row_ A m c w.heap.size zs w1 (h3.pure hp (Nat.le_refl _)) hp.size (by omega) h4)
    have H4 := Lib.hid (fun w1 (hp : Pure' w w1) => rrow_ A m c w.heap.size zs w1 (h3.pure hp (Nat.le_refl _)) (by omega) h4)
    clear h3 h4
    go_enter Try.func11, Try.ntmps11
    go_wp2_with (first
      | (go_at_call 47; refine (H1.out _).mono ?_; rintro e w1 ⟨rfl, hk⟩; have HK1 := Lib.hid hk; clear hk)
      | (go_at_call 48; refine (H2.out _).mono ?_; rintro e w2 ⟨rfl, rfl⟩)
      | (go_at_call 49; refine (H3.out _ HK1.out).mono ?_; rintro e w3 ⟨rfl, hk⟩; have HK3 := Lib.hid (HK1.out.then_ hk); clear hk)
      | (go_at_call 50; refine (H4.out _ HK3.out).mono ?_; rintro e w4 ⟨rfl, rfl⟩)
      | (go_at_call 46; refine (H5.out _).mono ?_; rintro e w6 ⟨rfl, hk⟩; have HK6 := Lib.hid hk; clear hk))
    go_ret
    exact ⟨rfl, HK3.out.then_ HK6.out⟩
end Go.Proofs.Ytacodojaolnhnaa
