/- The examples of the law's own; no condition. -/
import Derived.Test.YtacodojaolnhnaaDoorDigF
namespace Go.Proofs.YtacodojaolnhnaaDoor
open Go.RowKit
set_option linter.unusedVariables false
set_option linter.unusedSimpArgs false
set_option maxRecDepth 100000

theorem aw1 : parseR [45, 53] (-9) 9 = .tuple #[.int .i64 (-5), .int .i64 0] := by
  unfold parseR; rw [show parseV [45, 53] (-9) 9 = (-5, 0) by decide +kernel]
theorem aw2 : parseR [48, 48, 55] 0 9 = .tuple #[.int .i64 0, .int .i64 3] := by
  unfold parseR; rw [show parseV [48, 48, 55] 0 9 = (0, 3) by decide +kernel]
theorem aw3 : parseR [49, 48] 0 9 = .tuple #[.int .i64 0, .int .i64 11] := by
  unfold parseR; rw [show parseV [49, 48] 0 9 = (0, 11) by decide +kernel]
theorem aw4 : rowL [3, 0, -1] = [51, 44, 48, 44, 45, 49] := by
  have h1 : textL 3 = [dg 3] := by rw [textL_pos (by decide)]; exact natL_small (by decide)
  have h2 : textL 0 = [dg 0] := by rw [textL_pos (by decide)]; exact natL_small (by decide)
  have h3 : textL (-1) = [45, dg 1] := by rw [textL_neg (by decide)]; exact congrArg _ (natL_small (by decide))
  unfold rowL
  rw [if_neg (by decide)]
  simp only [List.map_cons, List.map_nil, h1, h2, h3]
  decide +kernel

theorem sees_new (w : World) (e : TypeId) (us : List Value) (n : Nat) (hn : us.length = n) : Sees (w.alloc (.cells us.toArray e)) (w.alloc (.cells us.toArray e)).heap.size 1 (some ⟨w.heap.size, 0, none⟩) n us := by
  refine ⟨by omega, fun _ => ⟨_, rfl, ?_, fun j u hu => ?_⟩⟩
  · show w.heap.size < (w.heap.push _).size
    rw [Array.size_push]; exact Nat.lt_succ_self _
  · rw [show (⟨w.heap.size, 0, none⟩ : Addr).add j = ⟨w.heap.size, j, none⟩ from by unfold Addr.add; split <;> simp_all, (Blk.new w e us.toArray).cell]
    simpa using hu

set_option maxHeartbeats 1000000 in
theorem awake01 (w : World) : Calls Tryd.prog 5 #[] w fun e w' => e = .returned (.bool true) ∧ Pure' w w' := by
  have H1 := Lib.hid parse_
  have H2 := Lib.hid row_
  have E1 := Lib.hid aw1
  have E2 := Lib.hid aw2
  have E3 := Lib.hid aw3
  obtain ⟨q, hq⟩ : ∃ q : ByteArray, q = ⟨(rowL [3, 0, -1]).toArray⟩ := ⟨_, rfl⟩
  have T : (q.toList == [51, 44, 48, 44, 45, 49]) = true := by rw [hq, aw4]; decide +kernel
  have HQ := Lib.hid hq
  clear hq
  go_enter Tryd.func5, Tryd.ntmps5
  go_wp2_with (first
    | (go_at_call 6; refine (H1.out _ _ _ _ (by decide) (by decide) (by decide)).mono ?_; rintro e w1 ⟨rfl, hk⟩; first | (rw [E1.out]; have HK1 := Lib.hid hk; clear hk) | (rw [E2.out]; have HK2 := Lib.hid hk; clear hk) | (rw [E3.out]; have HK3 := Lib.hid hk; clear hk))
    | (go_at_call 12; refine (H2.out _ _ _ _ [3, 0, -1] _ (sees_new _ _ [.int .i64 3, .int .i64 0, .int .i64 (-1)] 3 rfl) (Nat.le_refl _) (by decide) (by decide)).mono ?_; rintro e w4 ⟨rfl, hk⟩; rw [← HQ.out]; have HK4 := Lib.hid hk; clear hk))
  go_ret
  exact ⟨rfl, (((HK1.out.then_ HK2.out).then_ HK3.out).alloc _).then_ HK4.out⟩

end Go.Proofs.YtacodojaolnhnaaDoor
