import Derived.Test.YtjcjmjnajhkdaaaDoorEscL
import Derived.Test.YtjcjmjnajhkdaaaDoorEsc
namespace Go.Proofs.YtjcjmjnajhkdaaaDoor
open Go.RowKit
set_option linter.unusedVariables false
set_option linter.unusedSimpArgs false
set_option maxRecDepth 100000

theorem plain_cases (c : UInt8) : (32 < (c.toNat : Int) → (c.toNat : Int) ≤ 126 → plainB c = ((c.toNat : Int) != 92)) ∧ (126 < (c.toNat : Int) → plainB c = false) ∧ ((c.toNat : Int) ≤ 32 → plainB c = false) := by
  unfold plainB
  refine ⟨fun h1 h2 => ?_, fun h => ?_, fun h => ?_⟩
  · rw [decide_eq_true (by omega : 32 < c.toNat), decide_eq_true (by omega : c.toNat ≤ 126)]
    simp only [Bool.true_and]
    by_cases h : c.toNat = 92
    · simp [h]
    · rw [decide_eq_true h, eq_comm, bne_iff_ne]; omega
  · rw [decide_eq_false (by omega : ¬ c.toNat ≤ 126)]; simp
  · rw [decide_eq_false (by omega : ¬ 32 < c.toNat)]; simp

set_option maxHeartbeats 1000000 in
theorem plain_ (c : UInt8) (w : World) : Calls Tryd.prog 86 #[.int .u8 c.toNat] w fun e w' => e = .returned (.bool (plainB c)) ∧ w = w' := by
  obtain ⟨p1, p2, p3⟩ := plain_cases c
  have H := @Lib.hid _ p1
  have H2 := @Lib.hid _ p2
  have H3 := @Lib.hid _ p3
  clear p1 p2 p3
  go_enter Tryd.func86, Tryd.ntmps86
  go_wp2
  · go_ret
    rw [H.out (by assumption) (by assumption)]; exact ⟨rfl, rfl⟩
  · go_ret
    rw [H2.out (by assumption)]; exact ⟨rfl, rfl⟩
  · go_ret
    rw [H3.out (by assumption)]; exact ⟨rfl, rfl⟩

theorem and15 (c : UInt8) : bits BinOp.and .u8 (c.toNat : Int) 15 = ((c.toNat % 16 : Nat) : Int) := all_bytes (p := fun c => bits BinOp.and .u8 (c.toNat : Int) 15 = ((c.toNat % 16 : Nat) : Int)) (by decide +kernel) c
theorem hex_at (n : Nat) (h : n < (⟨#[48, 49, 50, 51, 52, 53, 54, 55, 56, 57, 97, 98, 99, 100, 101, 102]⟩ : ByteArray).size) : hexd n = (⟨#[48, 49, 50, 51, 52, 53, 54, 55, 56, 57, 97, 98, 99, 100, 101, 102]⟩ : ByteArray)[n] := by
  have h' : n < 16 := h
  have : ∀ k : Fin 16, hexd k.val = (⟨#[48, 49, 50, 51, 52, 53, 54, 55, 56, 57, 97, 98, 99, 100, 101, 102]⟩ : ByteArray)[k.val]'k.isLt := by decide +kernel
  exact this ⟨n, h'⟩
theorem row_new (w : World) (l : List UInt8) (m : Nat) (hm : l.length = m) (hs : m ≤ maxLen) : Row (w.alloc (.cells (l.map byteV).toArray 5)).drew 5 1 (.slice (some ⟨w.heap.size, 0, none⟩) m m) m (l.map byteV) := by
  have hb := Blk.new w 5 (l.map byteV).toArray
  refine ⟨by simp [hm], .inr ⟨w.heap.size, m, (l.map byteV).toArray, rfl, Nat.zero_le _, hb, Nat.le_refl _, hs, by simp [hm], ?_⟩⟩
  rw [List.take_of_length_le (by simp [hm])]
theorem conv4 (X Y : UInt8) (w : World) : (convert 87 9 (.slice (some ⟨w.heap.size, 0, none⟩) 4 4)).run Tryd.prog (w.alloc (.cells #[.int .u8 92, .int .u8 120, .int .u8 X.toNat, .int .u8 Y.toNat] 5)).drew = .ok (.string ⟨#[92, 120, X, Y]⟩) (w.alloc (.cells #[.int .u8 92, .int .u8 120, .int .u8 X.toNat, .int .u8 Y.toNat] 5)).drew :=
  conv_row (bs := [92, 120, X, Y]) (dst := 9) Tryd.underlying87 Tryd.underlying5 Tryd.underlying9 (row_new w [92, 120, X, Y] 4 rfl (by decide))
theorem conv1 (X : UInt8) (w : World) : (convert 87 9 (.slice (some ⟨w.heap.size, 0, none⟩) 1 1)).run Tryd.prog (w.alloc (.cells #[.int .u8 X.toNat] 5)) = .ok (.string ⟨#[X]⟩) (w.alloc (.cells #[.int .u8 X.toNat] 5)) :=
  conv_row (bs := [X]) (dst := 9) Tryd.underlying87 Tryd.underlying5 Tryd.underlying9 (row_new w [X] 1 rfl (by decide))
set_option maxHeartbeats 1000000 in
theorem coded_ (c : UInt8) (w : World) : Calls Tryd.prog 73 #[.int .u8 c.toNat] w fun e w' => e = .returned (.string ⟨(codedL c).toArray⟩) ∧ Pure' w w' := by
  have hc := c.toNat_lt
  have h1 : (0 : Int) ≤ (c.toNat : Int) / 16 := by omega
  have h2 : (c.toNat : Int) / 16 < 16 := by omega
  have h3 : (c.toNat : Int) % 16 < 16 := by omega
  have h4 : (0 : Int) ≤ (c.toNat : Int) % 16 := by omega
  have ha := and15 c
  rw [Int.natCast_emod] at ha
  have hX : ∀ h, (⟨#[48, 49, 50, 51, 52, 53, 54, 55, 56, 57, 97, 98, 99, 100, 101, 102]⟩ : ByteArray)[c.toNat / 16]'h = hexd (c.toNat / 16) := fun h => (hex_at _ h).symm
  have hY : ∀ h, (⟨#[48, 49, 50, 51, 52, 53, 54, 55, 56, 57, 97, 98, 99, 100, 101, 102]⟩ : ByteArray)[c.toNat % 16]'h = hexd (c.toNat % 16) := fun h => (hex_at _ h).symm
  have hX' : ∀ h, (⟨#[48, 49, 50, 51, 52, 53, 54, 55, 56, 57, 97, 98, 99, 100, 101, 102]⟩ : ByteArray)[((c.toNat : Int) / 16).toNat]'h = hexd (c.toNat / 16) := fun h => (hex_at _ h).symm
  have hY' : ∀ h, (⟨#[48, 49, 50, 51, 52, 53, 54, 55, 56, 57, 97, 98, 99, 100, 101, 102]⟩ : ByteArray)[((c.toNat : Int) % 16).toNat]'h = hexd (c.toNat % 16) := fun h => (hex_at _ h).symm
  have hL := Lib.hid (show codedL c = [92, 120, hexd (c.toNat / 16), hexd (c.toNat % 16)] from rfl)
  generalize hexd (c.toNat / 16) = X at *
  generalize hexd (c.toNat % 16) = Y at *
  have hcv := conv4 X Y w
  go_enter Tryd.func73, Tryd.ntmps73
  go_wp2
  go_region
  go_wp2
  go_ret
  rw [hL.out]
  exact ⟨rfl, ((Keeps.refl _ w).alloc _).drew⟩

set_option maxHeartbeats 1000000 in
theorem sign_ (c : UInt8) (w : World) : Calls Tryd.prog 74 #[.int .u8 c.toNat] w fun e w' => e = .returned (.string ⟨(signL c).toArray⟩) ∧ Pure' w w' := by
  have hcv := conv1 c w
  have HC := Lib.hid (coded_ c)
  have HP := Lib.hid (plain_ c)
  go_enter Tryd.func74, Tryd.ntmps74
  by_cases h : c.toNat = 92
  · have hi : ((c.toNat : Int) == 92) = true := by simp [h]
    have HL := Lib.hid (show signL c = [92, 92] by unfold signL; rw [if_pos h])
    clear h
    go_wp2
    go_ret
    rw [HL.out]; exact ⟨rfl, Keeps.refl _ w⟩
  · have hi : ((c.toNat : Int) == 92) = false := by simp; omega
    cases hp : plainB c with
    | true =>
      have HL := Lib.hid (show signL c = [c] by unfold signL; rw [if_neg h, if_pos hp])
      have HB := Lib.hid hp
      clear h hp
      go_wp2_with (go_at_call 86; refine (HP.out _).mono ?_; rintro e w1 ⟨rfl, rfl⟩; rw [HB.out])
      go_ret
      rw [HL.out]; exact ⟨rfl, (Keeps.refl _ w).alloc _⟩
    | false =>
      have HL := Lib.hid (show signL c = codedL c by unfold signL; rw [if_neg h, if_neg (by rw [hp]; decide)])
      have HB := Lib.hid hp
      clear h hp
      go_wp2_with (first | (go_at_call 86; refine (HP.out _).mono ?_; rintro e w1 ⟨rfl, rfl⟩; rw [HB.out]) | (go_at_call 73; refine (HC.out _).mono ?_; rintro e w1 ⟨rfl, hk⟩))
      go_ret
      rw [HL.out]; exact ⟨rfl, hk⟩
end Go.Proofs.YtjcjmjnajhkdaaaDoor
