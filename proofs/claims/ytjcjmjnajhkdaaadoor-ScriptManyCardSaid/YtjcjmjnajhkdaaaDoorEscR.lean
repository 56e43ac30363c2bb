import Derived.Test.YtjcjmjnajhkdaaaDoorEscQ
namespace Go.Proofs.YtjcjmjnajhkdaaaDoor
open Go.RowKit
set_option linter.unusedVariables false
set_option linter.unusedSimpArgs false
set_option maxRecDepth 100000

theorem rplain_cases (c : UInt8) : (33 ≤ (c.toNat : Int) → (c.toNat : Int) ≤ 126 → plainB c = ((c.toNat : Int) != 92)) ∧ (126 < (c.toNat : Int) → plainB c = false) ∧ ((c.toNat : Int) < 33 → plainB c = false) := by
  obtain ⟨p1, p2, p3⟩ := plain_cases c
  exact ⟨fun h => p1 (by omega), p2, fun h => p3 (by omega)⟩

set_option maxHeartbeats 1000000 in
theorem rplain_ (c : UInt8) (w : World) : Calls Tryd.prog 76 #[.int .u8 c.toNat] w fun e w' => e = .returned (.bool (plainB c)) ∧ w = w' := by
  obtain ⟨p1, p2, p3⟩ := rplain_cases c
  have H := @Lib.hid _ p1
  have H2 := @Lib.hid _ p2
  have H3 := @Lib.hid _ p3
  clear p1 p2 p3
  go_enter Tryd.func76, Tryd.ntmps76
  go_wp2
  · go_ret
    rw [H.out (by assumption) (by assumption)]; exact ⟨rfl, rfl⟩
  · go_ret
    rw [H2.out (by assumption)]; exact ⟨rfl, rfl⟩
  · go_ret
    rw [H3.out (by assumption)]; exact ⟨rfl, rfl⟩

theorem hex_cut : ∀ k : Fin 16, (⟨#[48, 49, 50, 51, 52, 53, 54, 55, 56, 57, 97, 98, 99, 100, 101, 102]⟩ : ByteArray).extract k.val (k.val + 1) = ⟨#[hexd k.val]⟩ := by decide +kernel

set_option maxHeartbeats 1000000 in
theorem rdigit_ (k : Nat) (hk : k < 16) (w : World) : Calls Tryd.prog 77 #[.int .i64 k] w fun e w' => e = .returned (.string ⟨#[hexd k]⟩) ∧ w = w' := by
  have hc := Lib.hid (hex_cut ⟨k, hk⟩)
  have h1 : (0 : Int) ≤ k := by omega
  have h2 : (k : Int) < 16 := by omega
  have h3 : (k : Int) + 1 ≤ 16 := by omega
  go_enter Tryd.func77, Tryd.ntmps77
  go_wp2
  go_ret
  refine ⟨?_, rfl⟩
  rw [← hc.out]
  rfl

set_option maxHeartbeats 1000000 in
theorem rsign_ (c : UInt8) (w : World) : Calls Tryd.prog 59 #[.int .u8 c.toNat] w fun e w' => e = .returned (.string ⟨(signL c).toArray⟩) ∧ Pure' w w' := by
  have hcv := conv1 c w
  have HP := Lib.hid (rplain_ c)
  have HD := Lib.hid rdigit_
  have hlt := c.toNat_lt
  go_enter Tryd.func59, Tryd.ntmps59
  by_cases h : c.toNat = 92
  · have hi : ((c.toNat : Int) == 92) = true := by simp [h]
    have HL := Lib.hid (show signL c = [92, 92] by unfold signL; rw [if_pos h])
    clear h
    go_wp2
    go_ret
    rw [HL.out]; exact ⟨rfl, Keeps.refl _ w⟩
  · have hi : ((c.toNat : Int) == 92) = false := by simp; omega
    cases hp : plainB c with
    | true =>
      have HL := Lib.hid (show signL c = [c] by unfold signL; rw [if_neg h, if_pos hp])
      have HB := Lib.hid hp
      clear h hp
      go_wp2_with (go_at_call 76; refine (HP.out _).mono ?_; rintro e w1 ⟨rfl, rfl⟩; rw [HB.out])
      go_ret
      rw [HL.out]; exact ⟨rfl, (Keeps.refl _ w).alloc _⟩
    | false =>
      have HL := Lib.hid (show signL c = codedL c by unfold signL; rw [if_neg h, if_neg (by rw [hp]; decide)])
      have HB := Lib.hid hp
      clear h hp
      have e1 : Hid (∀ w, Calls Tryd.prog 77 #[.int .i64 ((c.toNat : Int) / 16)] w fun e w' => e = .returned (.string ⟨#[hexd (c.toNat / 16)]⟩) ∧ w = w') := Lib.hid (fun w => by have := rdigit_ (c.toNat / 16) (by omega) w; simpa using this)
      have e2 : Hid (∀ w, Calls Tryd.prog 77 #[.int .i64 ((c.toNat : Int) % 16)] w fun e w' => e = .returned (.string ⟨#[hexd (c.toNat % 16)]⟩) ∧ w = w') := Lib.hid (fun w => by have := rdigit_ (c.toNat % 16) (by omega) w; simpa using this)
      go_wp2_with (first | (go_at_call 76; refine (HP.out _).mono ?_; rintro e w1 ⟨rfl, rfl⟩; rw [HB.out]) | (go_at_call 77; refine (e1.out _).mono ?_; rintro e w1 ⟨rfl, rfl⟩) | (go_at_call 77; refine (e2.out _).mono ?_; rintro e w1 ⟨rfl, rfl⟩))
      go_ret
      rw [HL.out]; exact ⟨rfl, Keeps.refl _ _⟩

set_option maxHeartbeats 1000000 in
theorem rquote_big (s : List UInt8) (w : World) (hs : s.length ≤ 1000000) (h1 : s ≠ []) (h2 : s ≠ [45]) : Calls Tryd.prog 28 #[.string ⟨s.toArray⟩] w fun e w' => e = .returned (.string ⟨(quoteL s).toArray⟩) ∧ Pure' w w' := by
  go_enter Tryd.func28, Tryd.ntmps28
  have q1 : s.isEmpty = false := by cases s with | nil => exact absurd rfl h1 | cons _ _ => rfl
  have q2 : (s == [45]) = false := by simpa using h2
  have hsz : ((⟨s.toArray⟩ : ByteArray)).size = s.length := by simp [ByteArray.size]
  have HS := Lib.hid rsign_
  have HG : Hid (∀ (k : Nat) (h : k < s.length) h', (⟨s.toArray⟩ : ByteArray)[k]'h' = s[k]) := Lib.hid (fun k h h' => rfl)
  generalize hn : s.length = n at *
  go_wp2
  go_loopw [3, 4] (fun v3 v wr => ∃ k : Nat, k ≤ n ∧ v = .int .i64 k ∧ v3 = .string ⟨(signsL (s.take k)).toArray⟩ ∧ Pure' w wr) (fun _ v _ => n - (intOf v).toNat)
  case atStart => exact ⟨0, Nat.zero_le _, rfl, rfl, Keeps.refl _ _⟩
  case round =>
    obtain ⟨k, hk, rfl, rfl, hI⟩ := hrel
    have HI := Lib.hid hI
    clear hI
    by_cases hlt : k < n
    · have hA : (signsL (s.take k)).length ≤ 4000000 := by
        have h1 := signs_len (s.take k); rw [List.length_take] at h1; omega
      have hA' : (⟨(signsL (s.take k)).toArray⟩ : ByteArray).size ≤ 4000000 := by simpa [ByteArray.size] using hA
      have hB := sign_len ((⟨s.toArray⟩ : ByteArray)[k]'(by omega))
      go_wp2_with (go_at_call 59; refine (HS.out _ _).mono ?_; rintro e w2 ⟨rfl, hk2⟩; have HK2 := Lib.hid hk2; clear hk2)
      go_roundw
      case rel =>
        refine ⟨k + 1, by omega, by go_num, ?_, HI.out.trans HK2.out (fun _ _ h => h)⟩
        rw [sign_take (by omega)]
        simp
        rfl
      case measure => simp [intOf]; omega
    · obtain rfl : k = n := by omega
      go_wp2
      go_ret
      have hq : quoteL s = signsL (s.take k) := by unfold quoteL; rw [if_neg h1, if_neg h2, List.take_of_length_le (by omega)]
      exact ⟨by rw [hq]; rfl, HI.out⟩

set_option maxHeartbeats 1000000 in
theorem rquote_ (s : List UInt8) (w : World) (hs : s.length ≤ 1000000) : Calls Tryd.prog 28 #[.string ⟨s.toArray⟩] w fun e w' => e = .returned (.string ⟨(quoteL s).toArray⟩) ∧ Pure' w w' := by
  by_cases h1 : s = []
  · subst h1
    have hq := Lib.hid (show quoteL [] = [45] from rfl)
    go_enter Tryd.func28, Tryd.ntmps28
    go_wp2
    go_ret
    exact ⟨by rw [hq.out]; rfl, Keeps.refl _ w⟩
  · by_cases h2 : s = [45]
    · subst h2
      have hq := Lib.hid (show quoteL [45] = [92, 120, 50, 100] by decide +kernel)
      go_enter Tryd.func28, Tryd.ntmps28
      go_wp2
      go_ret
      exact ⟨by rw [hq.out]; rfl, Keeps.refl _ w⟩
    · exact rquote_big s w hs h1 h2
end Go.Proofs.YtjcjmjnajhkdaaaDoor
