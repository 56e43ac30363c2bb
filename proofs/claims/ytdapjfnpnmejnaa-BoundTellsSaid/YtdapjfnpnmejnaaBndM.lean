/- Products of offsets bit by bit, by the reference; no condition but that the numbers are ints. -/
import Derived.Test.YtdapjfnpnmejnaaBndK
namespace Go.Proofs.Ytdapjfnpnmejnaa
open Go.RowKit
set_option linter.unusedVariables false
set_option linter.unusedSimpArgs false
set_option maxRecDepth 100000

def rmulR (a n : Int) : Value := if isO a = true ∧ isO n = true then (if a * n ≤ 4611686018427387903 then .tuple #[.int .i64 (a * n), .int .i64 0] else .tuple #[.int .i64 0, .int .i64 10]) else .tuple #[.int .i64 0, .int .i64 2]

theorem bit_one (n k : Nat) (hn : n ≤ 4611686018427387903) : bits .and .i64 ((n : Int) / 2 ^ k) 1 = ((n / 2 ^ k % 2 : Nat) : Int) := by
  have hle : n / 2 ^ k ≤ n := Nat.div_le_self _ _
  rw [show ((n : Int) / 2 ^ k) = ((n / 2 ^ k : Nat) : Int) by simp]
  generalize n / 2 ^ k = i at *
  have two63 : (2 : Int) ^ 63 = 9223372036854775808 := by decide
  have h := bits_mask .i64 63 (by decide) (fun n h0 h1 => by rw [two63] at h1; rw [IntKind.wrap_i64]; omega) 1 (by decide) (i : Int) (by omega) (by rw [two63]; omega)
  have e : ((2 : Int) ^ 1 - 1) = 1 := by decide
  rw [e] at h
  rw [h]
  omega
set_option maxHeartbeats 1000000 in
theorem rmul_nat (a n : Nat) (w : World) (ha : a ≤ 4611686018427387903) (hn : n ≤ 4611686018427387903) : Calls Try.prog 91 #[.int .i64 a, .int .i64 n] w fun e w' => (∃ v er : Int, e = .returned (.tuple #[.int .i64 v, .int .i64 er]) ∧ (((er = 0 ∧ v = a * n ∧ (a * n : Nat) ≤ 4611686018427387903)) ∨ (er = 10 ∧ v = 0 ∧ 4611686018427387903 < a * n))) ∧ w = w' := by
  have HI := Lib.hid ris_
  have HA : Hid (isO (a : Int) = true) := Lib.hid (isO_iff.2 ⟨by omega, by omega⟩)
  have HN : Hid (isO (n : Int) = true) := Lib.hid (isO_iff.2 ⟨by omega, by omega⟩)
  go_enter Try.func91, Try.ntmps91
  go_wp2_with (go_at_call 52; refine (HI.out _ _).mono ?_; rintro r w1 ⟨rfl, rfl⟩; first | rw [HA.out] | rw [HN.out])
  go_loopw [6, 7] (fun v6 v7 wr => ∃ (t x : Nat), t ≤ 62 ∧ v7 = .int .i64 ((t : Int) - 1) ∧ v6 = .int .i64 x ∧ Hid (x = a * (n / 2 ^ t)) ∧ x ≤ 4611686018427387903 ∧ wr = w) (fun _ v7 _ => (intOf v7 + 1).toNat)
  case atStart => exact ⟨62, 0, by omega, by go_num, rfl, Lib.hid (by rw [Nat.div_eq_of_lt (by omega)]; rfl), by omega, rfl⟩
  case round =>
    obtain ⟨t, x, ht, rfl, rfl, HX, hx, rfl⟩ := hrel
    by_cases ht0 : 0 < t
    · obtain ⟨k, rfl⟩ : ∃ k, t = k + 1 := ⟨t - 1, by omega⟩
      have hst := half_step a n k
      have hpl := part_le a n k
      rw [← HX.out] at hst
      by_cases hov : 2305843009213693951 < x
      · have HO : Hid (4611686018427387903 < a * n) := Lib.hid (by omega)
        clear hst hpl
        go_wp2
        go_ret2
        exact ⟨⟨_, _, rfl, .inr ⟨rfl, rfl, HO.out⟩⟩, rfl⟩
      · rcases Nat.mod_two_eq_zero_or_one (n / 2 ^ k) with hb | hb
        · rw [hb] at hst
          have HS := Lib.hid hst
          have hbit : (bits .and .i64 ((n : Int) / 2 ^ k) 1 == 1) = false := by rw [bit_one n k hn, hb]; rfl
          clear hst hpl hb
          go_wp2
          go_roundw
          case rel => exact ⟨k, 2 * x, by omega, rfl, by go_num, Lib.hid (by rw [HS.out]; omega), by omega, trivial⟩
          case measure => simp [intOf] <;> omega
        · rw [hb] at hst
          have hbit : (bits .and .i64 ((n : Int) / 2 ^ k) 1 == 1) = true := by rw [bit_one n k hn, hb]; rfl
          by_cases hov2 : 4611686018427387903 < 2 * x + a
          · have HO : Hid (4611686018427387903 < a * n) := Lib.hid (by omega)
            have hov3 : 4611686018427387903 - (a : Int) < 2 * x := by omega
            clear hst hpl hb
            go_wp2
            go_ret2
            exact ⟨⟨_, _, rfl, .inr ⟨rfl, rfl, HO.out⟩⟩, rfl⟩
          · have HS := Lib.hid hst
            have hov3 : 2 * (x : Int) ≤ 4611686018427387903 - a := by omega
            clear hst hpl hb
            go_wp2
            go_roundw
            case rel => exact ⟨k, 2 * x + a, by omega, rfl, by go_num, Lib.hid (by rw [HS.out]; omega), by omega, trivial⟩
            case measure => simp [intOf] <;> omega
    · obtain rfl : t = 0 := by omega
      have HV : Hid (x = a * n) := Lib.hid (by have := HX.out; simpa using this)
      go_wp2
      go_ret2
      exact ⟨⟨_, _, rfl, .inl ⟨rfl, by rw [HV.out]; go_num, by rw [← HV.out]; exact hx⟩⟩, rfl⟩
set_option maxHeartbeats 1000000 in
theorem rmul_ (a n : Int) (w : World) : Calls Try.prog 91 #[.int .i64 a, .int .i64 n] w fun e w' => e = .returned (rmulR a n) ∧ w = w' := by
  by_cases ho : isO a = true ∧ isO n = true
  · obtain ⟨h1, h2⟩ := isO_iff.1 ho.1
    obtain ⟨h3, h4⟩ := isO_iff.1 ho.2
    obtain ⟨x, rfl⟩ := Int.eq_ofNat_of_zero_le h1
    obtain ⟨y, rfl⟩ := Int.eq_ofNat_of_zero_le h3
    refine (rmul_nat x y w (by omega) (by omega)).mono ?_
    rintro e w1 ⟨⟨v, er, rfl, hv⟩, hw⟩
    refine ⟨?_, hw⟩
    unfold rmulR
    rw [if_pos ho]
    rcases hv with ⟨rfl, rfl, hv⟩ | ⟨rfl, rfl, hv⟩
    · rw [if_pos (show (x : Int) * y ≤ 4611686018427387903 by have := Int.ofNat_le.2 hv; rw [Int.natCast_mul] at this; exact this)]
    · rw [if_neg (show ¬ (x : Int) * y ≤ 4611686018427387903 from fun hc => by
        rw [← Int.natCast_mul] at hc
        have := Int.ofNat_le.1 hc
        omega)]
  · have HR : Hid (rmulR a n = .tuple #[.int .i64 0, .int .i64 2]) := Lib.hid (by unfold rmulR; rw [if_neg ho])
    have HI := Lib.hid ris_
    cases ha : isO a with
    | false =>
      have HA := Lib.hid ha
      clear ho ha
      go_enter Try.func91, Try.ntmps91
      go_wp2_with (go_at_call 52; refine (HI.out _ _).mono ?_; rintro r w1 ⟨rfl, rfl⟩; rw [HA.out])
      go_ret2
      rw [HR.out]
      exact ⟨rfl, rfl⟩
    | true =>
      have hn : isO n = false := by cases h : isO n with | false => rfl | true => exact absurd ⟨ha, h⟩ ho
      have HA := Lib.hid ha
      have HN := Lib.hid hn
      clear ho ha hn
      go_enter Try.func91, Try.ntmps91
      go_wp2_with (go_at_call 52; refine (HI.out _ _).mono ?_; rintro r w1 ⟨rfl, rfl⟩; first | rw [HA.out] | rw [HN.out])
      go_ret2
      rw [HR.out]
      exact ⟨rfl, rfl⟩

/-- A number so often, by the reference. -/
theorem often_ (a n : Int) (w : World) : Calls Try.prog 54 #[.int .i64 a, .int .i64 n] w fun e w' => e = .returned (.int .i64 (mulV a n)) ∧ w = w' := by
  have HM := Lib.hid rmul_
  by_cases ho : isO a = true ∧ isO n = true
  · by_cases hm : a * n ≤ 4611686018427387903
    · have HR : Hid (rmulR a n = .tuple #[.int .i64 (a * n), .int .i64 0]) := Lib.hid (by unfold rmulR; rw [if_pos ho, if_pos hm])
      have HV : Hid (mulV a n = a * n) := Lib.hid (by unfold mulV; rw [if_pos ⟨isO_iff.1 ho.1, isO_iff.1 ho.2, hm⟩])
      clear ho hm
      generalize a * n = p at *
      go_enter Try.func54, Try.ntmps54
      go_wp2_with (go_at_call 91; refine (HM.out _ _ _).mono ?_; rintro r w1 ⟨rfl, rfl⟩; rw [HR.out])
      go_ret
      rw [HV.out]
      exact ⟨rfl, rfl⟩
    · have HR : Hid (rmulR a n = .tuple #[.int .i64 0, .int .i64 10]) := Lib.hid (by unfold rmulR; rw [if_pos ho, if_neg hm])
      have HV : Hid (mulV a n = -1) := Lib.hid (by unfold mulV; rw [if_neg (fun h => hm h.2.2)])
      clear ho hm
      go_enter Try.func54, Try.ntmps54
      go_wp2_with (go_at_call 91; refine (HM.out _ _ _).mono ?_; rintro r w1 ⟨rfl, rfl⟩; rw [HR.out])
      go_ret
      rw [HV.out]
      exact ⟨rfl, rfl⟩
  · have HR : Hid (rmulR a n = .tuple #[.int .i64 0, .int .i64 2]) := Lib.hid (by unfold rmulR; rw [if_neg ho])
    have HV : Hid (mulV a n = -1) := Lib.hid (by unfold mulV; rw [if_neg (fun h => ho ⟨isO_iff.2 h.1, isO_iff.2 h.2.1⟩)])
    clear ho
    go_enter Try.func54, Try.ntmps54
    go_wp2_with (go_at_call 91; refine (HM.out _ _ _).mono ?_; rintro r w1 ⟨rfl, rfl⟩; rw [HR.out])
    go_ret
    rw [HV.out]
    exact ⟨rfl, rfl⟩
end Go.Proofs.Ytdapjfnpnmejnaa
