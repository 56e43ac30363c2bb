/- A number's text, by the reference: what the walks of its functions give; no condition but that the number is an int. -/
import Derived.Test.YtacodojaolnhnaaDigL
import Derived.Test.YtacodojaolnhnaaProg
namespace Go.Proofs.Ytacodojaolnhnaa
open Go.RowKit
set_option linter.unusedVariables false
set_option linter.unusedSimpArgs false
set_option maxRecDepth 100000

theorem tdiv_neg10 {n : Int} (h : n < 0) : Int.tdiv n 10 = -((n.natAbs / 10 : Nat) : Int) := by
  have e : n = -((n.natAbs : Nat) : Int) := by omega
  conv => lhs; rw [e, Int.neg_tdiv]
  rfl
theorem tmod_neg10 {n : Int} (h : n < 0) : Int.tmod n 10 = -((n.natAbs % 10 : Nat) : Int) := by
  have e : n = -((n.natAbs : Nat) : Int) := by omega
  conv => lhs; rw [e, Int.neg_tmod]
  rfl
theorem ret_num {k : IntKind} {a b : Int} (h : a = b) : Ending.returned (.int k a) = .returned (.int k b) := by rw [h]
theorem size_ (n : Int) (w : World) (h1 : -9223372036854775808 ≤ n) (h2 : n ≤ 9223372036854775807) : Calls Try.prog 63 #[.int .i64 n] w fun e w' => e = .returned (.int .u64 n.natAbs) ∧ w = w' := by
  go_enter Try.func63, Try.ntmps63
  by_cases h : n < 0
  · go_wp2
    go_ret
    exact ⟨ret_num (by omega), rfl⟩
  · go_wp2
    go_ret
    exact ⟨ret_num (by omega), rfl⟩

theorem one_nat (k : Nat) (w : World) (h : k < 10) : Calls Try.prog 64 #[.int .i64 k] w fun e w' => e = .returned (.string ⟨#[dg k]⟩) ∧ w = w' := by
  go_enter Try.func64, Try.ntmps64
  have HE : Hid ((⟨#[48, 49, 50, 51, 52, 53, 54, 55, 56, 57]⟩ : ByteArray).extract k (k + 1) = ⟨#[dg k]⟩) := Lib.hid (by
    have : ∀ k : Fin 10, (⟨#[48, 49, 50, 51, 52, 53, 54, 55, 56, 57]⟩ : ByteArray).extract k.1 (k.1 + 1) = ⟨#[dg k.1]⟩ := by decide +kernel
    exact this ⟨k, h⟩)
  go_wp2
  go_ret
  rw [← HE.out]
  exact ⟨rfl, rfl⟩
theorem one_ (k : Int) (w : World) (h : 0 ≤ k) (h2 : k < 10) : Calls Try.prog 64 #[.int .i64 k] w fun e w' => e = .returned (.string ⟨#[dg k.toNat]⟩) ∧ w = w' := by
  have := one_nat k.toNat w (by omega)
  rwa [show ((k.toNat : Nat) : Int) = k by omega] at this

set_option maxHeartbeats 1000000 in
theorem rtext_ : ∀ (m : Nat) (n : Int) (w : World), n.natAbs < m → -9223372036854775808 ≤ n → n ≤ 9223372036854775807 → Calls Try.prog 48 #[.int .i64 n] w fun e w' => e = .returned (.string ⟨(textL n).toArray⟩) ∧ w = w' := by
  intro m
  induction m with
  | zero => intro n w h; exact absurd h (Nat.not_lt_zero _)
  | succ m ih =>
    intro n w hm h1 h2
    have H1 := Lib.hid one_
    have IH := Lib.hid ih
    clear ih
    by_cases h : n < 0
    · have ht := textL_neg h
      by_cases hs : -10 < n
      · rw [natL_small (by omega)] at ht
        have HT := Lib.hid ht
        clear ht
        go_enter Try.func48, Try.ntmps48
        go_wp2_with (go_at_call 64; refine (H1.out _ _ (by omega) (by omega)).mono ?_; rintro e w1 ⟨rfl, rfl⟩)
        go_ret
        rw [HT.out, show n.natAbs = (-n).toNat by omega]
        exact ⟨rfl, rfl⟩
      · rw [natL_big (by omega)] at ht
        have hd : Int.tdiv n 10 = -((n.natAbs / 10 : Nat) : Int) := tdiv_neg10 h
        have hm10 : Int.tmod n 10 = -((n.natAbs % 10 : Nat) : Int) := tmod_neg10 h
        have hb1 : -9 ≤ Int.tmod n 10 := by omega
        have hb2 : Int.tmod n 10 ≤ 0 := by omega
        have hl := textL_neg (n := -((n.natAbs / 10 : Nat) : Int)) (by omega)
        rw [show (-((n.natAbs / 10 : Nat) : Int)).natAbs = n.natAbs / 10 by omega] at hl
        have hlen := natL_len 19 (n.natAbs / 10) (by omega) (by omega)
        obtain ⟨T, hT⟩ : ∃ T, 45 :: natL (n.natAbs / 10) = T := ⟨_, rfl⟩
        have hTl : T.length ≤ 20 := by rw [← hT]; simp; omega
        rw [hT] at hl
        rw [← List.cons_append, hT] at ht
        have HD := Lib.hid hd
        have HM := Lib.hid hm10
        have HT := Lib.hid ht
        have HTd := Lib.hid hl
        clear ht hd hm10 hl hT hlen
        go_enter Try.func48, Try.ntmps48
        go_wp2_with (first | (go_at_call 64; refine (H1.out _ _ (by omega) (by omega)).mono ?_; rintro e w1 ⟨rfl, rfl⟩) | (go_at_call 48; rw [HD.out]; refine (IH.out _ _ (by omega) (by omega) (by omega)).mono ?_; rintro e w1 ⟨rfl, rfl⟩; rw [HTd.out]))
        go_ret
        rw [HT.out, show n.natAbs % 10 = (-n.tmod 10).toNat by have := HM.out; omega]
        exact ⟨congrArg Ending.returned (congrArg Value.string (bytes_eq (by simp))), rfl⟩
    · have ht := textL_pos h
      by_cases hs : n < 10
      · rw [natL_small (by omega)] at ht
        have HT := Lib.hid ht
        clear ht
        go_enter Try.func48, Try.ntmps48
        go_wp2_with (go_at_call 64; refine (H1.out _ _ (by omega) (by omega)).mono ?_; rintro e w1 ⟨rfl, rfl⟩)
        go_ret
        rw [HT.out, show n.natAbs = n.toNat by omega]
        exact ⟨rfl, rfl⟩
      · rw [natL_big (by omega)] at ht
        have hd : n / 10 = ((n.natAbs / 10 : Nat) : Int) := by omega
        have hl := textL_pos (n := ((n.natAbs / 10 : Nat) : Int)) (by omega)
        rw [show (((n.natAbs / 10 : Nat) : Int)).natAbs = n.natAbs / 10 by omega] at hl
        have hlen := natL_len 19 (n.natAbs / 10) (by omega) (by omega)
        obtain ⟨T, hT⟩ : ∃ T, natL (n.natAbs / 10) = T := ⟨_, rfl⟩
        have hTl : T.length ≤ 20 := by rw [← hT]; omega
        rw [hT] at hl ht
        have HD := Lib.hid hd
        have HT := Lib.hid ht
        have HTd := Lib.hid hl
        clear ht hd hl hT hlen
        go_enter Try.func48, Try.ntmps48
        go_wp2_with (first | (go_at_call 64; refine (H1.out _ _ (by omega) (by omega)).mono ?_; rintro e w1 ⟨rfl, rfl⟩) | (go_at_call 48; rw [HD.out]; refine (IH.out _ _ (by omega) (by omega) (by omega)).mono ?_; rintro e w1 ⟨rfl, rfl⟩; rw [HTd.out]))
        go_ret
        rw [HT.out, show n.natAbs % 10 = (n % 10).toNat by omega]
        exact ⟨congrArg Ending.returned (congrArg Value.string (bytes_eq (by simp))), rfl⟩

theorem rtext (n : Int) (w : World) (h1 : -9223372036854775808 ≤ n) (h2 : n ≤ 9223372036854775807) : Calls Try.prog 48 #[.int .i64 n] w fun e w' => e = .returned (.string ⟨(textL n).toArray⟩) ∧ w = w' := rtext_ (n.natAbs + 1) n w (Nat.lt_succ_self _) h1 h2
end Go.Proofs.Ytacodojaolnhnaa
