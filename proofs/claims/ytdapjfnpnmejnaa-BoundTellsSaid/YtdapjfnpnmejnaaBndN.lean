/- The bounds of numbers, by the reference; no condition but that the numbers are ints. -/
import Derived.Test.YtdapjfnpnmejnaaBndM
import Derived.StillTailTactics
namespace Go.Proofs.Ytdapjfnpnmejnaa
open Go.RowKit
set_option linter.unusedVariables false
set_option linter.unusedSimpArgs false
set_option maxRecDepth 100000

theorem totR_none {zs : List Int} (h : sumV zs 0 = none) : totR zs = .tuple #[.int .i64 0, .int .i64 10] := by unfold totR; rw [h]
theorem totR_some {zs : List Int} {v : Int} (h : sumV zs 0 = some v) : totR zs = .tuple #[.int .i64 v, .int .i64 0] := by unfold totR; rw [h]
set_option maxHeartbeats 1000000 in
theorem total_ (A : Option Addr) (n c B : Nat) (zs : List Int) (w : World) (h : Sees w B 1 A n (zs.map (Value.int .i64))) (hn : n ≤ 1000) :
    Calls Try.prog 53 #[.slice A n c] w fun e w' => e = .returned (totR zs) ∧ w = w' := by
  have hll : zs.length = n := by have := h.1; simpa using this
  have HS := Lib.hid h
  have HN := Lib.hid hll
  have HI := Lib.hid ris_
  clear h hll
  go_enter Try.func53, Try.ntmps53
  go_wp2
  go_loopw [4, 5] (fun v4 v5 wr => ∃ (k : Nat) (acc : Int), k ≤ n ∧ v5 = .int .i64 k ∧ v4 = .int .i64 acc ∧ 0 ≤ acc ∧ acc ≤ 4611686018427387903 ∧ sumV (zs.drop k) acc = sumV zs 0 ∧ wr = w) (fun _ v5 _ => n - (intOf v5).toNat)
  case atStart => exact ⟨0, 0, Nat.zero_le _, rfl, rfl, Int.le_refl _, by decide, rfl, rfl⟩
  case round =>
    obtain ⟨k, acc, hk, rfl, rfl, ha1, ha2, hd, rfl⟩ := hrel
    by_cases hlt : k < n
    · obtain ⟨ad, z, rfl, hz, hdr, hc⟩ := nums_at HS.out hlt
      rw [hdr] at hd
      by_cases ho : isO z = true
      · obtain ⟨hz1, hz2⟩ := isO_iff.1 ho
        by_cases hg : acc > 4611686018427387903 - z
        · have HV := Lib.hid (totR_none (hd.symm.trans (sumV_stop ha1 (.inr hg))))
          have HO := Lib.hid ho
          have hg' : 4611686018427387903 - acc < z := by omega
          clear hd hdr hz ho hg
          go_wp2_with (go_at_call 52; refine (HI.out _ _).mono ?_; rintro e w1 ⟨rfl, rfl⟩; rw [HO.out])
          go_ret2
          rw [HV.out]
          exact ⟨rfl, rfl⟩
        · have HV := Lib.hid ((sumV_go ho hg).symm.trans hd)
          have HO := Lib.hid ho
          have hg' : z ≤ 4611686018427387903 - acc := by omega
          clear hd hdr hz ho
          go_wp2_with (go_at_call 52; refine (HI.out _ _).mono ?_; rintro e w1 ⟨rfl, rfl⟩; rw [HO.out])
          go_roundw
          case rel => exact ⟨k + 1, acc + z, by omega, by go_num, rfl, by omega, by omega, HV.out, trivial⟩
          case measure => simp [intOf] <;> omega
      · have ho' : isO z = false := by simpa using ho
        have HV := Lib.hid (totR_none (hd.symm.trans (sumV_stop ha1 (.inl ho'))))
        have HO := Lib.hid ho'
        clear hd hdr hz ho ho'
        go_wp2_with (go_at_call 52; refine (HI.out _ _).mono ?_; rintro e w1 ⟨rfl, rfl⟩; rw [HO.out])
        go_ret2
        rw [HV.out]
        exact ⟨rfl, rfl⟩
    · obtain rfl : k = n := by omega
      rw [List.drop_eq_nil_of_le (by rw [HN.out]; exact Nat.le_refl _), sumV] at hd
      have HD := Lib.hid (totR_some hd.symm)
      clear hd
      go_wp2
      go_ret2
      rw [HD.out]
      exact ⟨rfl, rfl⟩

theorem still_often (a n : Int) (w : World) : Calls Try.prog 54 #[.int .i64 a, .int .i64 n] w fun e w' => e = .returned (.int .i64 (mulV a n)) ∧ w' = w :=
  (often_ a n w).mono fun _ _ h => ⟨h.1, h.2.symm⟩

set_option maxHeartbeats 1000000 in
theorem rscan_ (most least s : Int) (w : World) : Calls Try.prog 24 #[.int .i64 most, .int .i64 least, .int .i64 s] w fun e w' => e = .returned (scanR most least s) ∧ Pure' w w' := by
  have HI := Lib.hid ris_
  have HT := Lib.hid total_
  cases ho : isO s with
  | false =>
    have HO := Lib.hid ho
    have HR : Hid (scanR most least s = .tuple #[.int .i64 0, .int .i64 2]) := Lib.hid (guardR_no (by simp [ho]))
    clear ho
    go_enter Try.func24, Try.ntmps24
    go_wp2_with (go_at_call 52; refine (HI.out _ _).mono ?_; rintro e w1 ⟨rfl, rfl⟩; rw [HO.out])
    go_ret2
    rw [HR.out]
    exact ⟨rfl, Keeps.refl _ _⟩
  | true =>
    have HO := Lib.hid ho
    have hR : scanR most least s = totR [most, 2, least, s] := by unfold scanR guardR; rw [if_pos (by simp [ho])]
    obtain ⟨v, er, ht⟩ := totR_form [most, 2, least, s]
    have HE := Lib.hid ht
    have HR := Lib.hid (hR.trans ht)
    clear ho hR ht
    go_enter Try.func24, Try.ntmps24
    go_wp2_with (first
      | (go_at_call 52; refine (HI.out _ _).mono ?_; rintro e w1 ⟨rfl, rfl⟩; rw [HO.out])
      | (go_at_call 53; refine (HT.out _ _ _ _ [most, 2, least, s] _ (sees_list _ _ [.int .i64 most, .int .i64 2, .int .i64 least, .int .i64 s] 4 rfl) (by decide)).mono ?_; rintro e w1 ⟨rfl, rfl⟩; rw [HE.out]))
    go_ret2
    rw [HR.out]
    exact ⟨rfl, (Keeps.refl _ w).alloc _⟩

set_option maxHeartbeats 1000000 in
theorem rjudge_ (p most s c : Int) (w : World) (hp : 0 ≤ p ∧ p ≤ 65535) : Calls Try.prog 21 #[.int .i64 p, .int .i64 most, .int .i64 s, .int .i64 c] w fun e w' => e = .returned (judgeR p most s c) ∧ Pure' w w' := by
  have HI := Lib.hid ris_
  have HT := Lib.hid total_
  obtain ⟨hp1, hp2⟩ := hp
  by_cases ho : isO s = true ∧ isO c = true
  · have HO := Lib.hid ho.1
    have HO2 := Lib.hid ho.2
    have hR : judgeR p most s c = totR [most, 2, s, c, 19, 9 * p] := by
      unfold judgeR guardR
      rw [if_pos (by simp [ho.1, ho.2])]
      unfold mulV
      rw [if_pos (by omega)]
    obtain ⟨v, er, ht⟩ := totR_form [most, 2, s, c, 19, 9 * p]
    have HE := Lib.hid ht
    have HR := Lib.hid (hR.trans ht)
    clear ho hR ht
    go_enter Try.func21, Try.ntmps21
    go_wp2_with (first
      | (go_at_call 52; refine (HI.out _ _).mono ?_; rintro e w1 ⟨rfl, rfl⟩; first | rw [HO.out] | rw [HO2.out])
      | (go_at_call 53; refine (HT.out _ _ _ _ [most, 2, s, c, 19, 9 * p] _ (sees_list _ _ [.int .i64 most, .int .i64 2, .int .i64 s, .int .i64 c, .int .i64 19, .int .i64 (9 * p)] 6 rfl) (by decide)).mono ?_; rintro e w1 ⟨rfl, rfl⟩; rw [HE.out]))
    go_ret2
    rw [HR.out]
    exact ⟨rfl, (Keeps.refl _ w).alloc _⟩
  · have HR : Hid (judgeR p most s c = .tuple #[.int .i64 0, .int .i64 2]) := Lib.hid (guardR_no (by
      cases h1 : isO s with
      | false => simp [h1]
      | true =>
        cases h2 : isO c with
        | false => simp [h2]
        | true => exact absurd ⟨h1, h2⟩ ho))
    cases h1 : isO s with
    | false =>
      have HO := Lib.hid h1
      clear h1 ho
      go_enter Try.func21, Try.ntmps21
      go_wp2_with (go_at_call 52; refine (HI.out _ _).mono ?_; rintro e w1 ⟨rfl, rfl⟩; rw [HO.out])
      go_ret2
      rw [HR.out]
      exact ⟨rfl, Keeps.refl _ _⟩
    | true =>
      have h2 : isO c = false := by cases h2 : isO c with | false => rfl | true => exact absurd ⟨h1, h2⟩ ho
      have HO := Lib.hid h1
      have HO2 := Lib.hid h2
      clear h1 h2 ho
      go_enter Try.func21, Try.ntmps21
      go_wp2_with (go_at_call 52; refine (HI.out _ _).mono ?_; rintro e w1 ⟨rfl, rfl⟩; first | rw [HO.out] | rw [HO2.out])
      go_ret2
      rw [HR.out]
      exact ⟨rfl, Keeps.refl _ _⟩
end Go.Proofs.Ytdapjfnpnmejnaa
