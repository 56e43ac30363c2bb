/- The bounds of numbers, by the program; no condition but that the numbers are ints. -/
import Derived.Test.YtdapjfnpnmejnaaBndB
namespace Go.Proofs.Ytdapjfnpnmejnaa
open Go.RowKit
set_option linter.unusedVariables false
set_option linter.unusedSimpArgs false
set_option maxRecDepth 100000

theorem totR_form (zs : List Int) : ∃ v e : Int, totR zs = .tuple #[.int .i64 v, .int .i64 e] := by
  unfold totR
  cases sumV zs 0 with
  | some v => exact ⟨_, _, rfl⟩
  | none => exact ⟨_, _, rfl⟩
def guardR (ys zs : List Int) : Value := if ys.all isO = true then totR zs else .tuple #[.int .i64 0, .int .i64 2]
theorem guardR_form (ys zs : List Int) : ∃ v e : Int, guardR ys zs = .tuple #[.int .i64 v, .int .i64 e] := by
  unfold guardR
  split
  · exact totR_form zs
  · exact ⟨_, _, rfl⟩
theorem guardR_no {ys zs : List Int} (h : ys.all isO = false) : guardR ys zs = .tuple #[.int .i64 0, .int .i64 2] := by unfold guardR; rw [h]; rfl
def certR (f e h v : Int) : Value := if v < 1 then .tuple #[.int .i64 0, .int .i64 2] else guardR [f, e, h, v] [f, 15, mulV 19 e, mulV 3 h, mulV 19 (e / v + 1), 19]
def foreignR (f e v : Int) : Value := if v < 1 then .tuple #[.int .i64 0, .int .i64 2] else guardR [f, e, v] [f, 15, mulV 57 (e / v + 1), 57]
def judgeR (n most stream cert : Int) : Value := guardR [stream, cert] [most, 2, stream, cert, 19, mulV 9 n]
def scanR (most least stream : Int) : Value := guardR [stream] [most, 2, least, stream]

theorem over_no {v er : Int} {zs : List Int} (h : zs.all isO = false) : overR v er zs = .tuple #[.int .i64 0, .int .i64 2] := by unfold overR; rw [h]; rfl

set_option maxHeartbeats 1000000 in
theorem cert_ (f e h v : Int) (w : World) (hf : -9223372036854775808 ≤ f ∧ f ≤ 9223372036854775807) (he : -9223372036854775808 ≤ e ∧ e ≤ 9223372036854775807) (hh : -9223372036854775808 ≤ h ∧ h ≤ 9223372036854775807) (hv : -9223372036854775808 ≤ v ∧ v ≤ 9223372036854775807) :
    Calls Try.prog 16 #[.int .i64 f, .int .i64 e, .int .i64 h, .int .i64 v] w fun r w' => r = .returned (certR f e h v) ∧ Pure' w w' := by
  obtain ⟨hf1, hf2⟩ := hf
  obtain ⟨he1, he2⟩ := he
  obtain ⟨hh1, hh2⟩ := hh
  obtain ⟨hv1, hv2⟩ := hv
  have HI := Lib.hid is_
  have HT := Lib.hid times_
  have HS := Lib.hid sum_
  have HO := Lib.hid over_
  by_cases h1 : v < 1
  · have HR : Hid (certR f e h v = .tuple #[.int .i64 0, .int .i64 2]) := Lib.hid (by unfold certR; rw [if_pos h1])
    go_enter Try.func16, Try.ntmps16
    go_wp2
    go_ret2
    rw [HR.out]
    exact ⟨rfl, Keeps.refl _ _⟩
  · have hR : certR f e h v = guardR [f, e, h, v] [f, 15, mulV 19 e, mulV 3 h, mulV 19 (e / v + 1), 19] := by unfold certR; rw [if_neg h1]
    cases ho : isO e with
    | true =>
      obtain ⟨tv, te, ht⟩ := guardR_form [f, e, h, v] [f, 15, mulV 19 e, mulV 3 h, mulV 19 (e / v + 1), 19]
      rw [ht] at hR
      have HR := Lib.hid hR
      clear hR
      obtain ⟨ho1, ho2⟩ := isO_iff.1 ho
      have hq1 : 0 ≤ e / v := Int.ediv_nonneg ho1 (by omega)
      have hq2 : e / v ≤ e := Int.ediv_le_self _ ho1
      have hG : ∀ (er s : Int), ((er = 0 ∧ sumV [f, 15, mulV 19 e, mulV 3 h, mulV 19 (e / v + 1), 19] 0 = some s) ∨ ((er != 0) = true ∧ s = 0 ∧ sumV [f, 15, mulV 19 e, mulV 3 h, mulV 19 (e / v + 1), 19] 0 = none)) → overR s er [f, e, h, v] = .tuple #[.int .i64 tv, .int .i64 te] := fun _ _ hh => by rw [over_sum hh]; exact ht
      generalize hqe : e / v = q at *
      have HG := Lib.hid hG
      have HOE := Lib.hid ho
      clear hG ht ho
      go_enter Try.func16, Try.ntmps16
      go_wp2_with (first
        | (go_at_call 48; refine (HI.out _ _).mono ?_; rintro r w1 ⟨rfl, rfl⟩; rw [HOE.out])
        | (go_at_call 50; refine (HT.out _ _ _ (by omega) (by omega)).mono ?_; rintro r w1 ⟨rfl, hk1⟩; first | (have HPL := Lib.hid (HP1.out.then_ hk1); clear hk1) | (have HP1 := Lib.hid (HP0.out.then_ hk1); clear hk1) | (have HP0 := Lib.hid hk1; clear hk1))
        | (go_at_call 49; refine (HS.out _ _ _ _ [f, 15, mulV 19 e, mulV 3 h, mulV 19 (q + 1), 19] _ (sees_list _ _ [.int .i64 f, .int .i64 15, .int .i64 (mulV 19 e), .int .i64 (mulV 3 h), .int .i64 (mulV 19 (q + 1)), .int .i64 19] 6 rfl) (Nat.le_refl _) (by decide)).mono ?_; rintro r w2 ⟨er, s, rfl, hs, hk2⟩; have HV := Lib.hid (HG.out _ _ hs); have HP3 := Lib.hid ((HPL.out.alloc _).then_ hk2); clear hs hk2)
        | (go_at_call 51; refine (HO.out _ _ _ _ _ _ [f, e, h, v] _ (sees_list _ _ [.int .i64 f, .int .i64 e, .int .i64 h, .int .i64 v] 4 rfl) (by decide)).mono ?_; rintro r w3 ⟨rfl, rfl⟩; rw [HV.out]))
      go_ret2
      rw [HR.out]
      exact ⟨rfl, HP3.out.alloc _⟩

    | false =>
      have hall : [f, e, h, v].all isO = false := by
        simp only [List.all_cons, List.all_nil, ho, Bool.false_and, Bool.and_false]
      rw [guardR_no hall] at hR
      have HR := Lib.hid hR
      have HN := Lib.hid hall
      have HOE := Lib.hid ho
      clear hR hall ho
      go_enter Try.func16, Try.ntmps16
      go_wp2_with (first
        | (go_at_call 48; refine (HI.out _ _).mono ?_; rintro r w1 ⟨rfl, rfl⟩; rw [HOE.out])
        | (go_at_call 50; refine (HT.out _ _ _ (by omega) (by omega)).mono ?_; rintro r w1 ⟨rfl, hk1⟩; first | (have HPL := Lib.hid (HP1.out.then_ hk1); clear hk1) | (have HP1 := Lib.hid (HP0.out.then_ hk1); clear hk1) | (have HP0 := Lib.hid hk1; clear hk1))
        | (go_at_call 49; refine (HS.out _ _ _ _ [f, 15, mulV 19 e, mulV 3 h, mulV 19 0, 19] _ (sees_list _ _ [.int .i64 f, .int .i64 15, .int .i64 (mulV 19 e), .int .i64 (mulV 3 h), .int .i64 (mulV 19 0), .int .i64 19] 6 rfl) (Nat.le_refl _) (by decide)).mono ?_; rintro r w2 ⟨er, s, rfl, hs, hk2⟩; have HV : Hid (overR s er [f, e, h, v] = .tuple #[.int .i64 0, .int .i64 2]) := Lib.hid (over_no HN.out); have HP3 := Lib.hid ((HPL.out.alloc _).then_ hk2); clear hs hk2)
        | (go_at_call 51; refine (HO.out _ _ _ _ _ _ [f, e, h, v] _ (sees_list _ _ [.int .i64 f, .int .i64 e, .int .i64 h, .int .i64 v] 4 rfl) (by decide)).mono ?_; rintro r w3 ⟨rfl, rfl⟩; rw [HV.out]))
      go_ret2
      rw [HR.out]
      exact ⟨rfl, HP3.out.alloc _⟩


set_option maxHeartbeats 1000000 in
theorem foreign_ (f e v : Int) (w : World) (hf : -9223372036854775808 ≤ f ∧ f ≤ 9223372036854775807) (he : -9223372036854775808 ≤ e ∧ e ≤ 9223372036854775807) (hv : -9223372036854775808 ≤ v ∧ v ≤ 9223372036854775807) :
    Calls Try.prog 18 #[.int .i64 f, .int .i64 e, .int .i64 v] w fun r w' => r = .returned (foreignR f e v) ∧ Pure' w w' := by
  obtain ⟨hf1, hf2⟩ := hf
  obtain ⟨he1, he2⟩ := he
  obtain ⟨hv1, hv2⟩ := hv
  have HI := Lib.hid is_
  have HT := Lib.hid times_
  have HS := Lib.hid sum_
  have HO := Lib.hid over_
  by_cases h1 : v < 1
  · have HR : Hid (foreignR f e v = .tuple #[.int .i64 0, .int .i64 2]) := Lib.hid (by unfold foreignR; rw [if_pos h1])
    go_enter Try.func18, Try.ntmps18
    go_wp2
    go_ret2
    rw [HR.out]
    exact ⟨rfl, Keeps.refl _ _⟩
  · have hR : foreignR f e v = guardR [f, e, v] [f, 15, mulV 57 (e / v + 1), 57] := by unfold foreignR; rw [if_neg h1]
    cases ho : isO e with
    | true =>
      obtain ⟨tv, te, ht⟩ := guardR_form [f, e, v] [f, 15, mulV 57 (e / v + 1), 57]
      rw [ht] at hR
      have HR := Lib.hid hR
      clear hR
      obtain ⟨ho1, ho2⟩ := isO_iff.1 ho
      have hq1 : 0 ≤ e / v := Int.ediv_nonneg ho1 (by omega)
      have hq2 : e / v ≤ e := Int.ediv_le_self _ ho1
      have hG : ∀ (er s : Int), ((er = 0 ∧ sumV [f, 15, mulV 57 (e / v + 1), 57] 0 = some s) ∨ ((er != 0) = true ∧ s = 0 ∧ sumV [f, 15, mulV 57 (e / v + 1), 57] 0 = none)) → overR s er [f, e, v] = .tuple #[.int .i64 tv, .int .i64 te] := fun _ _ hh => by rw [over_sum hh]; exact ht
      generalize hqe : e / v = q at *
      have HG := Lib.hid hG
      have HOE := Lib.hid ho
      clear hG ht ho
      go_enter Try.func18, Try.ntmps18
      go_wp2_with (first
        | (go_at_call 48; refine (HI.out _ _).mono ?_; rintro r w1 ⟨rfl, rfl⟩; rw [HOE.out])
        | (go_at_call 50; refine (HT.out _ _ _ (by omega) (by omega)).mono ?_; rintro r w1 ⟨rfl, hk1⟩; first | (have HPL := Lib.hid hk1; clear hk1))
        | (go_at_call 49; refine (HS.out _ _ _ _ [f, 15, mulV 57 (q + 1), 57] _ (sees_list _ _ [.int .i64 f, .int .i64 15, .int .i64 (mulV 57 (q + 1)), .int .i64 57] 4 rfl) (Nat.le_refl _) (by decide)).mono ?_; rintro r w2 ⟨er, s, rfl, hs, hk2⟩; have HV := Lib.hid (HG.out _ _ hs); have HP3 := Lib.hid ((HPL.out.alloc _).then_ hk2); clear hs hk2)
        | (go_at_call 51; refine (HO.out _ _ _ _ _ _ [f, e, v] _ (sees_list _ _ [.int .i64 f, .int .i64 e, .int .i64 v] 3 rfl) (by decide)).mono ?_; rintro r w3 ⟨rfl, rfl⟩; rw [HV.out]))
      go_ret2
      rw [HR.out]
      exact ⟨rfl, HP3.out.alloc _⟩

    | false =>
      have hall : [f, e, v].all isO = false := by
        simp only [List.all_cons, List.all_nil, ho, Bool.false_and, Bool.and_false]
      rw [guardR_no hall] at hR
      have HR := Lib.hid hR
      have HN := Lib.hid hall
      have HOE := Lib.hid ho
      clear hR hall ho
      go_enter Try.func18, Try.ntmps18
      go_wp2_with (first
        | (go_at_call 48; refine (HI.out _ _).mono ?_; rintro r w1 ⟨rfl, rfl⟩; rw [HOE.out])
        | (go_at_call 50; refine (HT.out _ _ _ (by omega) (by omega)).mono ?_; rintro r w1 ⟨rfl, hk1⟩; first | (have HPL := Lib.hid hk1; clear hk1))
        | (go_at_call 49; refine (HS.out _ _ _ _ [f, 15, mulV 57 0, 57] _ (sees_list _ _ [.int .i64 f, .int .i64 15, .int .i64 (mulV 57 0), .int .i64 57] 4 rfl) (Nat.le_refl _) (by decide)).mono ?_; rintro r w2 ⟨er, s, rfl, hs, hk2⟩; have HV : Hid (overR s er [f, e, v] = .tuple #[.int .i64 0, .int .i64 2]) := Lib.hid (over_no HN.out); have HP3 := Lib.hid ((HPL.out.alloc _).then_ hk2); clear hs hk2)
        | (go_at_call 51; refine (HO.out _ _ _ _ _ _ [f, e, v] _ (sees_list _ _ [.int .i64 f, .int .i64 e, .int .i64 v] 3 rfl) (by decide)).mono ?_; rintro r w3 ⟨rfl, rfl⟩; rw [HV.out]))
      go_ret2
      rw [HR.out]
      exact ⟨rfl, HP3.out.alloc _⟩

end Go.Proofs.Ytdapjfnpnmejnaa
