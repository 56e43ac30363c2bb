/- The bounds of certificates, by the reference; no condition but that the numbers are ints. -/
import Derived.Test.YtdapjfnpnmejnaaBndN
namespace Go.Proofs.Ytdapjfnpnmejnaa
open Go.RowKit
set_option linter.unusedVariables false
set_option linter.unusedSimpArgs false
set_option maxRecDepth 100000

set_option maxHeartbeats 2000000 in
theorem rforeign_ (f e v : Int) (w : World) (hf : -9223372036854775808 ≤ f ∧ f ≤ 9223372036854775807) (he : -9223372036854775808 ≤ e ∧ e ≤ 9223372036854775807) (hv : -9223372036854775808 ≤ v ∧ v ≤ 9223372036854775807) : Calls Try.prog 19 #[.int .i64 f, .int .i64 e, .int .i64 v] w fun r w' => r = .returned (foreignR f e v) ∧ Pure' w w' := by
  obtain ⟨hf1, hf2⟩ := hf
  obtain ⟨he1, he2⟩ := he
  obtain ⟨hv1, hv2⟩ := hv
  have HI := Lib.hid ris_
  have HT := Lib.hid total_
  by_cases h1 : v < 1
  · have HR : Hid (foreignR f e v = .tuple #[.int .i64 0, .int .i64 2]) := Lib.hid (by unfold foreignR; rw [if_pos h1])
    go_enter Try.func19, Try.ntmps19
    go_wp2
    go_ret2
    rw [HR.out]
    exact ⟨rfl, Keeps.refl _ _⟩
  have hR : foreignR f e v = guardR [f, e, v] [f, 15, mulV 57 (e / v + 1), 57] := by unfold foreignR; rw [if_neg h1]
  cases hov : isO v with
  | false =>
    have HR := Lib.hid (hR.trans (guardR_no (zs := [f, 15, mulV 57 (e / v + 1), 57]) (by simp [hov])))
    have HOv := Lib.hid hov
    clear hR hov
    go_enter Try.func19, Try.ntmps19
    go_wp2_with (go_at_call 52; refine (HI.out _ _).mono ?_; rintro e w1 ⟨rfl, rfl⟩; first | rw [HOv.out])
    go_ret2
    rw [HR.out]
    exact ⟨rfl, Keeps.refl _ _⟩
  | true =>
  have HOv := Lib.hid hov
  cases hof : isO f with
  | false =>
    have HR := Lib.hid (hR.trans (guardR_no (zs := [f, 15, mulV 57 (e / v + 1), 57]) (by simp [hof])))
    have HOf := Lib.hid hof
    clear hR hof
    go_enter Try.func19, Try.ntmps19
    go_wp2_with (go_at_call 52; refine (HI.out _ _).mono ?_; rintro e w1 ⟨rfl, rfl⟩; first | rw [HOv.out] | rw [HOf.out])
    go_ret2
    rw [HR.out]
    exact ⟨rfl, Keeps.refl _ _⟩
  | true =>
  have HOf := Lib.hid hof
  cases hoe : isO e with
  | false =>
    have HR := Lib.hid (hR.trans (guardR_no (zs := [f, 15, mulV 57 (e / v + 1), 57]) (by simp [hoe])))
    have HOe := Lib.hid hoe
    clear hR hoe
    go_enter Try.func19, Try.ntmps19
    go_wp2_with (go_at_call 52; refine (HI.out _ _).mono ?_; rintro e w1 ⟨rfl, rfl⟩; first | rw [HOv.out] | rw [HOf.out] | rw [HOe.out])
    go_ret2
    rw [HR.out]
    exact ⟨rfl, Keeps.refl _ _⟩
  | true =>
  have HOe := Lib.hid hoe
  have hG : guardR [f, e, v] [f, 15, mulV 57 (e / v + 1), 57] = totR [f, 15, mulV 57 (e / v + 1), 57] := by unfold guardR; rw [if_pos (by simp [hov, hof, hoe])]
  obtain ⟨tv, te, ht⟩ := totR_form [f, 15, mulV 57 (e / v + 1), 57]
  have HR := Lib.hid ((hR.trans hG).trans ht)
  obtain ⟨_, he4⟩ := isO_iff.1 hoe
  have he3 := (isO_iff.1 hoe).1
  have hq1 : 0 ≤ e / v := Int.ediv_nonneg he3 (by omega)
  have hq2 : e / v ≤ e := Int.ediv_le_self _ he3
  have hv0 : v ≠ 0 := by omega
  clear hR hG hov hof hoe
  generalize hqe : e / v = q at *
  have HE := Lib.hid ht
  have HM := Lib.hid often_
  clear ht
  go_enter Try.func19, Try.ntmps19
  go_wp2_with (first
    | (go_at_call 52; refine (HI.out _ _).mono ?_; rintro e w1 ⟨rfl, rfl⟩; first | rw [HOv.out] | rw [HOf.out] | rw [HOe.out])
    | (go_at_call 54; refine (HM.out _ _ _).mono ?_; rintro e w1 ⟨rfl, rfl⟩)
    | (go_at_call 53; refine (HT.out _ _ _ _ [f, 15, mulV 57 (q + 1), 57] _ (sees_list _ _ [.int .i64 f, .int .i64 15, .int .i64 (mulV 57 (q + 1)), .int .i64 57] 4 rfl) (by decide)).mono ?_; rintro e w1 ⟨rfl, rfl⟩; rw [HE.out]))
  go_ret2
  rw [HR.out]
  exact ⟨rfl, (Keeps.refl _ w).alloc _⟩

set_option maxHeartbeats 2000000 in
theorem rcert_ (f e h v : Int) (w : World) (hf : -9223372036854775808 ≤ f ∧ f ≤ 9223372036854775807) (he : -9223372036854775808 ≤ e ∧ e ≤ 9223372036854775807) (hh : -9223372036854775808 ≤ h ∧ h ≤ 9223372036854775807) (hv : -9223372036854775808 ≤ v ∧ v ≤ 9223372036854775807) : Calls Try.prog 17 #[.int .i64 f, .int .i64 e, .int .i64 h, .int .i64 v] w fun r w' => r = .returned (certR f e h v) ∧ Pure' w w' := by
  obtain ⟨hf1, hf2⟩ := hf
  obtain ⟨he1, he2⟩ := he
  obtain ⟨hh1, hh2⟩ := hh
  obtain ⟨hv1, hv2⟩ := hv
  have HI := Lib.hid ris_
  have HT := Lib.hid total_
  by_cases h1 : v < 1
  · have HR : Hid (certR f e h v = .tuple #[.int .i64 0, .int .i64 2]) := Lib.hid (by unfold certR; rw [if_pos h1])
    go_enter Try.func17, Try.ntmps17
    go_wp2
    go_ret2
    rw [HR.out]
    exact ⟨rfl, Keeps.refl _ _⟩
  have hR : certR f e h v = guardR [f, e, h, v] [f, 15, mulV 19 e, mulV 3 h, mulV 19 (e / v + 1), 19] := by unfold certR; rw [if_neg h1]
  cases hov : isO v with
  | false =>
    have HR := Lib.hid (hR.trans (guardR_no (zs := [f, 15, mulV 19 e, mulV 3 h, mulV 19 (e / v + 1), 19]) (by simp [hov])))
    have HOv := Lib.hid hov
    clear hR hov
    go_enter Try.func17, Try.ntmps17
    go_wp2_with (go_at_call 52; refine (HI.out _ _).mono ?_; rintro e w1 ⟨rfl, rfl⟩; first | rw [HOv.out])
    go_ret2
    rw [HR.out]
    exact ⟨rfl, Keeps.refl _ _⟩
  | true =>
  have HOv := Lib.hid hov
  cases hof : isO f with
  | false =>
    have HR := Lib.hid (hR.trans (guardR_no (zs := [f, 15, mulV 19 e, mulV 3 h, mulV 19 (e / v + 1), 19]) (by simp [hof])))
    have HOf := Lib.hid hof
    clear hR hof
    go_enter Try.func17, Try.ntmps17
    go_wp2_with (go_at_call 52; refine (HI.out _ _).mono ?_; rintro e w1 ⟨rfl, rfl⟩; first | rw [HOv.out] | rw [HOf.out])
    go_ret2
    rw [HR.out]
    exact ⟨rfl, Keeps.refl _ _⟩
  | true =>
  have HOf := Lib.hid hof
  cases hoe : isO e with
  | false =>
    have HR := Lib.hid (hR.trans (guardR_no (zs := [f, 15, mulV 19 e, mulV 3 h, mulV 19 (e / v + 1), 19]) (by simp [hoe])))
    have HOe := Lib.hid hoe
    clear hR hoe
    go_enter Try.func17, Try.ntmps17
    go_wp2_with (go_at_call 52; refine (HI.out _ _).mono ?_; rintro e w1 ⟨rfl, rfl⟩; first | rw [HOv.out] | rw [HOf.out] | rw [HOe.out])
    go_ret2
    rw [HR.out]
    exact ⟨rfl, Keeps.refl _ _⟩
  | true =>
  have HOe := Lib.hid hoe
  cases hoh : isO h with
  | false =>
    have HR := Lib.hid (hR.trans (guardR_no (zs := [f, 15, mulV 19 e, mulV 3 h, mulV 19 (e / v + 1), 19]) (by simp [hoh])))
    have HOh := Lib.hid hoh
    clear hR hoh
    go_enter Try.func17, Try.ntmps17
    go_wp2_with (go_at_call 52; refine (HI.out _ _).mono ?_; rintro e w1 ⟨rfl, rfl⟩; first | rw [HOv.out] | rw [HOf.out] | rw [HOe.out] | rw [HOh.out])
    go_ret2
    rw [HR.out]
    exact ⟨rfl, Keeps.refl _ _⟩
  | true =>
  have HOh := Lib.hid hoh
  have hG : guardR [f, e, h, v] [f, 15, mulV 19 e, mulV 3 h, mulV 19 (e / v + 1), 19] = totR [f, 15, mulV 19 e, mulV 3 h, mulV 19 (e / v + 1), 19] := by unfold guardR; rw [if_pos (by simp [hov, hof, hoe, hoh])]
  obtain ⟨tv, te, ht⟩ := totR_form [f, 15, mulV 19 e, mulV 3 h, mulV 19 (e / v + 1), 19]
  have HR := Lib.hid ((hR.trans hG).trans ht)
  obtain ⟨_, he4⟩ := isO_iff.1 hoe
  have he3 := (isO_iff.1 hoe).1
  have hq1 : 0 ≤ e / v := Int.ediv_nonneg he3 (by omega)
  have hq2 : e / v ≤ e := Int.ediv_le_self _ he3
  have hv0 : v ≠ 0 := by omega
  clear hR hG hov hof hoe hoh
  have htd : e.tdiv v = e / v := Int.tdiv_eq_ediv_of_nonneg he3
  generalize hqe : e / v = q at *
  have HE := Lib.hid ht
  have HM := Lib.hid often_
  have HSE : Hid (Sees ((w.alloc (.cells #[.int .i64 f, .int .i64 15, .int .i64 (mulV 19 e), .int .i64 (mulV 3 h), .int .i64 (mulV 19 (q + 1)), .int .i64 19] 3)).drew) (w.alloc (.cells #[.int .i64 f, .int .i64 15, .int .i64 (mulV 19 e), .int .i64 (mulV 3 h), .int .i64 (mulV 19 (q + 1)), .int .i64 19] 3)).heap.size 1 (some ⟨w.heap.size, 0, none⟩) 6 [.int .i64 f, .int .i64 15, .int .i64 (mulV 19 e), .int .i64 (mulV 3 h), .int .i64 (mulV 19 (q + 1)), .int .i64 19]) := Lib.hid (sees_list w _ [.int .i64 f, .int .i64 15, .int .i64 (mulV 19 e), .int .i64 (mulV 3 h), .int .i64 (mulV 19 (q + 1)), .int .i64 19] 6 rfl)
  have hw0 : IntKind.i64.wrap q = q := IntWalk.i64_in _ ⟨by omega, by omega⟩
  have hw1 : IntKind.i64.wrap (q + 1) = q + 1 := IntWalk.i64_in _ ⟨by omega, by omega⟩
  clear ht
  go_enter Try.func17, Try.ntmps17
  go_wp2_with (go_at_call 52; refine (HI.out _ _).mono ?_; rintro e w1 ⟨rfl, rfl⟩; first | rw [HOv.out] | rw [HOf.out] | rw [HOe.out] | rw [HOh.out])
  go_region_with (first
    | (go_at_call 54; refine (HM.out _ _ _).mono ?_; rintro e w1 ⟨rfl, rfl⟩)
    | (go_at_call 53; refine (HT.out _ _ _ _ [f, 15, mulV 19 e, mulV 3 h, mulV 19 (q + 1), 19] _ HSE.out (by decide)).mono ?_; rintro e w1 ⟨rfl, rfl⟩; rw [HE.out]))

  all_goals go_wp2
  all_goals go_ret2
  all_goals rw [HR.out]
  all_goals exact ⟨rfl, ((Keeps.refl _ w).drewN 1).alloc _⟩
end Go.Proofs.Ytdapjfnpnmejnaa
