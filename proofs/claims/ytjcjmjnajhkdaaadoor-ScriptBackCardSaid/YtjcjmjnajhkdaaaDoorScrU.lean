/- Whether a script may be, and whether it is small, by the reference; no condition but the sizes. -/
import Derived.Test.YtjcjmjnajhkdaaaDoorScrR
namespace Go.Proofs.YtjcjmjnajhkdaaaDoor
open Go.RowKit
set_option linter.unusedVariables false
set_option linter.unusedSimpArgs false
set_option maxRecDepth 100000

set_option maxHeartbeats 1000000 in
theorem rmay_ (t e : Int) (b : Bool) (w : World) : Calls Tryd.prog 38 #[.agg #[.int .i64 t, .bool b, .int .i64 e]] w fun r w' => r = .returned (.bool (confV t e)) ∧ Pure' w w' := by
  have HP := Lib.hid ((Keeps.refl (fun _ => False) w).alloc (.cells #[.int .i64 t, .bool b, .int .i64 e] 25))
  by_cases h1 : 1 ≤ t
  · by_cases h2 : t ≤ 3
    · by_cases h3 : 1 ≤ e
      · go_enter Tryd.func38, Tryd.ntmps38
        go_wp2
        go_ret
        exact ⟨by unfold confV; first | (simp [h1, h2, h3]; done) | (simp [h1, h2, h3]; intros; omega), HP.out⟩
      · go_enter Tryd.func38, Tryd.ntmps38
        go_wp2
        go_ret
        exact ⟨by unfold confV; first | (simp [h1, h2, h3]; done) | (simp [h1, h2, h3]; intros; omega), HP.out⟩
    · go_enter Tryd.func38, Tryd.ntmps38
      go_wp2
      go_ret
      exact ⟨by unfold confV; first | (simp [h1, h2]; done) | (simp [h1, h2]; intros; omega), HP.out⟩
  · go_enter Tryd.func38, Tryd.ntmps38
    go_wp2
    go_ret
    exact ⟨by unfold confV; first | (simp [h1]; done) | (simp [h1]; intros; omega), HP.out⟩

def fewL (l : List (List UInt8)) : Bool := decide (l.length ≤ 12) && l.all (fun x => decide (x.length ≤ 30))
set_option maxHeartbeats 1000000 in
theorem rfew_ (A : Option Addr) (m c B : Nat) (l : List (List UInt8)) (w : World) (h : Sees w B 1 A m (strVs l)) (hm : m ≤ maxLen) (hl : ∀ x ∈ l, x.length ≤ maxLen) :
    Calls Tryd.prog 25 #[.slice A m c, .int .i64 12, .int .i64 30] w fun e w' => e = .returned (.bool (fewL l)) ∧ w = w' := by
  have hll : l.length = m := by have := h.1; rw [strVs_len] at this; omega
  have HS := Lib.hid h
  have HN := Lib.hid hll
  have HL := Lib.hid hl
  unfold maxLen at hm
  obtain ⟨fv, hfv⟩ : ∃ fv, fewL l = fv := ⟨_, rfl⟩
  rw [hfv]
  have HFV := Lib.hid hfv
  clear h hll hl hfv
  by_cases h0 : 12 < m
  · go_enter Tryd.func25, Tryd.ntmps25
    go_wp2
    go_ret
    have e1 : fv = false := by
      rw [← HFV.out]; unfold fewL; rw [HN.out, decide_eq_false (show ¬ m ≤ 12 by omega)]; rfl
    subst e1
    exact ⟨rfl, rfl⟩
  go_enter Tryd.func25, Tryd.ntmps25
  go_wp2
  go_loopw [7] (fun v7 wr => ∃ k : Nat, k ≤ m ∧ v7 = .int .i64 k ∧ (∀ s ∈ l.take k, s.length ≤ 30) ∧ wr = w) (fun v7 _ => m - (intOf v7).toNat)
  case atStart => exact ⟨0, Nat.zero_le _, rfl, by simp, rfl⟩
  case round =>
    obtain ⟨k, hk, rfl, hne, rfl⟩ := hrel
    have HNE := Lib.hid hne
    clear hne
    by_cases hlt : k < m
    · obtain ⟨ad, s, rfl, hs, hc⟩ := word_at HS.out hlt
      have hsz := HL.out s (List.mem_of_getElem? hs)
      unfold maxLen at hsz
      have HSN := Lib.hid (show l.take (k + 1) = l.take k ++ [s] by rw [List.take_add_one, hs]; rfl)
      have HMEM := Lib.hid (List.mem_of_getElem? hs)
      clear hs
      by_cases hz : 30 < s.length
      · have HZ := Lib.hid hz
        go_wp2
        go_ret
        have e1 : fv = false := by
          have : l.all (fun x => decide (x.length ≤ 30)) = false := by
            rw [List.all_eq_false]
            exact ⟨s, HMEM.out, by have := HZ.out; simp; omega⟩
          rw [← HFV.out]
          unfold fewL
          rw [this, Bool.and_false]
        subst e1
        exact ⟨rfl, rfl⟩
      · have HZ := Lib.hid hz
        go_wp2
        go_roundw
        case rel =>
          refine ⟨k + 1, by omega, by go_num, fun t ht => ?_, trivial⟩
          rw [HSN.out] at ht
          rcases List.mem_append.1 ht with ht | ht
          · exact HNE.out t ht
          · rw [List.mem_singleton.1 ht]; have := HZ.out; omega
        case measure => simp [intOf] <;> omega
    · obtain rfl : k = m := by omega
      have HF : Hid (fewL l = true) := Lib.hid (by
        have h1 := HNE.out
        rw [List.take_of_length_le (by rw [HN.out]; exact Nat.le_refl _)] at h1
        unfold fewL
        rw [HN.out, Bool.and_eq_true, List.all_eq_true]
        exact ⟨by simp; omega, fun x hx => by have := h1 x hx; simpa using this⟩)
      go_wp2
      go_ret
      have e1 : fv = true := by rw [← HFV.out]; exact HF.out
      subst e1
      exact ⟨rfl, rfl⟩

def fewS (s : Sc) : Bool := fewL s.pats && fewL s.parts && decide (s.edits.length ≤ 12) && decide (s.certs.length ≤ 12)
set_option maxHeartbeats 1000000 in
theorem fewS_ (v0 v1 v5 v6 : Value) (s : Sc) (w : World) (h : ScR w v0 v1 v5 v6 s) (h0 : s.pats.length ≤ maxLen) (h1 : s.parts.length ≤ maxLen) (h5 : s.edits.length ≤ maxLen) (h6 : s.certs.length ≤ maxLen) (hl0 : ∀ x ∈ s.pats, x.length ≤ maxLen) (hl1 : ∀ x ∈ s.parts, x.length ≤ maxLen) :
    Calls Tryd.prog 11 #[scV v0 v1 v5 v6 s] w fun e w' => e = .returned (.bool (fewS s)) ∧ Pure' w w' := by
  obtain ⟨a0, k0, rfl, s0⟩ := h.p0
  obtain ⟨a1, k1, rfl, s1⟩ := h.p1
  obtain ⟨a5, k5, rfl, s5⟩ := h.p5
  obtain ⟨a6, k6, rfl, s6⟩ := h.p6
  have hf0 := fun W (hW : Pure' w W) => rfew_ a0 s.pats.length k0 w.heap.size s.pats W (s0.pure hW (Nat.le_refl _)) h0 hl0
  have hf1 := fun W (hW : Pure' w W) => rfew_ a1 s.parts.length k1 w.heap.size s.parts W (s1.pure hW (Nat.le_refl _)) h1 hl1
  unfold fewS scV
  obtain ⟨f0, hf0e⟩ : ∃ f0, fewL s.pats = f0 := ⟨_, rfl⟩
  obtain ⟨f1, hf1e⟩ : ∃ f1, fewL s.parts = f1 := ⟨_, rfl⟩
  obtain ⟨np, hnp⟩ : ∃ np, s.pats.length = np := ⟨_, rfl⟩
  obtain ⟨nq, hnq⟩ : ∃ nq, s.parts.length = nq := ⟨_, rfl⟩
  obtain ⟨ne, hne⟩ : ∃ ne, s.edits.length = ne := ⟨_, rfl⟩
  obtain ⟨nc, hnc⟩ : ∃ nc, s.certs.length = nc := ⟨_, rfl⟩
  rw [hf0e] at hf0 ⊢
  rw [hf1e] at hf1 ⊢
  rw [hnp] at hf0 ⊢
  rw [hnq] at hf1 ⊢
  rw [hne, hnc]
  rw [hne] at h5
  rw [hnc] at h6
  unfold maxLen at h5 h6
  have H0 := Lib.hid hf0
  have H1 := Lib.hid hf1
  have HP := Lib.hid ((Keeps.refl (fun _ => False) w).alloc (.cells #[.slice a0 np k0, .slice a1 nq k1, .int .i64 s.table, .bool s.skip, .int .i64 s.every, .slice a5 ne k5, .slice a6 nc k6] 35))
  clear hf0 hf1 hf0e hf1e hnp hnq hne hnc s0 s1 s5 s6 h h0 h1 hl0 hl1
  cases f0 with
  | false =>
    go_enter Tryd.func11, Tryd.ntmps11
    go_wp2_with (go_at_call 25; refine (H0.out _ HP.out).mono ?_; rintro e w1 ⟨rfl, hw⟩; subst hw)
    go_ret
    exact ⟨rfl, HP.out⟩
  | true =>
    cases f1 with
    | false =>
      go_enter Tryd.func11, Tryd.ntmps11
      go_wp2_with fail
      refine (H0.out _ HP.out).mono ?_
      rintro e w1 ⟨rfl, hw⟩
      subst hw
      go_wp2_with fail
      refine (H1.out _ HP.out).mono ?_
      rintro e w1 ⟨rfl, hw⟩
      subst hw
      go_wp2
      go_ret
      exact ⟨rfl, HP.out⟩
    | true =>
      obtain ⟨rv, hrv⟩ : ∃ rv, (true && true && decide (ne ≤ 12) && decide (nc ≤ 12)) = rv := ⟨_, rfl⟩
      rw [hrv]
      have HRV := Lib.hid hrv
      clear hrv
      by_cases q5 : ne ≤ 12
      · go_enter Tryd.func11, Tryd.ntmps11
        go_wp2_with fail
        refine (H0.out _ HP.out).mono ?_
        rintro e w1 ⟨rfl, hw⟩
        subst hw
        go_wp2_with fail
        refine (H1.out _ HP.out).mono ?_
        rintro e w1 ⟨rfl, hw⟩
        subst hw
        go_wp2
        go_ret
        have e1 : rv = decide ((nc : Int) ≤ 12) := by
          rw [← HRV.out, decide_eq_true q5, Bool.eq_iff_iff]
          simp
          omega
        subst e1
        exact ⟨rfl, HP.out⟩
      · go_enter Tryd.func11, Tryd.ntmps11
        go_wp2_with fail
        refine (H0.out _ HP.out).mono ?_
        rintro e w1 ⟨rfl, hw⟩
        subst hw
        go_wp2_with fail
        refine (H1.out _ HP.out).mono ?_
        rintro e w1 ⟨rfl, hw⟩
        subst hw
        go_wp2
        go_ret
        have e1 : rv = false := by rw [← HRV.out, decide_eq_false q5]; rfl
        subst e1
        exact ⟨rfl, HP.out⟩

set_option maxHeartbeats 2000000 in
theorem rcheck_ (v0 v1 v5 v6 : Value) (s : Sc) (w : World) (h : ScR w v0 v1 v5 v6 s) (h0 : s.pats.length ≤ 100000) (h1 : s.parts.length ≤ 100000) (h5 : s.edits.length ≤ 100000) (h6 : s.certs.length ≤ 100000) :
    Calls Tryd.prog 16 #[scV v0 v1 v5 v6 s] w fun e w' => e = .returned (.bool (checkV s)) ∧ Pure' w w' := by
  obtain ⟨a0, k0, rfl, s0⟩ := h.p0
  obtain ⟨a1, k1, rfl, s1⟩ := h.p1
  obtain ⟨a5, k5, rfl, s5⟩ := h.p5
  obtain ⟨a6, k6, rfl, s6⟩ := h.p6
  rw [check_eq]
  have hcf : ∀ W, Calls Tryd.prog 38 #[.agg #[.int .i64 s.table, .bool s.skip, .int .i64 s.every]] W fun e w' => e = .returned (.bool (confV s.table s.every)) ∧ Pure' W w' := fun W => rmay_ s.table s.every s.skip W
  have hnil : (s.certs = []) ↔ s.certs.length = 0 := List.length_eq_zero_iff.symm
  simp only [hnil]
  obtain ⟨cf, hcfe⟩ : ∃ cf, confV s.table s.every = cf := ⟨_, rfl⟩
  obtain ⟨np, hnp⟩ : ∃ np, s.pats.length = np := ⟨_, rfl⟩
  obtain ⟨nq, hnq⟩ : ∃ nq, s.parts.length = nq := ⟨_, rfl⟩
  obtain ⟨ne, hn5⟩ : ∃ ne, s.edits.length = ne := ⟨_, rfl⟩
  obtain ⟨nc, hn6⟩ : ∃ nc, s.certs.length = nc := ⟨_, rfl⟩
  rw [hcfe] at hcf ⊢
  rw [hnp] at h0 ⊢
  rw [hnq] at h1 ⊢
  have HS5 := Lib.hid s5
  have HS6 := Lib.hid s6
  rw [hn5] at h5 HS5 ⊢
  rw [hn6] at h6 HS6 ⊢
  unfold scV
  have HF := Lib.hid hcf
  have HN5 := Lib.hid hn5
  have HN6 := Lib.hid hn6
  have HB := Lib.hid (Blk.new w 35 #[.slice a0 np k0, .slice a1 nq k1, .int .i64 s.table, .bool s.skip, .int .i64 s.every, .slice a5 ne k5, .slice a6 nc k6])
  have HP := Lib.hid ((Keeps.refl (fun _ => False) w).alloc (.cells #[.slice a0 np k0, .slice a1 nq k1, .int .i64 s.table, .bool s.skip, .int .i64 s.every, .slice a5 ne k5, .slice a6 nc k6] 35))
  obtain ⟨m, hm⟩ : ∃ m : Nat, np + nq + ne + 1 + (if nc = 0 then 0 else 1) = m := ⟨_, rfl⟩
  have hm2 : m ≤ 1000000 := by rw [← hm]; split <;> omega
  rw [hm]
  have HM := Lib.hid hm
  obtain ⟨bE, hbE⟩ : ∃ bE, s.edits.any badE = bE := ⟨_, rfl⟩
  obtain ⟨bC, hbC⟩ : ∃ bC, s.certs.any badC = bC := ⟨_, rfl⟩
  rw [hbE, hbC]
  obtain ⟨rv, hrv⟩ : ∃ rv, (cf && !decide (400 < nc) && !bE && decide (m ≤ 400) && !bC) = rv := ⟨_, rfl⟩
  rw [hrv]
  have HRV := Lib.hid hrv
  have HbE := Lib.hid hbE
  have HbC := Lib.hid hbC
  clear hrv hcf hcfe hnp hnq hn5 hn6 s0 s1 s5 s6 h hnil hm hbE hbC
  have w1 : wrap64 ((np : Int) + (nq : Int)) = (np : Int) + nq := by unfold wrap64; omega
  have w2 : wrap64 ((np : Int) + nq + ne) = (np : Int) + nq + ne := by unfold wrap64; omega
  have w3 : wrap64 ((np : Int) + nq + ne + 1) = (np : Int) + nq + ne + 1 := by unfold wrap64; omega
  have w4 : wrap64 ((np : Int) + nq + ne + 1 + 1) = (np : Int) + nq + ne + 1 + 1 := by unfold wrap64; omega
  go_enter Tryd.func16, Tryd.ntmps16
  go_upto_if 21 with fail
  go_cut [3] (fun s3 wx => s3 = .int .i64 (m : Int) ∧ wx = w.alloc (.cells #[.slice a0 np k0, .slice a1 nq k1, .int .i64 s.table, .bool s.skip, .int .i64 s.every, .slice a5 ne k5, .slice a6 nc k6] 35))
  case first =>
    rcases Nat.eq_zero_or_pos nc with q | q
    · subst q
      go_wp2
      go_meet
      exact ⟨by congr 1; have := HM.out; simp at this; omega, rfl⟩
    · go_wp2
      go_meet
      exact ⟨by congr 1; have := HM.out; rw [if_neg (by omega)] at this; omega, rfl⟩
  case rest =>
    obtain ⟨rfl, rfl⟩ := hcut
    clear w1 w2 w3 w4
    by_cases q1 : 400 < m
    · go_wp2
      go_ret
      have e1 : rv = false := by rw [← HRV.out, decide_eq_false (show ¬ m ≤ 400 by omega)]; simp
      subst e1
      exact ⟨rfl, HP.out⟩
    by_cases q2 : 400 < nc
    · go_wp2
      go_ret
      have e1 : rv = false := by rw [← HRV.out, decide_eq_true q2]; simp
      subst e1
      exact ⟨rfl, HP.out⟩
    cases cf with
    | false =>
      go_wp2_with (go_at_call 38; refine (HF.out _).mono ?_; rintro e w1 ⟨rfl, hk⟩; have HK1 := Lib.hid (HP.out.then_ hk); clear hk)
      go_ret
      have e1 : rv = false := by rw [← HRV.out]; simp
      subst e1
      exact ⟨rfl, HK1.out⟩
    | true =>
      go_wp2_with (go_at_call 38; refine (HF.out _).mono ?_; rintro e w1 ⟨rfl, hk⟩; have HK1 := Lib.hid (HP.out.then_ hk); have HB1 := Lib.hid (HB.out.keep hk (fun hf => hf)); clear hk)
      have x5 := HB1.out.cell 5
      have x6 := HB1.out.cell 6
      go_loopw [4] (fun v4 wr => ∃ k : Nat, k ≤ ne ∧ v4 = .int .i64 k ∧ RowKit.Hid (∀ x ∈ s.edits.take k, badE x = false) ∧ wr = w1) (fun v4 _ => ne - (intOf v4).toNat)
      case atStart => exact ⟨0, Nat.zero_le _, rfl, Lib.hid (by simp), rfl⟩
      case round =>
        obtain ⟨k, hk, rfl, hb, rfl⟩ := hrel
        by_cases hlt : k < ne
        · obtain ⟨ad, x, rfl, hx, p0, p1, p2⟩ := ed_at (HS5.out.pure HK1.out (Nat.le_refl _)) hlt
          have HX := Lib.hid hx
          clear hx p1 p2
          by_cases g1 : x.1 < 1
          · have HBX := Lib.hid (show badE x = true by unfold badE; simp; omega)
            go_wp2
            go_ret
            have e1 : rv = false := by rw [← HRV.out, ← HbE.out, List.any_eq_true.2 ⟨x, List.mem_of_getElem? HX.out, HBX.out⟩]; simp
            subst e1
            exact ⟨rfl, HK1.out⟩
          by_cases g2 : 10 < x.1
          · have HBX := Lib.hid (show badE x = true by unfold badE; simp; omega)
            go_wp2
            go_ret
            have e1 : rv = false := by rw [← HRV.out, ← HbE.out, List.any_eq_true.2 ⟨x, List.mem_of_getElem? HX.out, HBX.out⟩]; simp
            subst e1
            exact ⟨rfl, HK1.out⟩
          have HN := Lib.hid (show ∀ y ∈ s.edits.take (k + 1), badE y = false by
            rw [List.take_add_one, HX.out]
            intro y hy
            rcases List.mem_append.1 hy with hy | hy
            · exact hb.out y hy
            · simp at hy; subst hy; unfold badE; simp; omega)
          clear hb
          go_wp2
          go_roundw
          case rel => exact ⟨k + 1, by omega, by go_num, HN, by trivial⟩
          case measure => simp [intOf]; omega
        · obtain rfl : k = ne := by omega
          have HF5 := Lib.hid (show bE = false by
            rw [← HbE.out, List.any_eq_false]
            intro x hx
            have := hb.out x (by rw [← HN5.out, List.take_length]; exact hx)
            rw [this]; decide)
          clear hb
          go_wp2
          go_loopw [5] (fun v5 wq => ∃ j : Nat, j ≤ nc ∧ v5 = .int .i64 j ∧ RowKit.Hid (∀ x ∈ s.certs.take j, badC x = false) ∧ wq = wr) (fun v5 _ => nc - (intOf v5).toNat)
          case atStart => exact ⟨0, Nat.zero_le _, rfl, Lib.hid (by simp), rfl⟩
          case round =>
            obtain ⟨j, hj, rfl, hb, rfl⟩ := hrel
            by_cases hlt : j < nc
            · obtain ⟨ad, x, rfl, hx, p0⟩ := int_at (HS6.out.pure HK1.out (Nat.le_refl _)) hlt
              have HX := Lib.hid hx
              clear hx
              by_cases g1 : x < 0
              · have HBX := Lib.hid (show badC x = true by unfold badC; simp; omega)
                go_wp2
                go_ret
                have e1 : rv = false := by rw [← HRV.out, ← HbC.out, List.any_eq_true.2 ⟨x, List.mem_of_getElem? HX.out, HBX.out⟩]; simp
                subst e1
                exact ⟨rfl, HK1.out⟩
              by_cases g2 : 1048576 < x
              · have HBX := Lib.hid (show badC x = true by unfold badC; simp; omega)
                go_wp2
                go_ret
                have e1 : rv = false := by rw [← HRV.out, ← HbC.out, List.any_eq_true.2 ⟨x, List.mem_of_getElem? HX.out, HBX.out⟩]; simp
                subst e1
                exact ⟨rfl, HK1.out⟩
              have HN := Lib.hid (show ∀ y ∈ s.certs.take (j + 1), badC y = false by
                rw [List.take_add_one, HX.out]
                intro y hy
                rcases List.mem_append.1 hy with hy | hy
                · exact hb.out y hy
                · simp at hy; subst hy; unfold badC; simp; omega)
              clear hb
              go_wp2
              go_roundw
              case rel => exact ⟨j + 1, by omega, by go_num, HN, by trivial⟩
              case measure => simp [intOf]; omega
            · obtain rfl : j = nc := by omega
              have HF6 := Lib.hid (show bC = false by
                rw [← HbC.out, List.any_eq_false]
                intro x hx
                have := hb.out x (by rw [← HN6.out, List.take_length]; exact hx)
                rw [this]; decide)
              clear hb
              go_wp2
              go_ret
              have e1 : rv = true := by rw [← HRV.out, HF5.out, HF6.out, decide_eq_false q2, decide_eq_true (show m ≤ 400 by omega)]; rfl
              subst e1
              exact ⟨rfl, HK1.out⟩

end Go.Proofs.YtjcjmjnajhkdaaaDoor
