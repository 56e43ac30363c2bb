/- Whether a script may be, as the program says; no condition but the sizes. -/
import Derived.Test.YtjcjmjnajhkdaaaDoorScrI
namespace Go.Proofs.YtjcjmjnajhkdaaaDoor
open Go.RowKit
set_option linter.unusedVariables false
set_option linter.unusedSimpArgs false
set_option maxRecDepth 100000

theorem check_eq (s : Sc) : checkV s = (confV s.table s.every && !decide (400 < s.certs.length) && !s.edits.any badE && decide (s.pats.length + s.parts.length + s.edits.length + 1 + (if s.certs = [] then 0 else 1) ≤ 400) && !s.certs.any badC) := by
  have h1 : s.edits.all (fun e => decide (1 ≤ e.1 ∧ e.1 ≤ 10)) = !s.edits.any badE := by
    rw [List.not_any_eq_all_not]; congr 1; funext e; simp [badE]
  have h2 : s.certs.all (fun n => decide (0 ≤ n ∧ n ≤ 1048576)) = !s.certs.any badC := by
    rw [List.not_any_eq_all_not]; congr 1; funext e; simp [badC]
  unfold checkV confV
  rw [h1, h2]
  have h3 : decide (s.certs.length ≤ 400) = !decide (400 < s.certs.length) := by
    rw [Bool.eq_iff_iff]; simp
  rw [h3]
  generalize decide (400 < s.certs.length) = a
  generalize s.edits.any badE = b
  generalize s.certs.any badC = c
  generalize decide (s.pats.length + s.parts.length + s.edits.length + 1 + (if s.certs = [] then 0 else 1) ≤ 400) = d
  generalize decide (1 ≤ s.table ∧ s.table ≤ 3) = e
  generalize decide (1 ≤ s.every ∧ s.every ≤ 4611686018427387903) = f
  cases a <;> cases b <;> cases c <;> cases d <;> cases e <;> cases f <;> rfl

set_option maxHeartbeats 1000000 in
theorem check_ (v0 v1 v5 v6 : Value) (s : Sc) (w : World) (h : ScR w v0 v1 v5 v6 s) (h0 : s.pats.length ≤ 100000) (h1 : s.parts.length ≤ 100000) (h5 : s.edits.length ≤ 100000) (h6 : s.certs.length ≤ 100000) :
    Calls Tryd.prog 15 #[scV v0 v1 v5 v6 s] w fun e w' => e = .returned (.bool (checkV s)) ∧ Pure' w w' := by
  obtain ⟨a0, k0, rfl, s0⟩ := h.p0
  obtain ⟨a1, k1, rfl, s1⟩ := h.p1
  obtain ⟨a5, k5, rfl, s5⟩ := h.p5
  obtain ⟨a6, k6, rfl, s6⟩ := h.p6
  rw [check_eq]
  have hcE : ∀ W, Pure' w W → Calls Tryd.prog 34 #[.slice a5 s.edits.length k5, .func (.func 35) #[] #[]] W fun e w' => e = .returned (.bool (s.edits.any badE)) ∧ Pure' W w' :=
    fun W hW => contE_ a5 s.edits.length k5 w.heap.size s.edits W (s5.pure hW (Nat.le_refl _)) hW.size (by omega)
  have hcC : ∀ W, Pure' w W → Calls Tryd.prog 36 #[.slice a6 s.certs.length k6, .func (.func 37) #[] #[]] W fun e w' => e = .returned (.bool (s.certs.any badC)) ∧ Pure' W w' :=
    fun W hW => contC_ a6 s.certs.length k6 w.heap.size s.certs W (s6.pure hW (Nat.le_refl _)) hW.size (by omega)
  have hcf : ∀ W, Calls Tryd.prog 33 #[.agg #[.int .i64 s.table, .bool s.skip, .int .i64 s.every]] W fun e w' => e = .returned (.bool (confV s.table s.every)) ∧ Pure' W w' := fun W => conf_ s.table s.every s.skip W
  have hne : (s.certs = []) ↔ s.certs.length = 0 := List.length_eq_zero_iff.symm
  simp only [hne]
  obtain ⟨bE, hbE⟩ : ∃ bE, s.edits.any badE = bE := ⟨_, rfl⟩
  obtain ⟨bC, hbC⟩ : ∃ bC, s.certs.any badC = bC := ⟨_, rfl⟩
  obtain ⟨cf, hcfe⟩ : ∃ cf, confV s.table s.every = cf := ⟨_, rfl⟩
  obtain ⟨np, hnp⟩ : ∃ np, s.pats.length = np := ⟨_, rfl⟩
  obtain ⟨nq, hnq⟩ : ∃ nq, s.parts.length = nq := ⟨_, rfl⟩
  obtain ⟨ne, hn5⟩ : ∃ ne, s.edits.length = ne := ⟨_, rfl⟩
  obtain ⟨nc, hn6⟩ : ∃ nc, s.certs.length = nc := ⟨_, rfl⟩
  rw [hbE] at hcE ⊢
  rw [hbC] at hcC ⊢
  rw [hcfe] at hcf ⊢
  rw [hnp] at h0 ⊢
  rw [hnq] at h1 ⊢
  rw [hn5] at hcE h5 ⊢
  rw [hn6] at hcC h6 ⊢
  unfold scV
  have HE := Lib.hid hcE
  have HC := Lib.hid hcC
  have HF := Lib.hid hcf
  have HB := Lib.hid (Blk.new w 29 #[.slice a0 np k0, .slice a1 nq k1, .int .i64 s.table, .bool s.skip, .int .i64 s.every, .slice a5 ne k5, .slice a6 nc k6])
  have HP := Lib.hid ((Keeps.refl (fun _ => False) w).alloc (.cells #[.slice a0 np k0, .slice a1 nq k1, .int .i64 s.table, .bool s.skip, .int .i64 s.every, .slice a5 ne k5, .slice a6 nc k6] 29))
  clear hcE hcC hcf hbE hbC hcfe hnp hnq hn5 hn6 s0 s1 s5 s6 h hne
  have w1 : wrap64 ((np : Int) + (nq : Int)) = (np : Int) + nq := by unfold wrap64; omega
  have w2 : wrap64 ((np : Int) + nq + ne) = (np : Int) + nq + ne := by unfold wrap64; omega
  have w3 : wrap64 ((np : Int) + nq + ne + 1) = (np : Int) + nq + ne + 1 := by unfold wrap64; omega
  have w4 : wrap64 ((np : Int) + nq + ne + 1 + 1) = (np : Int) + nq + ne + 1 + 1 := by unfold wrap64; omega
  cases cf with
  | false =>
    go_enter Tryd.func15, Tryd.ntmps15
    go_wp2_with (go_at_call 33; refine (HF.out _).mono ?_; rintro e w1 ⟨rfl, hk⟩; have HK1 := Lib.hid (HP.out.then_ hk); clear hk)
    all_goals go_ret
    all_goals exact ⟨rfl, HK1.out⟩
  | true =>
    by_cases hc4 : 400 < nc
    · go_enter Tryd.func15, Tryd.ntmps15
      go_wp2_with (go_at_call 33; refine (HF.out _).mono ?_; rintro e w1 ⟨rfl, hk⟩; have HK1 := Lib.hid (HP.out.then_ hk); have x6 := (HB.out.keep hk (fun hf => hf)).cell 6; clear hk)
      go_ret
      refine ⟨?_, HK1.out⟩
      simp [hc4]
    · have hc4' : decide (400 < nc) = false := by simp; omega
      cases bE with
      | true =>
        go_enter Tryd.func15, Tryd.ntmps15
        go_wp2_with (first
          | (go_at_call 33; refine (HF.out _).mono ?_; rintro e w1 ⟨rfl, hk⟩; have HK1 := Lib.hid (HP.out.then_ hk); have HB1 := Lib.hid (HB.out.keep hk (fun hf => hf)); have x6 := HB1.out.cell 6; have x5 := HB1.out.cell 5; clear hk)
          | (go_at_call 34; refine (HE.out _ HK1.out).mono ?_; rintro e w2 ⟨rfl, hk⟩; have HK2 := Lib.hid (HK1.out.then_ hk); clear hk))
        all_goals go_ret
        all_goals exact ⟨by simp, HK2.out⟩
      | false =>
        obtain ⟨R, hR⟩ : ∃ R, (true && !decide (400 < nc) && !false && decide (np + nq + ne + 1 + (if nc = 0 then 0 else 1) ≤ 400) && !bC) = R := ⟨_, rfl⟩
        rw [hR]
        have HRR := Lib.hid hR
        clear hR
        go_enter Tryd.func15, Tryd.ntmps15
        go_wp2_with (first
          | (go_at_call 33; refine (HF.out _).mono ?_; rintro e w1 ⟨rfl, hk⟩; have HK1 := Lib.hid (HP.out.then_ hk); have HB1 := Lib.hid (HB.out.keep hk (fun hf => hf)); have x6 := HB1.out.cell 6; have x5 := HB1.out.cell 5; clear hk)
          | (go_at_call 34; refine (HE.out _ HK1.out).mono ?_; rintro e w2 ⟨rfl, hk⟩; have HK2 := Lib.hid (HK1.out.then_ hk); have x6 := (HB1.out.keep hk (fun hf => hf)).cell 6; clear hk)
          | (go_at_call 36; refine (HC.out _ HK2.out).mono ?_; rintro e w3 ⟨rfl, hk⟩; have HK3 := Lib.hid (HK2.out.then_ hk); clear hk))
        all_goals go_ret
        all_goals first
          | (refine ⟨?_, HK3.out⟩; rw [← HRR.out]; by_cases hz : nc = 0 <;> simp [hz, hc4'] <;> first | done | omega | (intros; omega))
          | (refine ⟨?_, HK2.out⟩; rw [← HRR.out]; by_cases hz : nc = 0 <;> simp [hz, hc4'] <;> first | done | omega | (intros; omega))

end Go.Proofs.YtjcjmjnajhkdaaaDoor
