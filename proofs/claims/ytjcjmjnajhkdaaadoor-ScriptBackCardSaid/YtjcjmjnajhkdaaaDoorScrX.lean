/- The law that both print as one; no condition but the card's cell. -/
import Derived.Test.YtjcjmjnajhkdaaaDoorScrW
namespace Go.Proofs.YtjcjmjnajhkdaaaDoor
open Go.RowKit
set_option linter.unusedVariables false
set_option linter.unusedSimpArgs false
set_option maxRecDepth 100000

theorem few_parts {s : Sc} (h : fewS s = true) : (s.pats.length ≤ 12 ∧ s.parts.length ≤ 12 ∧ s.edits.length ≤ 12 ∧ s.certs.length ≤ 12) ∧ (∀ p ∈ s.pats, p.length ≤ 30) ∧ (∀ p ∈ s.parts, p.length ≤ 30) := by
  unfold fewS fewL at h
  simp only [Bool.and_eq_true, decide_eq_true_eq, List.all_eq_true] at h
  obtain ⟨⟨⟨⟨h1, h2⟩, h3, h4⟩, h5⟩, h6⟩ := h
  exact ⟨⟨h1, h3, h5, h6⟩, h2, h4⟩
theorem kind_len : ∀ k : Nat, (kindW.getD k []).length ≤ 10
  | 0 | 1 | 2 | 3 | 4 | 5 | 6 | 7 | 8 | 9 | 10 => by decide
  | k + 11 => by simp [kindW]
theorem tab_len : ∀ k : Nat, (tabW.getD k []).length ≤ 10
  | 0 | 1 | 2 | 3 => by decide
  | k + 4 => by simp [tabW]
theorem row_len_le {l : List Int} (hl : l.length ≤ 400) (hz : ∀ z ∈ l, 0 ≤ z ∧ z ≤ 1048576) : (rowL l).length ≤ 8400 := by
  by_cases hcz : l = []
  · subst hcz; decide
  · have h1 := jn_len (zs := l) (fun z h => by have := hz z h; omega) l.length (Nat.le_refl _)
    rw [jn_all _ hcz] at h1
    omega
theorem edit_len {e : Int × Int × Int} (h : (iMin ≤ e.2.1 ∧ e.2.1 ≤ iMax) ∧ (iMin ≤ e.2.2 ∧ e.2.2 ≤ iMax)) : (editL e).length ≤ 60 := by
  have h1 := textL_len (z := e.2.1) h.1.1 h.1.2
  have h2 := textL_len (z := e.2.2) h.2.1 h.2.2
  have h3 := kind_len e.1.toNat
  unfold editL
  simp [sp, wSpoil]
  simp at h3
  omega
theorem scan_len {s : Sc} (h : 1 ≤ s.every ∧ s.every ≤ 4611686018427387903) : (scanL s).length ≤ 60 := by
  have h1 := textL_len (z := s.every) (by omega) (by omega)
  have h3 := tab_len s.table.toNat
  unfold scanL
  cases s.skip <;> simp [sp, wScan, wSkip, wStep] <;> simp at h3 <;> omega
theorem fl_le (B : Nat) : ∀ (xs : List (List UInt8)), (∀ x ∈ xs, x.length ≤ B) → (xs.flatMap (· ++ [10])).length ≤ xs.length * (B + 1)
  | [], _ => by simp
  | x :: xs, h => by
    have h1 := h x (by simp)
    have h2 := fl_le B xs (fun y hy => h y (by simp [hy]))
    rw [List.flatMap_cons, List.length_append, List.length_cons, Nat.succ_mul]
    simp
    simp at h2
    omega
theorem few_print {s : Sc} (hc : checkV s = true) (hn : NumsOk s) (hf : fewS s = true) : (printL s).length ≤ 1048576 := by
  obtain ⟨⟨f1, f2, f3, f4⟩, f5, f6⟩ := few_parts hf
  obtain ⟨c1, c2, c3, c4, c5, c6⟩ := check_parts hc
  have hl := rows_len s
  have : (printL s).length ≤ (rowsL s).length * (9000 + 1) := fl_le 9000 _ (by
    intro l hl
    unfold rowsL at hl
    rcases List.mem_append.1 hl with hl | hl
    · obtain ⟨p, hp, rfl⟩ := List.mem_map.1 hl
      have h1 := quote_len p; have h2 := f5 p hp
      simp [sp, wPattern]; omega
    rcases List.mem_append.1 hl with hl | hl
    · obtain ⟨p, hp, rfl⟩ := List.mem_map.1 hl
      have h1 := quote_len p; have h2 := f6 p hp
      simp [sp, wPart]; omega
    rcases List.mem_cons.1 hl with rfl | hl
    · have := scan_len (s := s) c4; omega
    rcases List.mem_append.1 hl with hl | hl
    · obtain ⟨e, he, rfl⟩ := List.mem_map.1 hl
      have := edit_len (hn e he); omega
    · split at hl
      · cases hl
      · simp at hl
        subst hl
        have := row_len_le c2 c6
        simp [sp, wCerts]; omega)
  split at hl <;> omega

/-- Both print as one, both check as one. -/
theorem prints_all (s : Sc) (hf : fewS s = true) (hn : NumsOk s) : ∃ (pt : List UInt8) (pe : Int) (cv : Bool),
    (∀ v0 v1 v5 v6 W, ScR W v0 v1 v5 v6 s → Calls Tryd.prog 12 #[scV v0 v1 v5 v6 s] W fun e w' => e = .returned (.tuple #[.string ⟨pt.toArray⟩, .int .i64 pe]) ∧ Pure' W w') ∧
    (∀ v0 v1 v5 v6 W, ScR W v0 v1 v5 v6 s → Calls Tryd.prog 14 #[scV v0 v1 v5 v6 s] W fun e w' => e = .returned (.tuple #[.string ⟨pt.toArray⟩, .int .i64 pe]) ∧ Pure' W w') ∧
    (∀ v0 v1 v5 v6 W, ScR W v0 v1 v5 v6 s → Calls Tryd.prog 15 #[scV v0 v1 v5 v6 s] W fun e w' => e = .returned (.bool cv) ∧ Pure' W w') ∧
    (∀ v0 v1 v5 v6 W, ScR W v0 v1 v5 v6 s → Calls Tryd.prog 16 #[scV v0 v1 v5 v6 s] W fun e w' => e = .returned (.bool cv) ∧ Pure' W w') := by
  obtain ⟨⟨f1, f2, f3, f4⟩, f5, f6⟩ := few_parts hf
  have hp : ∀ p ∈ s.pats, p.length ≤ 100000 := fun p h => by have := f5 p h; omega
  have hq : ∀ p ∈ s.parts, p.length ≤ 100000 := fun p h => by have := f6 p h; omega
  have k1 := fun v0 v1 v5 v6 W (h : ScR W v0 v1 v5 v6 s) => check_ v0 v1 v5 v6 s W h (by omega) (by omega) (by omega) (by omega)
  have k2 := fun v0 v1 v5 v6 W (h : ScR W v0 v1 v5 v6 s) => rcheck_ v0 v1 v5 v6 s W h (by omega) (by omega) (by omega) (by omega)
  cases hc : checkV s with
  | true =>
    rw [hc] at k1 k2
    exact ⟨printL s, 0, true, fun v0 v1 v5 v6 W h => print_ v0 v1 v5 v6 s W h hc hn hp hq (few_print hc hn hf), fun v0 v1 v5 v6 W h => rprint_ v0 v1 v5 v6 s W h hc hn hp hq (few_print hc hn hf), k1, k2⟩
  | false =>
    rw [hc] at k1 k2
    exact ⟨[], 2, false, fun v0 v1 v5 v6 W h => print_no v0 v1 v5 v6 s W h hc (by omega) (by omega) (by omega) (by omega), fun v0 v1 v5 v6 W h => rprint_no v0 v1 v5 v6 s W h hc (by omega) (by omega) (by omega) (by omega), k1, k2⟩

set_option maxHeartbeats 2000000 in
theorem sprints_walk (v0 v1 v5 v6 : Value) (s : Sc) (w : World) (m : Int) (hmx : w.cell? ⟨2, 0, none⟩ = some (.int .i64 m)) (h : ScR w v0 v1 v5 v6 s) (hn : NumsOk s)
    (h0 : s.pats.length ≤ maxLen) (h1 : s.parts.length ≤ maxLen) (h5 : s.edits.length ≤ maxLen) (h6 : s.certs.length ≤ maxLen) (hl0 : ∀ x ∈ s.pats, x.length ≤ maxLen) (hl1 : ∀ x ∈ s.parts, x.length ≤ maxLen) :
    Calls Tryd.prog 4 #[scV v0 v1 v5 v6 s] w fun e w' => e = .returned (.bool true) ∧ Pure' w w' := by
  have HAw := Lib.hid (fun W (hW : Pure' w W) => awake43 W m (keepc hmx hW))
  have hfw := fun W (hW : Pure' w W) => fewS_ v0 v1 v5 v6 s W (h.pure hW) h0 h1 h5 h6 hl0 hl1
  have hsr := fun W (hW : Pure' w W) => h.pure hW
  obtain ⟨a0, k0, rfl, _⟩ := h.p0
  obtain ⟨a1, k1, rfl, _⟩ := h.p1
  obtain ⟨a5, k5, rfl, _⟩ := h.p5
  obtain ⟨a6, k6, rfl, _⟩ := h.p6
  obtain ⟨np, hnp⟩ : ∃ np, s.pats.length = np := ⟨_, rfl⟩
  obtain ⟨nq, hnq⟩ : ∃ nq, s.parts.length = nq := ⟨_, rfl⟩
  obtain ⟨ne, hne⟩ : ∃ ne, s.edits.length = ne := ⟨_, rfl⟩
  obtain ⟨nc, hnc⟩ : ∃ nc, s.certs.length = nc := ⟨_, rfl⟩
  rw [hnp, hnq, hne, hnc] at hfw hsr ⊢
  have HB := Lib.hid (Blk.new w 35 #[.slice a0 np k0, .slice a1 nq k1, .int .i64 s.table, .bool s.skip, .int .i64 s.every, .slice a5 ne k5, .slice a6 nc k6])
  have HP := Lib.hid ((Keeps.refl (fun _ => False) w).alloc (.cells #[.slice a0 np k0, .slice a1 nq k1, .int .i64 s.table, .bool s.skip, .int .i64 s.every, .slice a5 ne k5, .slice a6 nc k6] 35))
  cases hfe : fewS s with
  | false =>
    rw [hfe] at hfw
    have HFew := Lib.hid hfw
    clear hfw hfe hsr h hn hmx h0 h1 h5 h6 hl0 hl1 hnp hnq hne hnc
    unfold scV at HFew ⊢
    go_enter Tryd.func4, Tryd.ntmps4
    go_wp2_with (first
      | ((with_reducible refine at_op ⟨some 7, _, _, _, _, _⟩ ?_); refine wpList_load_row rfl 35 (.tmp 1) rfl w.heap.size rfl 35 #[.slice a0 np k0, .slice a1 nq k1, .int .i64 s.table, .bool s.skip, .int .i64 s.every, .slice a5 ne k5, .slice a6 nc k6] (0, 0) _ HB.out Tryd.underlying35 rfl (by kernel_rfl) ?_)
      | (go_at_call 11; refine (HFew.out _ HP.out).mono ?_; rintro e w1 ⟨rfl, hk⟩; have HK1 := Lib.hid (HP.out.then_ hk); clear hk)
      | (go_at_call 7; refine (HAw.out _ HK1.out).mono ?_; rintro e w2 ⟨rfl, hk⟩; have HK2 := Lib.hid (HK1.out.then_ hk); clear hk))
    go_ret
    exact ⟨rfl, HK2.out⟩
  | true =>
    rw [hfe] at hfw
    obtain ⟨⟨_, _, hf3, _⟩, _, _⟩ := few_parts hfe
    obtain ⟨pt, pe, cv, hp1, hp2, hp3, hp4⟩ := prints_all s hfe hn
    rw [hne] at hf3
    have HFew := Lib.hid (show ∀ W, Pure' w W → Calls Tryd.prog 11 #[.agg #[.slice a0 np k0, .slice a1 nq k1, .int .i64 s.table, .bool s.skip, .int .i64 s.every, .slice a5 ne k5, .slice a6 nc k6]] W fun e w' => e = .returned (.bool true) ∧ Pure' W w' from hfw)
    have HMine := Lib.hid (show ∀ W, Pure' w W → Calls Tryd.prog 13 #[.agg #[.slice a0 np k0, .slice a1 nq k1, .int .i64 s.table, .bool s.skip, .int .i64 s.every, .slice a5 ne k5, .slice a6 nc k6]] W fun e w' => ∃ u5, e = .returned (scV (.slice a0 np k0) (.slice a1 nq k1) u5 (.slice a6 nc k6) s) ∧ ScR w' (.slice a0 np k0) (.slice a1 nq k1) u5 (.slice a6 nc k6) s ∧ Pure' W w' from
      fun W hW => mine_ _ _ _ _ s W (hsr W hW) (by rw [hne]; exact hf3))
    have HPr := Lib.hid hp1
    have HRPr := Lib.hid (show ∀ W, Pure' w W → Calls Tryd.prog 14 #[.agg #[.slice a0 np k0, .slice a1 nq k1, .int .i64 s.table, .bool s.skip, .int .i64 s.every, .slice a5 ne k5, .slice a6 nc k6]] W fun e w' => e = .returned (.tuple #[.string ⟨pt.toArray⟩, .int .i64 pe]) ∧ Pure' W w' from fun W hW => hp2 _ _ _ _ W (hsr W hW))
    have HCh := Lib.hid hp3
    have HRCh := Lib.hid (show ∀ W, Pure' w W → Calls Tryd.prog 16 #[.agg #[.slice a0 np k0, .slice a1 nq k1, .int .i64 s.table, .bool s.skip, .int .i64 s.every, .slice a5 ne k5, .slice a6 nc k6]] W fun e w' => e = .returned (.bool cv) ∧ Pure' W w' from fun W hW => hp4 _ _ _ _ W (hsr W hW))
    clear hfw hfe hsr h hn hmx h0 h1 h5 h6 hl0 hl1 hnp hnq hne hnc hp1 hp2 hp3 hp4 hf3
    rw [show scV (.slice a0 np k0) (.slice a1 nq k1) (.slice a5 ne k5) (.slice a6 nc k6) s = .agg #[.slice a0 np k0, .slice a1 nq k1, .int .i64 s.table, .bool s.skip, .int .i64 s.every, .slice a5 ne k5, .slice a6 nc k6] from rfl]
    go_enter Tryd.func4, Tryd.ntmps4
    go_wp2_with (first
      | ((with_reducible refine at_op ⟨some 7, _, _, _, _, _⟩ ?_); refine wpList_load_row rfl 35 (.tmp 1) rfl w.heap.size rfl 35 #[.slice a0 np k0, .slice a1 nq k1, .int .i64 s.table, .bool s.skip, .int .i64 s.every, .slice a5 ne k5, .slice a6 nc k6] (0, 0) _ HB.out Tryd.underlying35 rfl (by kernel_rfl) ?_)
      | (go_at_call 11; refine (HFew.out _ HP.out).mono ?_; rintro e w1 ⟨rfl, hk⟩; have HK1 := Lib.hid (HP.out.then_ hk); have HB1 := Lib.hid (HB.out.keep hk (fun hf => hf)); clear hk)
      | ((with_reducible refine at_op ⟨some 12, _, _, _, _, _⟩ ?_); refine wpList_load_row rfl 35 (.tmp 1) rfl w.heap.size rfl 35 #[.slice a0 np k0, .slice a1 nq k1, .int .i64 s.table, .bool s.skip, .int .i64 s.every, .slice a5 ne k5, .slice a6 nc k6] (0, 0) _ HB1.out Tryd.underlying35 rfl (by kernel_rfl) ?_)
      | (go_at_call 13; refine (HMine.out _ HK1.out).mono ?_; rintro e w2 ⟨u5, rfl, hs, hk⟩; have HS2 := Lib.hid hs; have HK2 := Lib.hid (HK1.out.then_ hk); have HB2 := Lib.hid (HB1.out.keep hk (fun hf => hf)); clear hk hs)
      | (go_at_call 12; refine (HPr.out _ _ _ _ _ HS2.out).mono ?_; rintro e w3 ⟨rfl, hk⟩; have HK3 := Lib.hid (HK2.out.then_ hk); have HB3 := Lib.hid (HB2.out.keep hk (fun hf => hf)); clear hk)
      | ((with_reducible refine at_op ⟨some 18, _, _, _, _, _⟩ ?_); refine wpList_load_row rfl 35 (.tmp 1) rfl w.heap.size rfl 35 #[.slice a0 np k0, .slice a1 nq k1, .int .i64 s.table, .bool s.skip, .int .i64 s.every, .slice a5 ne k5, .slice a6 nc k6] (0, 0) _ HB3.out Tryd.underlying35 rfl (by kernel_rfl) ?_)
      | (go_at_call 14; refine (HRPr.out _ HK3.out).mono ?_; rintro e w4 ⟨rfl, hk⟩; have HK4 := Lib.hid (HK3.out.then_ hk); have HB4 := Lib.hid (HB3.out.keep hk (fun hf => hf)); clear hk))
    refine wp_region_held_drew (S := (fun W => Pure' w4 W)) (by kernel_rfl) ((Keeps.refl _ w4).drew) (fun hHeld => ?_)
    have HH := Lib.hid hHeld
    clear hHeld
    refine wpAnyH_take (i := 0) (oi := ⟨some 22, .move (.tmp 3), _, _, _, _⟩) (v := ?vv1) rfl (by kernel_rfl) (by kernel_rfl) (by kernel_rfl) (fun _ _ _ h => h) (Or.inl ⟨by rfl, ?hy1⟩) HH.out ?rr1
    case hy1 => intro W hSw; go_simp; try with_reducible rfl
    try simp only [Act.put, List.setIfInBounds_toArray, List.set_cons_zero, List.set_cons_succ]
    refine wpAnyH_take (i := 1) (oi := ⟨some 23, .move (.tmp 5), _, _, _, _⟩) (v := ?vv2) rfl (by kernel_rfl) (by kernel_rfl) (by kernel_rfl) (fun _ _ _ h => h) (Or.inl ⟨by rfl, ?hy2⟩) HH.out ?rr2
    case hy2 => intro W hSw; go_simp; try with_reducible rfl
    try simp only [Act.put, List.setIfInBounds_toArray, List.set_cons_zero, List.set_cons_succ]
    refine wpAnyH_take (i := 2) (oi := ⟨some 24, .binOp .eql 9 (.tmp 22) (.tmp 23) 9, _, _, _, _⟩) (v := ?vv3) rfl (by kernel_rfl) (by kernel_rfl) (by kernel_rfl) (fun _ _ _ h => h) (Or.inl ⟨by rfl, ?hy3⟩) HH.out ?rr3
    case hy3 => intro W hSw; go_simp; try with_reducible rfl
    try simp only [Act.put, List.setIfInBounds_toArray, List.set_cons_zero, List.set_cons_succ]
    refine wpAnyH_take (i := 3) (oi := ⟨some 25, .move (.tmp 24), _, _, _, _⟩) (v := ?vv4) rfl (by kernel_rfl) (by kernel_rfl) (by kernel_rfl) (fun _ _ _ h => h) (Or.inl ⟨by rfl, ?hy4⟩) HH.out ?rr4
    case hy4 => intro W hSw; go_simp; try with_reducible rfl
    try simp only [Act.put, List.setIfInBounds_toArray, List.set_cons_zero, List.set_cons_succ]
    refine wpAnyH_take (i := 4) (oi := ⟨some 26, .move (.tmp 4), _, _, _, _⟩) (v := ?vv5) rfl (by kernel_rfl) (by kernel_rfl) (by kernel_rfl) (fun _ _ _ h => h) (Or.inl ⟨by rfl, ?hy5⟩) HH.out ?rr5
    case hy5 => intro W hSw; go_simp; try with_reducible rfl
    try simp only [Act.put, List.setIfInBounds_toArray, List.set_cons_zero, List.set_cons_succ]
    refine wpAnyH_take (i := 5) (oi := ⟨some 27, .move (.tmp 6), _, _, _, _⟩) (v := ?vv6) rfl (by kernel_rfl) (by kernel_rfl) (by kernel_rfl) (fun _ _ _ h => h) (Or.inl ⟨by rfl, ?hy6⟩) HH.out ?rr6
    case hy6 => intro W hSw; go_simp; try with_reducible rfl
    try simp only [Act.put, List.setIfInBounds_toArray, List.set_cons_zero, List.set_cons_succ]
    refine wpAnyH_take (i := 6) (oi := ⟨some 28, .binOp .eql 30 (.tmp 26) (.tmp 27) 30, _, _, _, _⟩) (v := ?vv7) rfl (by kernel_rfl) (by kernel_rfl) (by kernel_rfl) (fun _ _ _ h => h) (Or.inl ⟨by rfl, ?hy7⟩) HH.out ?rr7
    case hy7 => intro W hSw; go_simp; try with_reducible rfl
    try simp only [Act.put, List.setIfInBounds_toArray, List.set_cons_zero, List.set_cons_succ]
    refine wpAnyH_take (i := 7) (oi := ⟨some 29, .pick (.tmp 25) (.tmp 28) (.const (.bool false)), _, _, _, _⟩) (v := ?vv8) rfl (by kernel_rfl) (by kernel_rfl) (by kernel_rfl) (fun _ _ _ h => h) (Or.inl ⟨by rfl, ?hy8⟩) HH.out ?rr8
    case hy8 => intro W hSw; go_simp; try with_reducible rfl
    try simp only [Act.put, List.setIfInBounds_toArray, List.set_cons_zero, List.set_cons_succ]
    refine wpAnyH_take (i := 8) (oi := ⟨some 30, .move (.tmp 29), _, _, _, _⟩) (v := ?vv9) rfl (by kernel_rfl) (by kernel_rfl) (by kernel_rfl) (fun _ _ _ h => h) (Or.inl ⟨by rfl, ?hy9⟩) HH.out ?rr9
    case hy9 => intro W hSw; go_simp; try with_reducible rfl
    try simp only [Act.put, List.setIfInBounds_toArray, List.set_cons_zero, List.set_cons_succ]
    refine wpAnyH_take (i := 9) (oi := ⟨some 31, .load 35 (.tmp 1), _, _, _, _⟩) (v := ?vv10) rfl (by kernel_rfl) (by kernel_rfl) (by kernel_rfl) (fun _ _ _ h => h) (Or.inl ⟨by rfl, ?hy10⟩) HH.out ?rr10
    case hy10 => intro W hSw; have y := HB4.out.keep hSw (fun hf => hf); have y0 := y.cell 0; have y1 := y.cell 1; have y2 := y.cell 2; have y3 := y.cell 3; have y4 := y.cell 4; have y5 := y.cell 5; have y6 := y.cell 6; go_simp; try with_reducible rfl
    try simp only [Act.put, List.setIfInBounds_toArray, List.set_cons_zero, List.set_cons_succ]
    refine wpAnyH_take (i := 12) (oi := ⟨some 34, .load 35 (.tmp 1), _, _, _, _⟩) (v := ?vv11) rfl (by kernel_rfl) (by kernel_rfl) (by kernel_rfl) (fun _ _ _ h => h) (Or.inl ⟨by rfl, ?hy11⟩) HH.out ?rr11
    case hy11 => intro W hSw; have y := HB4.out.keep hSw (fun hf => hf); have y0 := y.cell 0; have y1 := y.cell 1; have y2 := y.cell 2; have y3 := y.cell 3; have y4 := y.cell 4; have y5 := y.cell 5; have y6 := y.cell 6; go_simp; try with_reducible rfl
    try simp only [Act.put, List.setIfInBounds_toArray, List.set_cons_zero, List.set_cons_succ]
    refine wpAnyH_ready (rs := [10]) (by kernel_rfl) (by simp) ?_
    refine AllReadyH.cons (o := ⟨some 32, .call { callee := .value (.func 13), args := #[.tmp 31], argTypes := #[35] }, _, _, _, _⟩) rfl (fun K hK => ?_) AllReadyH.nil
    go_simp
    go_at_call 13
    refine (HMine.out _ HK4.out.drew).mono ?_
    rintro e w5 ⟨u6, rfl, hs, hk⟩
    have HS5 := Lib.hid hs
    have HK5 := Lib.hid hk
    clear hk hs
    go_wp2_with fail
    refine hK.out _ _ ((Keeps.refl _ w4).drew.then_ HK5.out) (fun hHeld => ?_)
    have HH := Lib.hid hHeld
    clear hHeld hK K
    try simp only [Act.put, List.setIfInBounds_toArray, List.set_cons_zero, List.set_cons_succ]
    refine wpAnyH_ready (rs := [11]) (by kernel_rfl) (by simp) ?_
    refine AllReadyH.cons (o := ⟨some 33, .call { callee := .value (.func 15), args := #[.tmp 32], argTypes := #[29] }, _, _, _, _⟩) rfl (fun K hK => ?_) AllReadyH.nil
    go_simp
    go_at_call 15
    refine (HCh.out _ _ _ _ _ HS5.out).mono ?_
    rintro e w6 ⟨rfl, hk⟩
    have HK6 := Lib.hid hk
    clear hk
    go_wp2_with fail
    refine hK.out _ _ (HH.out.then_ HK6.out) (fun hHeld => ?_)
    have HH := Lib.hid hHeld
    clear hHeld hK K
    try simp only [Act.put, List.setIfInBounds_toArray, List.set_cons_zero, List.set_cons_succ]
    refine wpAnyH_ready (rs := [13]) (by kernel_rfl) (by simp) ?_
    refine AllReadyH.cons (o := ⟨some 35, .call { callee := .value (.func 16), args := #[.tmp 34], argTypes := #[35] }, _, _, _, _⟩) rfl (fun K hK => ?_) AllReadyH.nil
    go_simp
    go_at_call 16
    refine (HRCh.out _ (HK4.out.then_ HH.out)).mono ?_
    rintro e w7 ⟨rfl, hk⟩
    have HK7 := Lib.hid hk
    clear hk
    go_wp2_with fail
    refine hK.out _ _ (HH.out.then_ HK7.out) (fun hHeld => ?_)
    have HH := Lib.hid hHeld
    clear hHeld hK K
    try simp only [Act.put, List.setIfInBounds_toArray, List.set_cons_zero, List.set_cons_succ]
    refine wpAnyH_take (i := 14) (oi := ⟨some 36, .binOp .eql 4 (.tmp 33) (.tmp 35) 4, _, _, _, _⟩) (v := ?vv12) rfl (by kernel_rfl) (by kernel_rfl) (by kernel_rfl) (fun _ _ _ h => h) (Or.inl ⟨by rfl, ?hy12⟩) HH.out ?rr12
    case hy12 => intro W hSw; go_simp; try with_reducible rfl
    try simp only [Act.put, List.setIfInBounds_toArray, List.set_cons_zero, List.set_cons_succ]
    refine wpAnyH_take (i := 15) (oi := ⟨some 37, .pick (.tmp 30) (.tmp 36) (.const (.bool false)), _, _, _, _⟩) (v := ?vv13) rfl (by kernel_rfl) (by kernel_rfl) (by kernel_rfl) (fun _ _ _ h => h) (Or.inl ⟨by rfl, ?hy13⟩) HH.out ?rr13
    case hy13 => intro W hSw; go_simp; try with_reducible rfl
    try simp only [Act.put, List.setIfInBounds_toArray, List.set_cons_zero, List.set_cons_succ]
    refine wpAnyH_take (i := 16) (oi := ⟨some 38, .move (.tmp 37), _, _, _, _⟩) (v := ?vv14) rfl (by kernel_rfl) (by kernel_rfl) (by kernel_rfl) (fun _ _ _ h => h) (Or.inl ⟨by rfl, ?hy14⟩) HH.out ?rr14
    case hy14 => intro W hSw; go_simp; try with_reducible rfl
    try simp only [Act.put, List.setIfInBounds_toArray, List.set_cons_zero, List.set_cons_succ]
    refine wpAnyH_ready (rs := [17]) (by kernel_rfl) (by simp) ?_
    refine AllReadyH.cons (o := ⟨some 39, .call { callee := .value (.func 7), args := #[], argTypes := #[] }, _, _, _, _⟩) rfl (fun K hK => ?_) AllReadyH.nil
    go_simp
    go_at_call 7
    refine (HAw.out _ (HK4.out.then_ HH.out)).mono ?_
    rintro e w8 ⟨rfl, hk⟩
    have HK8 := Lib.hid hk
    clear hk
    go_wp2_with fail
    refine hK.out _ _ (HH.out.then_ HK8.out) (fun hHeld => ?_)
    have HH := Lib.hid hHeld
    clear hHeld hK K
    try simp only [Act.put, List.setIfInBounds_toArray, List.set_cons_zero, List.set_cons_succ]
    refine wpAnyH_take (i := 18) (oi := ⟨some 40, .pick (.tmp 38) (.tmp 39) (.const (.bool false)), _, _, _, _⟩) (v := ?vv15) rfl (by kernel_rfl) (by kernel_rfl) (by kernel_rfl) (fun _ _ _ h => h) (Or.inl ⟨by rfl, ?hy15⟩) HH.out ?rr15
    case hy15 => intro W hSw; go_simp; try with_reducible rfl
    try simp only [Act.put, List.setIfInBounds_toArray, List.set_cons_zero, List.set_cons_succ]
    refine wpAnyH_take (i := 19) (oi := ⟨some 2, .assign (.tmp 40), _, _, _, _⟩) (v := ?vv16) rfl (by kernel_rfl) (by kernel_rfl) (by kernel_rfl) (fun _ _ _ h => h) (Or.inl ⟨by rfl, ?hy16⟩) HH.out ?rr16
    case hy16 => intro W hSw; go_simp; try with_reducible rfl
    try simp only [Act.put, List.setIfInBounds_toArray, List.set_cons_zero, List.set_cons_succ]
    have HZ := Lib.hid (HK4.out.then_ HH.out)
    refine wpAnyH_done (by kernel_rfl) ?_ _
    go_wp2_with fail
    go_ret
    exact ⟨rfl, HZ.out⟩

end Go.Proofs.YtjcjmjnajhkdaaaDoor
