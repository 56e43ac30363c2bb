/- How the reference takes a line: scan; no condition but the sizes. -/
import Derived.Test.YtjcjmjnajhkdaaaDoorScrG
namespace Go.Proofs.YtjcjmjnajhkdaaaDoor
open Go.RowKit
set_option linter.unusedVariables false
set_option linter.unusedSimpArgs false
set_option maxRecDepth 100000

theorem Blk.seven {W : World} {H : Nat} {t : TypeId} {d0 d1 d2 d3 d4 d5 d6 : Value} (h : Blk W H t #[d0, d1, d2, d3, d4, d5, d6]) (c0 c1 c2 c3 c4 c5 c6 : Value) : Blk (((((((W.setCell ⟨H, 0, none⟩ c0).setCell ⟨H, 1, none⟩ c1).setCell ⟨H, 2, none⟩ c2).setCell ⟨H, 3, none⟩ c3).setCell ⟨H, 4, none⟩ c4).setCell ⟨H, 5, none⟩ c5).setCell ⟨H, 6, none⟩ c6) H t #[c0, c1, c2, c3, c4, c5, c6] :=
  (((((((h.set_ 0 c0).set_ 1 c1).set_ 2 c2).set_ 3 c3).set_ 4 c4).set_ 5 c5).set_ 6 c6).to (by simp)
theorem Keeps.seven {S : Nat → Prop} {w W : World} (h : Keeps S w W) {H : Nat} (hH : w.heap.size ≤ H) (c0 c1 c2 c3 c4 c5 c6 : Value) : Keeps S w (((((((W.setCell ⟨H, 0, none⟩ c0).setCell ⟨H, 1, none⟩ c1).setCell ⟨H, 2, none⟩ c2).setCell ⟨H, 3, none⟩ c3).setCell ⟨H, 4, none⟩ c4).setCell ⟨H, 5, none⟩ c5).setCell ⟨H, 6, none⟩ c6) := by
  have hs : ∀ {X : World} (i : Nat) (u : Value), Keeps S w X → Keeps S w (X.setCell ⟨H, i, none⟩ u) := fun i u hX => hX.setCell (p := ⟨H, i, none⟩) (.inr hH) u
  exact hs 6 c6 (hs 5 c5 (hs 4 c4 (hs 3 c3 (hs 2 c2 (hs 1 c1 (hs 0 c0 h))))))
theorem place_pos {l : List (List UInt8)} {a : List UInt8} : (0 < placeZ l a ↔ 0 < idx l a) ∧ (0 < idx l a → placeZ l a = idx l a) := by
  unfold placeZ
  refine ⟨?_, fun h => if_pos h⟩
  split <;> omega
theorem lineV_scan4 (s : Sc) (sc cc : Bool) (b c d : List UInt8) : lineV s sc cc [wScan, b, c, d] = if (parseV d 1 4611686018427387903).2 = 0 ∧ 0 < placeZ tabW b ∧ (c = wSkip ∨ c = wStep) ∧ sc = false then some ({ s with table := placeZ tabW b, skip := decide (c = wSkip), every := (parseV d 1 4611686018427387903).1 }, true, cc) else none := by
  unfold lineV
  dsimp only
  rw [if_pos rfl]
  by_cases hq : (parseV d 1 4611686018427387903).2 = 0 ∧ 0 < idx tabW b ∧ (c = wSkip ∨ c = wStep) ∧ sc = false
  · rw [if_pos hq, if_pos ⟨hq.1, place_pos.1.2 hq.2.1, hq.2.2⟩, place_pos.2 hq.2.1]
  · rw [if_neg hq, if_neg (fun h => hq ⟨h.1, place_pos.1.1 h.2.1, h.2.2⟩)]

set_option maxHeartbeats 2000000 in
theorem rline_scan (s : Sc) (a0 a1 a5 a6 : Option Addr) (n0 n1 n5 n6 k0 k1 k5 k6 : Nat) (sc cc : Bool) (g c : Nat) (b cw d : List UInt8) (w : World) (h : ScR w (.slice a0 n0 k0) (.slice a1 n1 k1) (.slice a5 n5 k5) (.slice a6 n6 k6) s) (c0 : w.cell? ⟨g, 0, none⟩ = some (.string ⟨#[115, 99, 97, 110]⟩)) (c1 : w.cell? ⟨g, 1, none⟩ = some (.string ⟨b.toArray⟩)) (c2 : w.cell? ⟨g, 2, none⟩ = some (.string ⟨cw.toArray⟩)) (c3 : w.cell? ⟨g, 3, none⟩ = some (.string ⟨d.toArray⟩)) (hl : d.length ≤ 100000) (hb : b ≠ []) :
    Calls Tryd.prog 22 #[scV (.slice a0 n0 k0) (.slice a1 n1 k1) (.slice a5 n5 k5) (.slice a6 n6 k6) s, .slice (some ⟨g, 0, none⟩) 4 c, .bool sc, .bool cc] w fun e w' => RLine (.slice a0 n0 k0) (.slice a1 n1 k1) (.slice a5 n5 k5) (.slice a6 n6 k6) (lineV s sc cc [wScan, b, cw, d]) w e w' := by
  rw [lineV_scan4]
  obtain ⟨pv, hpv⟩ : ∃ pv, parseV d 1 4611686018427387903 = pv := ⟨_, rfl⟩
  obtain ⟨z, er⟩ := pv
  have hp := fun w => rparse_ d 1 4611686018427387903 w (by omega) (by decide) (by decide)
  have hpr : parseR d 1 4611686018427387903 = .tuple #[.int .i64 z, .int .i64 er] := by unfold parseR; rw [hpv]
  rw [hpr] at hp
  rw [hpv]
  dsimp only
  obtain ⟨tk, htk⟩ : ∃ tk, placeZ tabW b = tk := ⟨_, rfl⟩
  have HPL := Lib.hid (fun A c B w (hs : Sees w B 1 A 4 (strVs tabW)) => htk ▸ place_ A 4 c B tabW b w hs (by decide) (by decide) (fun e => hb (by simpa [tabW] using e.symm)))
  rw [htk]
  have HT := Lib.hid rtable_
  have HP := Lib.hid hp
  have HR := Lib.hid h
  obtain ⟨sk, hsk⟩ : ∃ sk : Bool, decide (cw = wSkip) = sk := ⟨_, rfl⟩
  obtain ⟨sq, hsq⟩ : ∃ sq : Bool, decide (cw = wStep) = sq := ⟨_, rfl⟩
  obtain ⟨o, ho⟩ : ∃ o, (if er = 0 ∧ 0 < tk ∧ (cw = wSkip ∨ cw = wStep) ∧ sc = false then some ({ s with table := tk, skip := decide (cw = wSkip), every := z }, true, cc) else none) = o := ⟨_, rfl⟩
  have HQ := Lib.hid (show ((er = 0 ∧ 0 < tk ∧ (sk = true ∨ sq = true) ∧ sc = false) ∧ o = some ({ s with table := tk, skip := sk, every := z }, true, cc)) ∨ (¬ (er = 0 ∧ 0 < tk ∧ (sk = true ∨ sq = true) ∧ sc = false) ∧ o = none) by
    subst ho; subst hsk; subst hsq
    simp only [decide_eq_true_eq]
    by_cases hc : er = 0 ∧ 0 < tk ∧ (cw = wSkip ∨ cw = wStep) ∧ sc = false
    · exact .inl ⟨hc, if_pos hc⟩
    · exact .inr ⟨hc, if_neg hc⟩)
  rw [ho]
  have q2 : (cw == [115, 107, 105, 112]) = sk := by rw [← hsk, Bool.eq_iff_iff, decide_eq_true_iff, beq_iff_eq]; exact Iff.rfl
  have q3 : (cw == [115, 116, 101, 112]) = sq := by rw [← hsq, Bool.eq_iff_iff, decide_eq_true_iff, beq_iff_eq]; exact Iff.rfl
  unfold scV
  have HV := Lib.hid (RV.start w (.slice a0 n0 k0) (.slice a1 n1 k1) (.slice a5 n5 k5) (.slice a6 n6 k6) s)
  have HCs := Lib.hid (fun W (hW : Pure' w W) => (⟨keepc c0 hW, keepc c1 hW, keepc c2 hW, keepc c3 hW⟩ : W.cell? ⟨g, 0, none⟩ = _ ∧ W.cell? ⟨g, 1, none⟩ = _ ∧ W.cell? ⟨g, 2, none⟩ = _ ∧ W.cell? ⟨g, 3, none⟩ = _))
  obtain ⟨e0, e1, e2, e3⟩ := HCs.out _ HV.out.low
  clear hp hpv hpr ho hsk hsq htk h c0 c1 c2 c3 hb hl
  have hlt : w.heap.size + 1 < w.heap.size + 2 := by omega
  go_enter Tryd.func22, Tryd.ntmps22
  go_upto_region 9 with (go_at_call 47; refine (HP.out _).mono ?_; rintro e w1 ⟨rfl, hk⟩; have HV1 := Lib.hid (hk ▸ HV.out); clear hk HV HP)
  obtain ⟨d0, d1, d2, d3⟩ := HCs.out _ HV1.out.low
  clear e0 e1 e2 e3
  have hl1 := HV1.out.b1.lt
  go_cut [92] (fun s92 wx => Blk wx w.heap.size 35 #[(.slice a0 n0 k0), (.slice a1 n1 k1), (.int .i64 tk), (.bool sk), (.int .i64 z), (.slice a5 n5 k5), (.slice a6 n6 k6)] ∧ Blk wx (w.heap.size + 1) 35 #[.slice none 0 0, .slice none 0 0, .int .i64 0, .bool false, .int .i64 0, .slice none 0 0, .slice none 0 0] ∧ Pure' w wx)
  case first =>
    go_region_with (first
      | (go_at_call 29; refine (HT.out _).mono ?_; rintro e w2 ⟨A2, cc2, rfl, hs2, hk2⟩; have HS2 := Lib.hid hs2; have HV2 := Lib.hid (HV1.out.drew.pure hk2); obtain ⟨m0, m1, m2, m3⟩ := HCs.out w2 HV2.out.low; have x2 := HV2.out.b0.cell 2; have x3 := HV2.out.b0.cell 3; have x4 := HV2.out.b0.cell 4; have y2 := HV2.out.b0.frozen 2; have y3 := HV2.out.b0.frozen 3; have y4 := HV2.out.b0.frozen 4; clear hs2 hk2)
      | (go_at_call 48; refine (HPL.out _ _ _ _ HS2.out).mono ?_; rintro e w3 ⟨rfl, rfl⟩))
    all_goals
      go_wp2_with fail
      go_meet
      exact ⟨(((HV2.out.b0.set_ 2 (.int .i64 tk)).set_ 3 (.bool sk)).set_ 4 (.int .i64 z)).to (cs' := #[(.slice a0 n0 k0), (.slice a1 n1 k1), (.int .i64 tk), (.bool sk), (.int .i64 z), (.slice a5 n5 k5), (.slice a6 n6 k6)]) rfl, (((HV2.out.b1.off (b := w.heap.size) (i := 2) (u := .int .i64 tk) (by omega)).off (b := w.heap.size) (i := 3) (u := .bool sk) (by omega)).off (b := w.heap.size) (i := 4) (u := .int .i64 z) (by omega)), (((HV2.out.low.setCell (p := ⟨w.heap.size, 2, none⟩) (.inr (Nat.le_refl _)) (.int .i64 tk)).setCell (p := ⟨w.heap.size, 3, none⟩) (.inr (Nat.le_refl _)) (.bool sk)).setCell (p := ⟨w.heap.size, 4, none⟩) (.inr (Nat.le_refl _)) (.int .i64 z))⟩
  case rest =>
    obtain ⟨f0, f1, f2⟩ := hcut
    have F0 := Lib.hid f0
    have F1 := Lib.hid f1
    have F2 := Lib.hid f2
    have ONE := Lib.hid (show (#[(.slice a0 n0 k0), (.slice a1 n1 k1), (.int .i64 tk), (.bool sk), (.int .i64 z), (.slice a5 n5 k5), (.slice a6 n6 k6)] : Array Value).all (·.oneCell') = true by simp [Value.oneCell'])
    clear f0 f1 f2 d0 d1 d2 d3 hl1 HV1
    obtain ⟨d0, d1, d2, d3⟩ := HCs.out _ F2.out
    have x0 := F0.out.cell 0
    have x1 := F0.out.cell 1
    have x2 := F0.out.cell 2
    have x3 := F0.out.cell 3
    have x4 := F0.out.cell 4
    have x5 := F0.out.cell 5
    have x6 := F0.out.cell 6
    have o0 := F1.out.cell
    have p0 := F1.out.frozen
    clear d0 d1 d3
    have hcases : (er ≠ 0) ∨ (er = 0 ∧ ¬ 0 < tk) ∨ (er = 0 ∧ 0 < tk ∧ sk = true) ∨ (er = 0 ∧ 0 < tk ∧ sk = false ∧ sq = true) ∨ (er = 0 ∧ 0 < tk ∧ sk = false ∧ sq = false) := by
      by_cases h1 : er = 0
      · by_cases h2 : 0 < tk
        · cases sk <;> cases sq <;> simp [h1, h2]
        · exact .inr (.inl ⟨h1, h2⟩)
      · exact .inl h1
    rcases hcases with h1 | ⟨rfl, h2⟩ | ⟨rfl, h2, rfl⟩ | ⟨rfl, h2, rfl, rfl⟩ | ⟨rfl, h2, rfl, rfl⟩
    · have q1 : (er == 0) = false := by simpa using h1
      clear h1
      go_wp2
      go_region
      all_goals
        clear o0 p0 x0 x1 x2 x3 x4 x5 x6
        go_wp2
        refine rline_end (H := w.heap.size + 1) rfl rfl rfl ((F1.out.seven (.slice a0 n0 k0) (.slice a1 n1 k1) (.int .i64 tk) (.bool sk) (.int .i64 z) (.slice a5 n5 k5) (.slice a6 n6 k6)).drew) rfl ?_
        have hpl := (F2.out.seven (H := w.heap.size + 1) (by omega) (.slice a0 n0 k0) (.slice a1 n1 k1) (.int .i64 tk) (.bool sk) (.int .i64 z) (.slice a5 n5 k5) (.slice a6 n6 k6)).drew
        refine ⟨hpl, a0, n0, k0, a1, n1, k1, a5, n5, k5, a6, n6, k6, { s with table := tk, skip := sk, every := z }, ?_, ?_⟩
        · rcases HQ.out with ⟨⟨e1, e2, e3, e4⟩, rfl⟩ | ⟨e1, rfl⟩
          · first
              | (subst e4; rfl)
              | (exfalso; first | omega | (simp_all; done))
          · first
              | rfl
              | (have hcc : sc = true := by
                   cases sc with
                   | true => rfl
                   | false => exact (e1 (by simp [h2])).elim
                 subst hcc
                 rfl)
        · intro r hr
          rcases HQ.out with ⟨⟨e1, e2, e3, e4⟩, rfl⟩ | ⟨e1, rfl⟩
          · injection hr with hr
            subst hr
            have hR := HR.out.pure hpl
            exact ⟨rfl, ⟨hR.p0, hR.p1, hR.p5, hR.p6⟩, fun F _ hP => hP⟩
          · cases hr
    · have q1 : decide (0 < tk) = false := by simpa using h2
      go_wp2
      go_region
      all_goals
        clear o0 p0 x0 x1 x2 x3 x4 x5 x6
        go_wp2
        refine rline_end (H := w.heap.size + 1) rfl rfl rfl ((F1.out.seven (.slice a0 n0 k0) (.slice a1 n1 k1) (.int .i64 tk) (.bool sk) (.int .i64 z) (.slice a5 n5 k5) (.slice a6 n6 k6)).drew) rfl ?_
        have hpl := (F2.out.seven (H := w.heap.size + 1) (by omega) (.slice a0 n0 k0) (.slice a1 n1 k1) (.int .i64 tk) (.bool sk) (.int .i64 z) (.slice a5 n5 k5) (.slice a6 n6 k6)).drew
        refine ⟨hpl, a0, n0, k0, a1, n1, k1, a5, n5, k5, a6, n6, k6, { s with table := tk, skip := sk, every := z }, ?_, ?_⟩
        · rcases HQ.out with ⟨⟨e1, e2, e3, e4⟩, rfl⟩ | ⟨e1, rfl⟩
          · first
              | (subst e4; rfl)
              | (exfalso; first | omega | (simp_all; done))
          · first
              | rfl
              | (have hcc : sc = true := by
                   cases sc with
                   | true => rfl
                   | false => exact (e1 (by simp [h2])).elim
                 subst hcc
                 rfl)
        · intro r hr
          rcases HQ.out with ⟨⟨e1, e2, e3, e4⟩, rfl⟩ | ⟨e1, rfl⟩
          · injection hr with hr
            subst hr
            have hR := HR.out.pure hpl
            exact ⟨rfl, ⟨hR.p0, hR.p1, hR.p5, hR.p6⟩, fun F _ hP => hP⟩
          · cases hr
    · have q1 : decide (0 < tk) = true := by simpa using h2
      go_wp2
      go_region
      all_goals
        clear o0 p0 x0 x1 x2 x3 x4 x5 x6
        go_wp2
        refine rline_end (H := w.heap.size + 1) rfl rfl rfl ((F1.out.seven (.slice a0 n0 k0) (.slice a1 n1 k1) (.int .i64 tk) (.bool true) (.int .i64 z) (.slice a5 n5 k5) (.slice a6 n6 k6)).drew) rfl ?_
        have hpl := (F2.out.seven (H := w.heap.size + 1) (by omega) (.slice a0 n0 k0) (.slice a1 n1 k1) (.int .i64 tk) (.bool true) (.int .i64 z) (.slice a5 n5 k5) (.slice a6 n6 k6)).drew
        refine ⟨hpl, a0, n0, k0, a1, n1, k1, a5, n5, k5, a6, n6, k6, { s with table := tk, skip := true, every := z }, ?_, ?_⟩
        · rcases HQ.out with ⟨⟨e1, e2, e3, e4⟩, rfl⟩ | ⟨e1, rfl⟩
          · first
              | (subst e4; rfl)
              | (exfalso; first | omega | (simp_all; done))
          · first
              | rfl
              | (have hcc : sc = true := by
                   cases sc with
                   | true => rfl
                   | false => exact (e1 (by simp [h2])).elim
                 subst hcc
                 rfl)
        · intro r hr
          rcases HQ.out with ⟨⟨e1, e2, e3, e4⟩, rfl⟩ | ⟨e1, rfl⟩
          · injection hr with hr
            subst hr
            have hR := HR.out.pure hpl
            exact ⟨rfl, ⟨hR.p0, hR.p1, hR.p5, hR.p6⟩, fun F _ hP => hP⟩
          · cases hr
    · have q1 : decide (0 < tk) = true := by simpa using h2
      go_wp2
      go_region
      all_goals
        clear o0 p0 x0 x1 x2 x3 x4 x5 x6
        go_wp2
        refine rline_end (H := w.heap.size + 1) rfl rfl rfl ((F1.out.seven (.slice a0 n0 k0) (.slice a1 n1 k1) (.int .i64 tk) (.bool false) (.int .i64 z) (.slice a5 n5 k5) (.slice a6 n6 k6)).drew) rfl ?_
        have hpl := (F2.out.seven (H := w.heap.size + 1) (by omega) (.slice a0 n0 k0) (.slice a1 n1 k1) (.int .i64 tk) (.bool false) (.int .i64 z) (.slice a5 n5 k5) (.slice a6 n6 k6)).drew
        refine ⟨hpl, a0, n0, k0, a1, n1, k1, a5, n5, k5, a6, n6, k6, { s with table := tk, skip := false, every := z }, ?_, ?_⟩
        · rcases HQ.out with ⟨⟨e1, e2, e3, e4⟩, rfl⟩ | ⟨e1, rfl⟩
          · first
              | (subst e4; rfl)
              | (exfalso; first | omega | (simp_all; done))
          · first
              | rfl
              | (have hcc : sc = true := by
                   cases sc with
                   | true => rfl
                   | false => exact (e1 (by simp [h2])).elim
                 subst hcc
                 rfl)
        · intro r hr
          rcases HQ.out with ⟨⟨e1, e2, e3, e4⟩, rfl⟩ | ⟨e1, rfl⟩
          · injection hr with hr
            subst hr
            have hR := HR.out.pure hpl
            exact ⟨rfl, ⟨hR.p0, hR.p1, hR.p5, hR.p6⟩, fun F _ hP => hP⟩
          · cases hr
    · have q1 : decide (0 < tk) = true := by simpa using h2
      go_wp2
      go_region
      all_goals
        clear o0 p0 x0 x1 x2 x3 x4 x5 x6
        go_wp2
        refine rline_end (H := w.heap.size + 1) rfl rfl rfl ((F1.out.seven (.slice a0 n0 k0) (.slice a1 n1 k1) (.int .i64 tk) (.bool false) (.int .i64 z) (.slice a5 n5 k5) (.slice a6 n6 k6)).drew) rfl ?_
        have hpl := (F2.out.seven (H := w.heap.size + 1) (by omega) (.slice a0 n0 k0) (.slice a1 n1 k1) (.int .i64 tk) (.bool false) (.int .i64 z) (.slice a5 n5 k5) (.slice a6 n6 k6)).drew
        refine ⟨hpl, a0, n0, k0, a1, n1, k1, a5, n5, k5, a6, n6, k6, { s with table := tk, skip := false, every := z }, ?_, ?_⟩
        · rcases HQ.out with ⟨⟨e1, e2, e3, e4⟩, rfl⟩ | ⟨e1, rfl⟩
          · first
              | (subst e4; rfl)
              | (exfalso; first | omega | (simp_all; done))
          · first
              | rfl
              | (have hcc : sc = true := by
                   cases sc with
                   | true => rfl
                   | false => exact (e1 (by simp [h2])).elim
                 subst hcc
                 rfl)
        · intro r hr
          rcases HQ.out with ⟨⟨e1, e2, e3, e4⟩, rfl⟩ | ⟨e1, rfl⟩
          · injection hr with hr
            subst hr
            have hR := HR.out.pure hpl
            exact ⟨rfl, ⟨hR.p0, hR.p1, hR.p5, hR.p6⟩, fun F _ hP => hP⟩
          · cases hr

end Go.Proofs.YtjcjmjnajhkdaaaDoor
