/- How the reference takes a line: certs; no condition but the sizes. -/
import Derived.Test.YtjcjmjnajhkdaaaDoorScrG
namespace Go.Proofs.YtjcjmjnajhkdaaaDoor
open Go.RowKit
set_option linter.unusedVariables false
set_option linter.unusedSimpArgs false
set_option maxRecDepth 100000

set_option maxHeartbeats 1000000 in
theorem rline_certs (s : Sc) (a0 a1 a5 a6 : Option Addr) (n0 n1 n5 n6 k0 k1 k5 k6 : Nat) (sc cc : Bool) (g c : Nat) (a2 : List UInt8) (w : World) (h : ScR w (.slice a0 n0 k0) (.slice a1 n1 k1) (.slice a5 n5 k5) (.slice a6 n6 k6) s) (c0 : w.cell? ⟨g, 0, none⟩ = some (.string ⟨#[99, 101, 114, 116, 115]⟩)) (c1 : w.cell? ⟨g, 1, none⟩ = some (.string ⟨a2.toArray⟩)) (hl : a2.length ≤ 100000) :
    Calls Tryd.prog 22 #[scV (.slice a0 n0 k0) (.slice a1 n1 k1) (.slice a5 n5 k5) (.slice a6 n6 k6) s, .slice (some ⟨g, 0, none⟩) 2 c, .bool sc, .bool cc] w fun e w' =>
      RLine (.slice a0 n0 k0) (.slice a1 n1 k1) (.slice a5 n5 k5) (.slice a6 n6 k6) (if (rowV a2 0 1048576).2 = 0 ∧ 1 ≤ (rowV a2 0 1048576).1.length ∧ (rowV a2 0 1048576).1.length ≤ 400 ∧ cc = false then some ({ s with certs := (rowV a2 0 1048576).1 }, sc, true) else none) w e w' := by
  have hp := fun W => rparserow2_ a2 0 1048576 W hl (by decide) (by decide)
  unfold RowPost2 at hp
  obtain ⟨pr, hpr⟩ : ∃ pr, rowV a2 0 1048576 = pr := ⟨_, rfl⟩
  obtain ⟨L, er⟩ := pr
  have hL0 := rowV_len a2 0 1048576
  rw [hpr] at hp hL0 ⊢
  dsimp only at hp hL0 ⊢
  obtain ⟨LL, hLL⟩ : ∃ LL, L.length = LL := ⟨_, rfl⟩
  have hL : LL ≤ 1000000 := by omega
  obtain ⟨o, ho⟩ : ∃ o, (if er = 0 ∧ 1 ≤ L.length ∧ L.length ≤ 400 ∧ cc = false then some ({ s with certs := L }, sc, true) else none) = o := ⟨_, rfl⟩
  have HQ := Lib.hid (show ((er = 0 ∧ 1 ≤ LL ∧ LL ≤ 400 ∧ cc = false) ∧ o = some ({ s with certs := L }, sc, true)) ∨ (¬ (er = 0 ∧ 1 ≤ LL ∧ LL ≤ 400 ∧ cc = false) ∧ o = none) by
    subst ho; subst hLL
    by_cases hc : er = 0 ∧ 1 ≤ L.length ∧ L.length ≤ 400 ∧ cc = false
    · exact .inl ⟨hc, if_pos hc⟩
    · exact .inr ⟨hc, if_neg hc⟩)
  rw [ho]
  rw [hLL] at hp
  have HP := Lib.hid hp
  have HR := Lib.hid h
  have HLL := Lib.hid hLL
  unfold scV
  have HV := Lib.hid (RV.start w (.slice a0 n0 k0) (.slice a1 n1 k1) (.slice a5 n5 k5) (.slice a6 n6 k6) s)
  have e0 := keepc c0 HV.out.low
  have e1 := keepc c1 HV.out.low
  clear hp h ho hpr hLL c0 c1 hL0
  go_enter Tryd.func22, Tryd.ntmps22
  go_wp2_with (go_at_call 50; refine (HP.out _).mono ?_; rintro e w1 ⟨A1, k1', rfl, hk⟩; have HN := Lib.hid hk; have HV1 := Lib.hid (HV.out.pure hk.pure); obtain ⟨f0, f1, f2⟩ := HV1.out.sets 6 (.slice A1 LL k1') (cs := #[(.slice a0 n0 k0), (.slice a1 n1 k1), (.int .i64 s.table), (.bool s.skip), (.int .i64 s.every), (.slice a5 n5 k5), (.slice A1 LL k1')]) rfl; have F0 := Lib.hid f0; have F1 := Lib.hid f1; have F2 := Lib.hid f2; have ONE := Lib.hid (show (#[(.slice a0 n0 k0), (.slice a1 n1 k1), (.int .i64 s.table), (.bool s.skip), (.int .i64 s.every), (.slice a5 n5 k5), (.slice A1 LL k1')] : Array Value).all (·.oneCell') = true by simp [Value.oneCell']); have x6 := HV1.out.b0.cell 6; have y6 := HV1.out.b0.frozen 6; clear hk e0 e1 HV f0 f1 f2; go_wp2_with (first
        | ((with_reducible refine at_op ⟨some 185, _, _, _, _, _⟩ ?_); refine wpList_load_row rfl 35 (.tmp 4) rfl w.heap.size rfl 35 #[(.slice a0 n0 k0), (.slice a1 n1 k1), (.int .i64 s.table), (.bool s.skip), (.int .i64 s.every), (.slice a5 n5 k5), (.slice A1 LL k1')] (0, 0) _ F0.out Tryd.underlying35 rfl (by kernel_rfl) ?_)
        | ((with_reducible refine at_op ⟨none, .store 35 (.tmp 8) (.tmp 185), _, _, _, _⟩ ?_); refine wpList_store_row rfl 35 (.tmp 8) (.tmp 185) rfl (w.heap.size + 1) #[(.slice a0 n0 k0), (.slice a1 n1 k1), (.int .i64 s.table), (.bool s.skip), (.int .i64 s.every), (.slice a5 n5 k5), (.slice A1 LL k1')] rfl rfl 35 _ F1.out (by kernel_rfl) rfl ONE.out ?_)))
  all_goals
    refine rline_end (H := w.heap.size + 1) rfl rfl rfl (F1.out.setRow #[(.slice a0 n0 k0), (.slice a1 n1 k1), (.int .i64 s.table), (.bool s.skip), (.int .i64 s.every), (.slice a5 n5 k5), (.slice A1 LL k1')]) rfl ?_
    refine ⟨F2.out.setRow (.inr (by omega)) _, a0, n0, k0, a1, n1, k1, a5, n5, k5, A1, LL, k1', { s with certs := L }, ?_, ?_⟩
    · rcases HQ.out with ⟨⟨e1, e2, e3, e4⟩, rfl⟩ | ⟨e1, rfl⟩
      · first
          | (subst e1; subst e4; rfl)
          | (exfalso; first | omega | (simp_all; done))
          | (simp_all; done)
      · first
          | rfl
          | (simp_all; done)
          | (have hcc : cc = true := by
               cases cc with
               | true => rfl
               | false => exact absurd ⟨by first | omega | (simp_all; done), by omega, by omega, rfl⟩ e1
             subst hcc
             rfl)
          | (have q : decide ((LL : Int) ≤ 400) = false := by
               simp
               omega
             show Ending.returned (.tuple #[_, .bool (decide ((LL : Int) ≤ 400))]) = _
             rw [q]
             rfl)
          | trace_state
    · intro r hr
      rcases HQ.out with ⟨⟨e1, e2, e3, e4⟩, rfl⟩ | ⟨e1, rfl⟩
      · injection hr with hr
        subst hr
        refine ⟨rfl, ?_⟩
        have hpl : Pure' w ((w1.setCell ⟨w.heap.size, 6, none⟩ (.slice A1 LL k1')).setRow (w.heap.size + 1) #[(.slice a0 n0 k0), (.slice a1 n1 k1), (.int .i64 s.table), (.bool s.skip), (.int .i64 s.every), (.slice a5 n5 k5), (.slice A1 LL k1')]) := F2.out.setRow (.inr (by omega)) _
        have hR := HR.out.pure hpl
        have hlo : ∀ b, (Value.slice A1 LL k1').ownBlock = some b → w.heap.size + 2 ≤ b := fun b hb => by have := HN.out.own b hb; simp at this; omega
        have hrow := ((HN.out.row.off (b := w.heap.size) (i := 6) (u := .slice A1 LL k1') (fun e => by have := hlo _ e; omega)).setRow (k := w.heap.size + 1) (fun e => by have := hlo _ e; omega) #[(.slice a0 n0 k0), (.slice a1 n1 k1), (.int .i64 s.table), (.bool s.skip), (.int .i64 s.every), (.slice a5 n5 k5), (.slice A1 LL k1')]).seesV
        refine ⟨⟨hR.p0, hR.p1, hR.p5, by have := HLL.out; subst this; exact hrow⟩, ?_⟩
        intro F hF hP k hk
        rcases hk with h | h | h | h
        · exact hP k (.inl h)
        · exact hP k (.inr (.inl h))
        · exact hP k (.inr (.inr (.inl h)))
        · rcases HN.out.row.2 with ⟨hv, _⟩ | ⟨g', cap, cur, hv, _⟩
          · rw [hv] at h; simp [vBlk] at h
          · have := hlo g' (by rw [hv]; rfl)
            rw [hv] at h; simp [vBlk] at h; omega
      · cases hr

end Go.Proofs.YtjcjmjnajhkdaaaDoor
