/- How the reference takes a line: spoil; no condition but the sizes. -/
import Derived.Test.YtjcjmjnajhkdaaaDoorScrGa
namespace Go.Proofs.YtjcjmjnajhkdaaaDoor
open Go.RowKit
set_option linter.unusedVariables false
set_option linter.unusedSimpArgs false
set_option maxRecDepth 100000

theorem redInfo : (Tryd.prog.info? 62).map (fun i => (i.zero, i.size, i.bytes)) = some (some (.agg #[.int .i64 0, .int .i64 0, .int .i64 0]), 3, 24) := by kernel_rfl
theorem lineV_spoil4 (s : Sc) (sc cc : Bool) (b c d : List UInt8) : lineV s sc cc [wSpoil, b, c, d] = if (parseV c iMin iMax).2 = 0 ∧ (parseV d iMin iMax).2 = 0 ∧ 0 < placeZ kindW b then some ({ s with edits := s.edits ++ [(placeZ kindW b, (parseV c iMin iMax).1, (parseV d iMin iMax).1)] }, sc, cc) else none := by
  unfold lineV
  dsimp only
  rw [if_neg (by decide), if_pos rfl]
  by_cases hq : (parseV c iMin iMax).2 = 0 ∧ (parseV d iMin iMax).2 = 0 ∧ 0 < idx kindW b
  · rw [if_pos hq, if_pos ⟨hq.1, hq.2.1, place_pos.1.2 hq.2.2⟩, place_pos.2 hq.2.2]
  · rw [if_neg hq, if_neg (fun h => hq ⟨h.1, h.2.1, place_pos.1.1 h.2.2⟩)]
theorem row_empty3 (w : World) (e : TypeId) : Row (w.alloc (.cells #[] e)) e 3 (.slice (some ⟨w.heap.size, 0, none⟩) 0 0) 0 [] :=
  World.ownsRow_lit w #[] 0 (Nat.zero_le _) (by decide) rfl

set_option maxHeartbeats 2000000 in
theorem rline_spoil (s : Sc) (a0 a1 a5 a6 : Option Addr) (n0 n1 n6 k0 k1 k5 k6 : Nat) (sc cc : Bool) (g c : Nat) (b cw d : List UInt8) (w : World) (h : ScR w (.slice a0 n0 k0) (.slice a1 n1 k1) (.slice a5 s.edits.length k5) (.slice a6 n6 k6) s) (c0 : w.cell? ⟨g, 0, none⟩ = some (.string ⟨#[115, 112, 111, 105, 108]⟩)) (c1 : w.cell? ⟨g, 1, none⟩ = some (.string ⟨b.toArray⟩)) (c2 : w.cell? ⟨g, 2, none⟩ = some (.string ⟨cw.toArray⟩)) (c3 : w.cell? ⟨g, 3, none⟩ = some (.string ⟨d.toArray⟩)) (hlc : cw.length ≤ 100000) (hl : d.length ≤ 100000) (hb : b ≠ []) (hpe : s.edits.length ≤ 100000) :
    Calls Tryd.prog 22 #[scV (.slice a0 n0 k0) (.slice a1 n1 k1) (.slice a5 s.edits.length k5) (.slice a6 n6 k6) s, .slice (some ⟨g, 0, none⟩) 4 c, .bool sc, .bool cc] w fun e w' => RLine (.slice a0 n0 k0) (.slice a1 n1 k1) (.slice a5 s.edits.length k5) (.slice a6 n6 k6) (lineV s sc cc [wSpoil, b, cw, d]) w e w' := by
  rw [lineV_spoil4]
  obtain ⟨i0, hi, hz0, hz1, hz2⟩ := info_parts redInfo
  obtain ⟨pc, hpc⟩ : ∃ pc, parseV cw iMin iMax = pc := ⟨_, rfl⟩
  obtain ⟨z1, e1⟩ := pc
  obtain ⟨pd, hpd⟩ : ∃ pd, parseV d iMin iMax = pd := ⟨_, rfl⟩
  obtain ⟨z2, e2⟩ := pd
  have hp1 := fun w => rnumber_ cw w hlc
  have hp2 := fun w => rnumber_ d w hl
  rw [hpc] at hp1 ⊢
  rw [hpd] at hp2 ⊢
  dsimp only at hp1 hp2 ⊢
  obtain ⟨tk, htk⟩ : ∃ tk, placeZ kindW b = tk := ⟨_, rfl⟩
  have HPL := Lib.hid (fun A c B w (hs : Sees w B 1 A 11 (strVs kindW)) => htk ▸ place_ A 11 c B kindW b w hs (by decide) (by decide) (fun e => hb (by simpa [kindW] using e.symm)))
  rw [htk]
  obtain ⟨b1, hb1⟩ : ∃ b1 : Bool, decide (e1 = 0) = b1 := ⟨_, rfl⟩
  obtain ⟨b2, hb2⟩ : ∃ b2 : Bool, decide (e2 = 0) = b2 := ⟨_, rfl⟩
  rw [hb1] at hp1
  rw [hb2] at hp2
  obtain ⟨o, ho⟩ : ∃ o, (if e1 = 0 ∧ e2 = 0 ∧ 0 < tk then some ({ s with edits := s.edits ++ [(tk, z1, z2)] }, sc, cc) else none) = o := ⟨_, rfl⟩
  have HQ := Lib.hid (show ((b1 = true ∧ b2 = true ∧ 0 < tk) ∧ o = some ({ s with edits := s.edits ++ [(tk, z1, z2)] }, sc, cc)) ∨ (¬ (b1 = true ∧ b2 = true ∧ 0 < tk) ∧ o = none) by
    subst ho; subst hb1; subst hb2
    simp only [decide_eq_true_eq]
    by_cases hc : e1 = 0 ∧ e2 = 0 ∧ 0 < tk
    · exact .inl ⟨hc, if_pos hc⟩
    · exact .inr ⟨hc, if_neg hc⟩)
  rw [ho]
  have HT := Lib.hid rkind_
  have HP1 := Lib.hid hp1
  have HP2 := Lib.hid hp2
  have HR := Lib.hid h
  obtain ⟨_, _, he, hsee⟩ := h.p5
  cases he
  have HSee := Lib.hid hsee
  unfold scV
  have HV := Lib.hid (RV.start w (.slice a0 n0 k0) (.slice a1 n1 k1) (.slice a5 s.edits.length k5) (.slice a6 n6 k6) s)
  have HCs := Lib.hid (fun W (hW : Pure' w W) => (⟨keepc c0 hW, keepc c1 hW, keepc c2 hW, keepc c3 hW⟩ : W.cell? ⟨g, 0, none⟩ = _ ∧ W.cell? ⟨g, 1, none⟩ = _ ∧ W.cell? ⟨g, 2, none⟩ = _ ∧ W.cell? ⟨g, 3, none⟩ = _))
  obtain ⟨e0, e1, e2, e3⟩ := HCs.out _ HV.out.low
  clear hp1 hp2 hpc hpd ho hb1 hb2 htk h c0 c1 c2 c3 hb hl hlc hsee
  go_enter Tryd.func22, Tryd.ntmps22
  go_upto_region 12 with fail
  go_cut [14] (fun s14 wx => s14 = .int .i64 tk ∧ RV w (.slice a0 n0 k0) (.slice a1 n1 k1) (.slice a5 s.edits.length k5) (.slice a6 n6 k6) s wx)
  case first =>
    go_region_with (first
      | (go_at_call 31; refine (HT.out _).mono ?_; rintro e w2 ⟨A2, cc2, rfl, hs2, hk2⟩; have HS2 := Lib.hid hs2; have HV2 := Lib.hid (HV.out.drew.pure hk2); obtain ⟨m0, m1, m2, m3⟩ := HCs.out w2 HV2.out.low; clear hs2 hk2)
      | (go_at_call 48; refine (HPL.out _ _ _ _ HS2.out).mono ?_; rintro e w3 ⟨rfl, rfl⟩))
    all_goals
      go_wp2_with fail
      go_meet
      exact ⟨rfl, HV2.out⟩
  case rest =>
    obtain ⟨rfl, hv⟩ := hcut
    have HV1 := Lib.hid hv
    clear HV hv e0 e1 e2 e3
    obtain ⟨d0, d1, d2, d3⟩ := HCs.out _ HV1.out.low
    have x5 := HV1.out.b0.cell 5
    have l0 := HV1.out.b0.lt
    have l1 := HV1.out.b1.lt
    go_wp2_with (first
      | (go_at_call 49; refine (HP1.out _).mono ?_; rintro e w2 ⟨rfl, hk⟩; subst hk; clear HP1)
      | (go_at_call 49; refine (HP2.out _).mono ?_; rintro e w3 ⟨rfl, hk⟩; subst hk; clear HP2)
      | (at_builtin; refine wpl_appendS _ rfl (.tmp 147) (.tmp 149) 33 rfl 62 i0 (.agg #[.int .i64 0, .int .i64 0, .int .i64 0]) 3 24 Tryd.underlying33 hi hz0 hz1 hz2 rfl (by decide) (.slice (some ⟨wc.heap.size, 0, none⟩) 0 0) 0 [] rfl ?own a5 s.edits.length k5 w.heap.size (edVs s.edits) rfl ?see ?one ?b1 ?b2 ?k))
    case own => exact row_empty3 wc _
    case see => exact (HSee.out.pure (HV1.out.low.alloc _) (Nat.le_refl _))
    case one => exact edVs_one _
    case b1 => unfold maxLen; omega
    case b2 => omega
    case k =>
      intro v' w2 hr2 hg2 ho2
      obtain ⟨A', c', rfl, _⟩ := hr2.form
      have hp2 : Pure' wc w2 := ((Keeps.refl _ wc).alloc (.cells #[] 62)).grown hg2 (fun k hk => .inr (by simp [Value.ownBlock] at hk; omega))
      have HV2 := Lib.hid (HV1.out.pure hp2)
      have HR2 := Lib.hid hr2
      have HO2 := Lib.hid (show ∀ b, (Value.slice A' s.edits.length c').ownBlock = some b → wc.heap.size ≤ b by
        intro b hb
        rcases ho2 with h | h
        · rw [hb] at h; simp [Value.ownBlock] at h; omega
        · rw [hb] at h; injection h with h; omega)
      have HP2 := Lib.hid hp2
      clear hr2 hg2 ho2 hp2
      have hlt2 : wc.heap.size ≤ w2.heap.size := HP2.out.size
      have l2 := HV2.out.b1.lt
      go_wp2_with (at_builtin; refine wpl_append _ rfl (.tmp 150) (.tmp 155) 33 rfl 62 i0 (.agg #[.int .i64 0, .int .i64 0, .int .i64 0]) 3 24 Tryd.underlying33 hi hz0 hz1 hz2 rfl (by decide) (.slice A' s.edits.length c') s.edits.length (edVs s.edits) rfl ?own2 ⟨w2.heap.size, 0, none⟩ 1 1 [.int .i64 tk, .int .i64 z1, .int .i64 z2] rfl rfl ?news2 ?one2 (by decide) ?b12 ?b22 ?k2)
      case own2 => exact Row.alloc HR2.out _
      case news2 =>
        intro j u hu
        rw [add_flat, (Blk.new w2 62 #[.int .i64 tk, .int .i64 z1, .int .i64 z2]).cell]
        simpa using hu
      case one2 => intro u hu; simp at hu; rcases hu with rfl | rfl | rfl <;> rfl
      case b12 => unfold maxLen; omega
      case b22 => omega
      case k2 =>
        intro g6 cap6 w3 hr3 hg3 hw3 hlt3
        have hp3 : Pure' wc w3 := (HP2.out.alloc (.cells #[.int .i64 tk, .int .i64 z1, .int .i64 z2] 62)).grown hg3 (fun k hk => .inr (HO2.out k hk))
        have HV3 := Lib.hid (HV1.out.pure hp3)
        have HR3 := Lib.hid (show Row w3 62 3 (.slice (some ⟨g6, 0, none⟩) (s.edits.length + 1) cap6) (s.edits.length + 1) (edVs (s.edits ++ [(tk, z1, z2)])) by simpa [edVs] using hr3)
        have hgg : wc.heap.size ≤ g6 := by
          rcases hw3 with h | h
          · exact HO2.out g6 h
          · omega
        obtain ⟨f0, f1, f2⟩ := HV3.out.sets 5 (.slice (some ⟨g6, 0, none⟩) (s.edits.length + 1) cap6) (cs := #[(.slice a0 n0 k0), (.slice a1 n1 k1), (.int .i64 s.table), (.bool s.skip), (.int .i64 s.every), (.slice (some ⟨g6, 0, none⟩) (s.edits.length + 1) cap6), (.slice a6 n6 k6)]) rfl
        have F0 := Lib.hid f0
        have F1 := Lib.hid f1
        have F2 := Lib.hid f2
        have ONE := Lib.hid (show (#[(.slice a0 n0 k0), (.slice a1 n1 k1), (.int .i64 s.table), (.bool s.skip), (.int .i64 s.every), (.slice (some ⟨g6, 0, none⟩) (s.edits.length + 1) cap6), (.slice a6 n6 k6)] : Array Value).all (·.oneCell') = true by simp [Value.oneCell'])
        have l3 : w.heap.size + 1 < g6 := by omega
        have z0 := HV3.out.b0.cell 5
        have y0 := HV3.out.b0.frozen 5
        clear hr3 hg3 hw3 hp3 f0 f1 f2 x5 d0 d1 d2 d3
        go_wp2_with (first
        | ((with_reducible refine at_op ⟨some 158, _, _, _, _, _⟩ ?_); refine wpList_load_row rfl 35 (.tmp 4) rfl w.heap.size rfl 35 #[(.slice a0 n0 k0), (.slice a1 n1 k1), (.int .i64 s.table), (.bool s.skip), (.int .i64 s.every), (.slice (some ⟨g6, 0, none⟩) (s.edits.length + 1) cap6), (.slice a6 n6 k6)] (0, 0) _ F0.out Tryd.underlying35 rfl (by kernel_rfl) ?_)
        | ((with_reducible refine at_op ⟨none, .store 35 (.tmp 8) (.tmp 158), _, _, _, _⟩ ?_); refine wpList_store_row rfl 35 (.tmp 8) (.tmp 158) rfl (w.heap.size + 1) #[(.slice a0 n0 k0), (.slice a1 n1 k1), (.int .i64 s.table), (.bool s.skip), (.int .i64 s.every), (.slice (some ⟨g6, 0, none⟩) (s.edits.length + 1) cap6), (.slice a6 n6 k6)] rfl rfl 35 _ F1.out (by kernel_rfl) rfl ONE.out ?_))
        all_goals
          refine rline_end (H := w.heap.size + 1) rfl rfl rfl (F1.out.setRow #[(.slice a0 n0 k0), (.slice a1 n1 k1), (.int .i64 s.table), (.bool s.skip), (.int .i64 s.every), (.slice (some ⟨g6, 0, none⟩) (s.edits.length + 1) cap6), (.slice a6 n6 k6)]) rfl ?_
          refine ⟨F2.out.setRow (.inr (by omega)) _, a0, n0, k0, a1, n1, k1, some ⟨g6, 0, none⟩, s.edits.length + 1, cap6, a6, n6, k6, { s with edits := s.edits ++ [(tk, z1, z2)] }, ?_, ?_⟩
          · rcases HQ.out with ⟨⟨e1, e2, e3⟩, rfl⟩ | ⟨e1, rfl⟩
            · first
                | (subst e2; rfl)
                | (exfalso; first | omega | (simp_all; done))
                | (simp_all; done)
            · first
                | rfl
                | (have hcc : b2 = false := by
                     cases b2 with
                     | false => rfl
                     | true => exact (e1 (by simp_all)).elim
                   subst hcc
                   rfl)
                | (simp_all; done)
          · intro r hr
            rcases HQ.out with ⟨⟨e1, e2, e3⟩, rfl⟩ | ⟨e1, rfl⟩
            · injection hr with hr
              subst hr
              refine ⟨rfl, ?_⟩
              have hpl : Pure' w ((w3.setCell ⟨w.heap.size, 5, none⟩ (.slice (some ⟨g6, 0, none⟩) (s.edits.length + 1) cap6)).setRow (w.heap.size + 1) #[(.slice a0 n0 k0), (.slice a1 n1 k1), (.int .i64 s.table), (.bool s.skip), (.int .i64 s.every), (.slice (some ⟨g6, 0, none⟩) (s.edits.length + 1) cap6), (.slice a6 n6 k6)]) := F2.out.setRow (.inr (by omega)) _
              have hR := HR.out.pure hpl
              have hrow := ((HR3.out.off (b := w.heap.size) (i := 5) (u := .slice (some ⟨g6, 0, none⟩) (s.edits.length + 1) cap6) (by simp [Value.ownBlock]; omega)).setRow (k := w.heap.size + 1) (by simp [Value.ownBlock]; omega) #[(.slice a0 n0 k0), (.slice a1 n1 k1), (.int .i64 s.table), (.bool s.skip), (.int .i64 s.every), (.slice (some ⟨g6, 0, none⟩) (s.edits.length + 1) cap6), (.slice a6 n6 k6)]).seesV
              refine ⟨⟨hR.p0, hR.p1, by simpa using hrow, hR.p6⟩, ?_⟩
              exact by
                intro F hF hP k hk
                rcases hk with h | h | h | h
                all_goals first
                  | exact hP k (.inl h)
                  | exact hP k (.inr (.inl h))
                  | exact hP k (.inr (.inr (.inl h)))
                  | exact hP k (.inr (.inr (.inr h)))
                  | (simp [vBlk] at h; omega)
            · cases hr

end Go.Proofs.YtjcjmjnajhkdaaaDoor
