/- A script's lines, as the program writes them; no condition but the sizes. -/
import Derived.Test.YtjcjmjnajhkdaaaDoorScrJ
namespace Go.Proofs.YtjcjmjnajhkdaaaDoor
open Go.RowKit
set_option linter.unusedVariables false
set_option linter.unusedSimpArgs false
set_option maxRecDepth 100000

/-- The walk of a region that draws stands at this operation. -/
theorem at_step {P : Program} {ops : Array Oper} {Q : Exit → Act → World → Prop} {K : Act → World → Prop} {E : Prop} {a : Act} {w : World} (o : Oper) (h : if Region.wanted o (yielded ops a.tmps) = true then Oper.wp P o a w K Q else E) : if Region.wanted o (yielded ops a.tmps) = true then Oper.wp P o a w K Q else E := h
/-- The lines so far, in a row of the call's own. -/
structure LO (w : World) (cs : Array Value) (acc : List (List UInt8)) (v : Value) (W : World) : Prop where
  row : Row W 9 1 v acc.length (strVs acc)
  own : ∀ b, v.ownBlock = some b → w.heap.size + 1 ≤ b
  low : Pure' w W
  box : Blk W w.heap.size 29 cs
theorem LO.pure {w W W' : World} {cs : Array Value} {acc : List (List UInt8)} {v : Value} (h : LO w cs acc v W) (hk : Pure' W W') : LO w cs acc v W' :=
  ⟨h.row.keep hk (fun _ _ hf => hf), h.own, h.low.then_ hk, h.box.keep hk (fun hf => hf)⟩
theorem LO.drew {w W : World} {cs : Array Value} {acc : List (List UInt8)} {v : Value} (h : LO w cs acc v W) : LO w cs acc v W.drew := ⟨h.row.drew, h.own, h.low.drew, h.box.drew⟩
/-- One line more. -/
theorem LO.more {w W W' : World} {cs : Array Value} {acc : List (List UInt8)} {v : Value} (h : LO w cs acc v W) {x : List UInt8} {y : ByteArray} (hy : y = ⟨x.toArray⟩) {g cap : Nat} (hr : Row W' 9 1 (.slice (some ⟨g, 0, none⟩) (acc.length + 1) cap) (acc.length + 1) (strVs acc ++ [.string y]))
    (hg : (W.alloc (.cells #[.string y] 9)).grownBy W' v.ownBlock) (hw : v.ownBlock = some g ∨ g = W.heap.size + 1) : LO w cs (acc ++ [x]) (.slice (some ⟨g, 0, none⟩) (acc.length + 1) cap) W' := by
  subst hy
  have hb := h.box.lt
  refine ⟨by simpa [strVs] using hr, ?_, (h.low.alloc _).grown hg (fun k hk => .inr (by have := h.own k hk; omega)), (h.box.alloc _).grown hg (fun e => by have := h.own _ e; omega)⟩
  intro b e
  simp [Value.ownBlock] at e
  subst e
  rcases hw with h1 | h1
  · exact h.own _ h1
  · omega

theorem LO.len {w W : World} {cs : Array Value} {acc : List (List UInt8)} {v : Value} (h : LO w cs acc v W) : LO w cs acc v W := h

set_option maxHeartbeats 2000000 in
theorem lines_ (v0 v1 v5 v6 : Value) (s : Sc) (w : World) (h : ScR w v0 v1 v5 v6 s) (hc : checkV s = true) (hn : NumsOk s) (hed : s.edits = []) (hlp : ∀ p ∈ s.pats, p.length ≤ 100000) (hlq : ∀ p ∈ s.parts, p.length ≤ 100000) :
    Calls Tryd.prog 27 #[scV v0 v1 v5 v6 s] w fun e w' => ∃ v, e = .returned v ∧ Row w' 9 1 v (rowsL s).length (strVs (rowsL s)) ∧ Pure' w w' := by
  obtain ⟨i0, hi, hz0, hz1, hz2⟩ := info_parts strInfo
  obtain ⟨c1, c2, c3, c4, c5, c6⟩ := check_parts hc
  obtain ⟨a0, k0, rfl, s0⟩ := h.p0
  obtain ⟨a1, k1, rfl, s1⟩ := h.p1
  obtain ⟨a5, k5, rfl, s5⟩ := h.p5
  obtain ⟨a6, k6, rfl, s6⟩ := h.p6
  have HS0 := Lib.hid s0
  have HS1 := Lib.hid s1
  have HS5 := Lib.hid s5
  have HS6 := Lib.hid s6
  have HL0 := Lib.hid hlp
  have HL1 := Lib.hid hlq
  have HN := Lib.hid hn
  have HC5 := Lib.hid c5
  have HC6 := Lib.hid c6
  have b0 : s.pats.length ≤ 400 := by omega
  have b1 : s.parts.length ≤ 400 := by omega
  have b5 : s.edits.length ≤ 400 := by omega
  obtain ⟨np, hnp⟩ : ∃ np, s.pats.length = np := ⟨_, rfl⟩
  obtain ⟨nq, hnq⟩ : ∃ nq, s.parts.length = nq := ⟨_, rfl⟩
  obtain ⟨ne, hne⟩ : ∃ ne, s.edits.length = ne := ⟨_, rfl⟩
  obtain ⟨nc, hnc⟩ : ∃ nc, s.certs.length = nc := ⟨_, rfl⟩
  have HNP := Lib.hid hnp
  have HNQ := Lib.hid hnq
  have HNE := Lib.hid hne
  have HNC := Lib.hid hnc
  rw [hnp] at b0 HS0 ⊢
  rw [hnq] at b1 HS1 ⊢
  rw [hne] at b5 HS5 ⊢
  rw [hnc] at c2 HS6 ⊢
  unfold scV
  obtain ⟨cs, hcs⟩ : ∃ cs : Array Value, #[.slice a0 np k0, .slice a1 nq k1, .int .i64 s.table, .bool s.skip, .int .i64 s.every, .slice a5 ne k5, .slice a6 nc k6] = cs := ⟨_, rfl⟩
  have HLO := Lib.hid (show LO w cs [] (.slice none 0 0) (w.alloc (.cells #[.slice a0 np k0, .slice a1 nq k1, .int .i64 s.table, .bool s.skip, .int .i64 s.every, .slice a5 ne k5, .slice a6 nc k6] 29)) from ⟨Row.nil _ _ _, (fun b hb => by simp [Value.ownBlock] at hb), (Keeps.refl _ w).alloc _, by rw [← hcs]; exact Blk.new _ _ _⟩)
  have HCS := Lib.hid hcs
  clear hlp hlq hn hc h s0 s1 s5 s6 c1 c5 c6 hcs hnp hnq hne hnc
  go_enter Tryd.func27, Tryd.ntmps27
  go_wp2
  go_loopw [3, 14] (fun v3 v14 wr => ∃ k : Nat, k ≤ np ∧ v14 = .int .i64 k ∧ LO w cs (([] : List (List UInt8)) ++ (s.pats.take k).map (fun p => sp wPattern (quoteL p))) v3 wr) (fun _ v14 _ => np - (intOf v14).toNat)
  case atStart => exact ⟨0, Nat.zero_le _, rfl, by simpa using HLO.out⟩
  case round =>
    obtain ⟨k, hk, rfl, hlo⟩ := hrel
    obtain ⟨a, cp, rfl, hcp⟩ := hlo.row.form
    obtain ⟨acc, hacc⟩ : ∃ acc, ([] : List (List UInt8)) ++ (s.pats.take k).map (fun p => sp wPattern (quoteL p)) = acc := ⟨_, rfl⟩
    have hal : acc.length ≤ 2000 := by
      have e1 := HNP.out
      have e2 := HNQ.out
      rw [← hacc]
      simp
      omega
    rw [hacc] at hlo ⊢
    have HO := Lib.hid hlo
    have HACC := Lib.hid hacc
    clear hlo hacc
    by_cases hlt : k < np
    · obtain ⟨ad, p, rfl, hp, hc⟩ := word_at (HS0.out.pure HO.out.low (Nat.le_refl _)) hlt
      have HPk := Lib.hid hp
      have hpl := HL0.out p (List.mem_of_getElem? hp)
      have HQ := Lib.hid (fun w => quote_ p w (by omega))
      have hql := quote_len p
      have hqs : (⟨(quoteL p).toArray⟩ : ByteArray).size ≤ 1000000 := by simp [ByteArray.size]; omega
      have hql2 : (quoteL p).length ≤ 1000000 := by omega
      clear hp hql
      go_wp2_with (first
        | (go_at_call 54; refine (HQ.out _).mono ?_; rintro e w1 ⟨rfl, hk⟩; have HO1 := Lib.hid (HO.out.pure hk); clear hk hc)
        | (at_builtin; refine wpl_append _ rfl (.tmp 18) (.tmp 22) 23 rfl 9 i0 (.string ByteArray.empty) 1 16 Tryd.underlying23 hi hz0 hz1 hz2 rfl (by decide) (.slice a acc.length cp) acc.length (strVs acc) rfl ?own ⟨w1.heap.size, 0, none⟩ 1 1 [.string (⟨#[112, 97, 116, 116, 101, 114, 110, 32]⟩ ++ ⟨(quoteL p).toArray⟩)] rfl rfl ?news ?one (by decide) ?b1 ?b2 ?k))
      case own => exact Row.alloc HO1.out.row _
      case news => exact news1
      case one => first | rfl | exact strV_one _
      case b1 => unfold maxLen; omega
      case b2 => omega
      case k =>
        intro g6 cap6 w2 hr6 hg6 hw6 hl6
        have HM := Lib.hid (HO1.out.more (x := sp wPattern (quoteL p)) (bytes_eq (by simp [sp, wPattern])) hr6 hg6 (by simpa using hw6))
        clear hr6 hg6 hw6
        go_wp2
        go_roundw
        case rel =>
          refine ⟨k + 1, by omega, by go_num, ?_⟩
          have e1 : ([] : List (List UInt8)) ++ (s.pats.take (k + 1)).map (fun p => sp wPattern (quoteL p)) = acc ++ [sp wPattern (quoteL p)] := by
            rw [List.take_add_one, HPk.out, ← HACC.out]; simp
          rw [e1]
          have := HM.out
          simpa using this
        case measure => simp [intOf]; omega
    · obtain rfl : np = k := by omega
      have HACC2 := Lib.hid (show acc = ([] : List (List UInt8)) ++ s.pats.map (fun p => sp wPattern (quoteL p)) by
        have := HACC.out
        rw [← HNP.out, List.take_length] at this
        exact this.symm)
      clear HACC
      obtain rfl : acc = s.pats.map (fun p => sp wPattern (quoteL p)) := by simpa using HACC2.out
      have x1 : wr.cell? ⟨w.heap.size, 1, none⟩ = some (.slice a1 nq k1) := by rw [HO.out.box.cell, ← HCS.out]; rfl
      have HLO2 := Lib.hid HO.out
      clear HACC2 HO
      go_wp2
      go_loopw [3, 28] (fun v3 v14 wr => ∃ k : Nat, k ≤ nq ∧ v14 = .int .i64 k ∧ LO w cs (s.pats.map (fun p => sp wPattern (quoteL p)) ++ (s.parts.take k).map (fun p => sp wPart (quoteL p))) v3 wr) (fun _ v14 _ => nq - (intOf v14).toNat)
      case atStart => exact ⟨0, Nat.zero_le _, rfl, by simpa using HLO2.out⟩
      case round =>
        obtain ⟨k, hk, rfl, hlo⟩ := hrel
        obtain ⟨a, cp, rfl, hcp⟩ := hlo.row.form
        obtain ⟨acc, hacc⟩ : ∃ acc, s.pats.map (fun p => sp wPattern (quoteL p)) ++ (s.parts.take k).map (fun p => sp wPart (quoteL p)) = acc := ⟨_, rfl⟩
        have hal : acc.length ≤ 2000 := by
          have e1 := HNP.out
          have e2 := HNQ.out
          rw [← hacc]
          simp
          omega
        rw [hacc] at hlo ⊢
        have HO := Lib.hid hlo
        have HACC := Lib.hid hacc
        clear hlo hacc
        by_cases hlt : k < nq
        · obtain ⟨ad, p, rfl, hp, hc⟩ := word_at (HS1.out.pure HO.out.low (Nat.le_refl _)) hlt
          have HPk := Lib.hid hp
          have hpl := HL1.out p (List.mem_of_getElem? hp)
          have HQ := Lib.hid (fun w => quote_ p w (by omega))
          have hql := quote_len p
          have hqs : (⟨(quoteL p).toArray⟩ : ByteArray).size ≤ 1000000 := by simp [ByteArray.size]; omega
          have hql2 : (quoteL p).length ≤ 1000000 := by omega
          clear hp hql
          go_wp2_with (first
            | (go_at_call 54; refine (HQ.out _).mono ?_; rintro e w1 ⟨rfl, hk⟩; have HO1 := Lib.hid (HO.out.pure hk); clear hk hc)
            | (at_builtin; refine wpl_append _ rfl (.tmp 32) (.tmp 36) 23 rfl 9 i0 (.string ByteArray.empty) 1 16 Tryd.underlying23 hi hz0 hz1 hz2 rfl (by decide) (.slice a acc.length cp) acc.length (strVs acc) rfl ?own2 ⟨w1.heap.size, 0, none⟩ 1 1 [.string (⟨#[112, 97, 114, 116, 32]⟩ ++ ⟨(quoteL p).toArray⟩)] rfl rfl ?news2 ?one2 (by decide) ?b12 ?b22 ?k2))
          case own2 => exact Row.alloc HO1.out.row _
          case news2 => exact news1
          case one2 => first | rfl | exact strV_one _
          case b12 => unfold maxLen; omega
          case b22 => omega
          case k2 =>
            intro g6 cap6 w2 hr6 hg6 hw6 hl6
            have HM := Lib.hid (HO1.out.more (x := sp wPart (quoteL p)) (bytes_eq (by simp [sp, wPart])) hr6 hg6 (by simpa using hw6))
            clear hr6 hg6 hw6
            go_wp2
            go_roundw
            case rel =>
              refine ⟨k + 1, by omega, by go_num, ?_⟩
              have e1 : s.pats.map (fun p => sp wPattern (quoteL p)) ++ (s.parts.take (k + 1)).map (fun p => sp wPart (quoteL p)) = acc ++ [sp wPart (quoteL p)] := by
                rw [List.take_add_one, HPk.out, ← HACC.out]; simp
              rw [e1]
              have := HM.out
              simpa using this
            case measure => simp [intOf]; omega
        · obtain rfl : nq = k := by omega
          have HACC2 := Lib.hid (show acc = s.pats.map (fun p => sp wPattern (quoteL p)) ++ s.parts.map (fun p => sp wPart (quoteL p)) by
            have := HACC.out
            rw [← HNQ.out, List.take_length] at this
            exact this.symm)
          clear HACC
          have HACC3 := Lib.hid HACC2.out
          obtain ⟨tn, htn⟩ : ∃ tn : Nat, s.table = (tn : Int) := ⟨s.table.toNat, by omega⟩
          have htn4 : tn < 4 := by omega
          have htn0 : (0 : Int) ≤ (tn : Int) := by omega
          have htn5 : (tn : Int) < 4 := by omega
          have HTN := Lib.hid htn
          have HCS2 := Lib.hid (show #[.slice a0 np k0, .slice a1 nq k1, .int .i64 (tn : Int), .bool s.skip, .int .i64 s.every, .slice a5 ne k5, .slice a6 nc k6] = cs by rw [← htn]; exact HCS.out)
          clear htn HCS
          obtain ⟨sk, hsk⟩ : ∃ sk, s.skip = sk := ⟨_, rfl⟩
          rw [hsk] at HCS2
          have HSK := Lib.hid hsk
          clear hsk
          have x3 : wr.cell? ⟨w.heap.size, 3, none⟩ = some (.bool sk) := by rw [HO.out.box.cell, ← HCS2.out]; rfl
          have HT := Lib.hid tables_
          have HTX := Lib.hid (fun w => text_ s.every w (by omega) (by omega))
          have htl := textL_len (z := s.every) (by omega) (by omega)
          have HBX := Lib.hid (fun (W : World) (hL : Blk W w.heap.size 29 cs) => (⟨by rw [hL.cell, ← HCS2.out]; rfl, by rw [hL.cell, ← HCS2.out]; rfl⟩ : W.cell? ⟨w.heap.size, 2, none⟩ = some (.int .i64 (tn : Int)) ∧ W.cell? ⟨w.heap.size, 4, none⟩ = some (.int .i64 s.every)))
          have hxl : ∀ (x : List UInt8), tabW[tn]? = some x → x.length ≤ 10 := by
            intro x hx
            match tn, htn4, hx with
            | 0, _, hx => simp [tabW] at hx; subst hx; decide
            | 1, _, hx => simp [tabW] at hx; subst hx; decide
            | 2, _, hx => simp [tabW] at hx; subst hx; decide
            | 3, _, hx => simp [tabW] at hx; subst hx; decide
          have HXL := Lib.hid hxl
          clear hxl
          have hwl := HO.out.box.lt
          obtain ⟨how, hhow⟩ : ∃ how : List UInt8, 32 :: (if sk then wSkip else wStep) ++ [32] = how := ⟨_, rfl⟩
          have hhl : how.length = 6 := by rw [← hhow]; cases sk <;> rfl
          have hhl2 : how.length ≤ 6 := by omega
          clear hhl
          have HHow := Lib.hid hhow
          clear hhow
          have HSC := Lib.hid (show ∀ xw : List UInt8, tabW[tn]? = some xw → ∀ y : ByteArray, y = ((⟨#[115, 99, 97, 110, 32]⟩ ++ ⟨xw.toArray⟩) ++ ⟨how.toArray⟩) ++ ⟨(textL s.every).toArray⟩ → y = ⟨(scanL s).toArray⟩ by
            rintro xw hxw y rfl
            have e1 : tabW.getD s.table.toNat [] = xw := by rw [HTN.out, Int.toNat_natCast, List.getD_eq_getElem?_getD, hxw]; rfl
            unfold scanL
            rw [e1, HSK.out, ← HHow.out]
            exact bytes_eq (by cases sk <;> simp [sp, wScan, wSkip, wStep]))
          go_upto_if 41 with fail
          go_cut [8] (fun s8 wx => s8 = .string ⟨how.toArray⟩ ∧ wx = wr)
          case first =>
            cases sk
            · go_wp2
              go_meet
              exact ⟨by rw [← HHow.out]; rfl, rfl⟩
            · go_wp2
              go_meet
              exact ⟨by rw [← HHow.out]; rfl, rfl⟩
          case rest =>
            obtain ⟨rfl, rfl⟩ := hcut
            clear x3
            go_upto_region 15 with fail
            obtain ⟨y2, y4⟩ := HBX.out wc.drew HO.out.box.drew
            go_cut [3] (fun v3 wx => LO w cs (acc ++ [scanL s]) v3 wx)
            case first =>
              go_region_law (first
                | ((with_reducible refine at_step ⟨some 58, _, _, _, _, _⟩ ?_); refine step_append_lies _ rfl (.tmp 42) (.tmp 57) 23 rfl 0 9 i0 (.string ByteArray.empty) 1 16 Tryd.underlying23 hi hz0 hz1 hz2 rfl (by decide) (.slice a acc.length cp) acc.length (strVs acc) rfl (Row.alloc HO4.out.row _) ⟨w2.heap.size, 0, none⟩ 1 1 [_] rfl rfl news1 (strV_one _) (by decide) (by unfold maxLen; omega) (by omega) (Nat.zero_le _) (w2.heap.size + 1) (by simp) ?_; intro g6 cap6 w5 hr6 hg6 hw6 hl6; have HM6 := Lib.hid (HO4.out.more (x := scanL s) (HSC.out xw HXW.out _ rfl) hr6 hg6 hw6); clear hr6 hg6 hw6)
                | (go_simp; go_at_call 55; refine (HT.out _).mono ?_; rintro e w1 ⟨A2, cc2, rfl, hs2, hk2⟩; have HO3 := Lib.hid (HO.out.drew.pure hk2); obtain ⟨ad2, xw, rfl, hxw, cw⟩ := word_at hs2 htn4; have hxwl := HXL.out xw hxw; have s1 : ¬ 9223372036854775807 < 5 + xw.length := (by omega); have s2 : ¬ 9223372036854775807 < 5 + xw.length + how.length := (by omega); have s3 : ¬ 9223372036854775807 < 5 + xw.length + how.length + (textL s.every).length := (by omega); have HXW := Lib.hid hxw; obtain ⟨m2, m4⟩ := HBX.out w1 HO3.out.box; clear hs2 hk2 hxw)
                | (go_simp; go_at_call 56; refine (HTX.out _).mono ?_; rintro e w2 ⟨rfl, hk2⟩; have HO4 := Lib.hid (HO3.out.pure hk2); have cw2 := keepc cw hk2; obtain ⟨n2, n4⟩ := HBX.out w2 HO4.out.box; clear hk2))
              all_goals
                go_wp2_with fail
                go_meet
                exact HM6.out.len
            case rest =>
              have HE0 := Lib.hid (show ne = 0 by rw [← HNE.out, hed]; rfl)
              obtain ⟨acc4, hacc4⟩ : ∃ acc4, acc ++ [scanL s] = acc4 := ⟨_, rfl⟩
              rw [hacc4] at hcut
              have hal4 : acc4.length ≤ 2001 := by rw [← hacc4]; simp; omega
              have HL4 := Lib.hid hcut
              obtain ⟨a3, cp3, rfl, hcp3⟩ := HL4.out.row.form
              have HR4 := Lib.hid (show acc4 = s.pats.map (fun p => sp wPattern (quoteL p)) ++ (s.parts.map (fun p => sp wPart (quoteL p)) ++ [scanL s]) by rw [← hacc4, HACC3.out]; simp)
              clear hcut hacc4
              have x5 : wc.cell? ⟨w.heap.size, 5, none⟩ = some (.slice a5 0 k5) := by rw [HL4.out.box.cell, ← HCS2.out, HE0.out]; rfl
              have x6 : wc.cell? ⟨w.heap.size, 6, none⟩ = some (.slice a6 nc k6) := by rw [HL4.out.box.cell, ← HCS2.out]; rfl
              go_wp2
              go_loopw [3, 62] (fun v3 v62 wr => v3 = .slice a3 acc4.length cp3 ∧ v62 = .int .i64 0 ∧ wr = wc) (fun _ _ _ => 0)
              case atStart => exact ⟨rfl, rfl, rfl⟩
              case round =>
                obtain ⟨rfl, rfl, rfl⟩ := hrel
                by_cases hnc0 : nc = 0
                · subst hnc0
                  have HF := Lib.hid (show rowsL s = acc4 by
                    have hcz : s.certs = [] := List.length_eq_zero_iff.1 HNC.out
                    rw [HR4.out]; unfold rowsL; rw [hed, hcz]; simp)
                  go_wp2
                  go_ret
                  refine ⟨_, rfl, ?_, HL4.out.low⟩
                  rw [HF.out]
                  exact HL4.out.row
                · have hncp : 0 < nc := by omega
                  have hcz : s.certs ≠ [] := fun e => by have := HNC.out; rw [e] at this; simp at this; omega
                  have hrl : (rowL s.certs).length ≤ 8400 := by
                    have h1 := jn_len (zs := s.certs) (fun z hz => by have := HC6.out z hz; omega) s.certs.length (Nat.le_refl _)
                    rw [jn_all _ hcz] at h1
                    have := HNC.out
                    omega
                  have HF := Lib.hid (show rowsL s = acc4 ++ [sp wCerts (rowL s.certs)] by
                    rw [HR4.out]; unfold rowsL; rw [hed, if_neg hcz]; simp)
                  have HRow := Lib.hid (fun W (hW : Pure' w W) => row_ a6 nc k6 w.heap.size s.certs W (HS6.out.pure hW (Nat.le_refl _)) hW.size (by omega) (fun z hz => by have := HC6.out z hz; omega))
                  clear hcz
                  go_wp2_with (first
                    | (go_at_call 58; refine (HRow.out _ HL4.out.low).mono ?_; rintro e w7 ⟨rfl, hk⟩; have HL7 := Lib.hid (HL4.out.pure hk); clear hk)
                    | (at_builtin; refine wpl_append _ rfl (.tmp 90) (.tmp 95) 23 rfl 9 i0 (.string ByteArray.empty) 1 16 Tryd.underlying23 hi hz0 hz1 hz2 rfl (by decide) (.slice a3 acc4.length cp3) acc4.length (strVs acc4) rfl ?own7 ⟨w7.heap.size, 0, none⟩ 1 1 [.string (⟨#[99, 101, 114, 116, 115, 32]⟩ ++ ⟨(rowL s.certs).toArray⟩)] rfl rfl ?news7 ?one7 (by decide) ?b17 ?b27 ?k7))
                  case own7 => exact Row.alloc HL7.out.row _
                  case news7 => exact news1
                  case one7 => first | rfl | exact strV_one _
                  case b17 => unfold maxLen; omega
                  case b27 => omega
                  case k7 =>
                    intro g6 cap6 w8 hr6 hg6 hw6 hl6
                    have HM := Lib.hid (HL7.out.more (x := sp wCerts (rowL s.certs)) (bytes_eq (by simp [sp, wCerts])) hr6 hg6 (by simpa using hw6))
                    clear hr6 hg6 hw6
                    go_wp2
                    go_ret
                    refine ⟨_, rfl, ?_, HM.out.low⟩
                    rw [HF.out]
                    have := HM.out.row
                    simpa using this

end Go.Proofs.YtjcjmjnajhkdaaaDoor
