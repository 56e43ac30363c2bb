/- A script's lines, as the program writes them; no condition but the sizes. -/
import Derived.Test.YtjcjmjnajhkdaaaDoorScrJ
import Derived.Test.YtjcjmjnajhkdaaaDoorHeld
namespace Go.Proofs.YtjcjmjnajhkdaaaDoor
open Go.RowKit
set_option linter.unusedVariables false
set_option linter.unusedSimpArgs false
set_option maxRecDepth 100000

/-- The walk of a region that draws stands at this operation. -/
theorem at_step {P : Program} {ops : Array Oper} {Q : Exit → Act → World → Prop} {K : Act → World → Prop} {E : Prop} {a : Act} {w : World} (o : Oper) (h : if Region.wanted o (yielded ops a.tmps) = true then Oper.wp P o a w K Q else E) : if Region.wanted o (yielded ops a.tmps) = true then Oper.wp P o a w K Q else E := h
/-- The lines so far, in a row of the call's own. -/
structure LO (w : World) (cs : Array Value) (acc : List (List UInt8)) (v : Value) (W : World) : Prop where
  row : Row W 9 1 v acc.length (strVs acc)
  own : ∀ b, v.ownBlock = some b → w.heap.size + 1 ≤ b
  low : Pure' w W
  box : Blk W w.heap.size 29 cs
theorem LO.pure {w W W' : World} {cs : Array Value} {acc : List (List UInt8)} {v : Value} (h : LO w cs acc v W) (hk : Pure' W W') : LO w cs acc v W' :=
  ⟨h.row.keep hk (fun _ _ hf => hf), h.own, h.low.then_ hk, h.box.keep hk (fun hf => hf)⟩
theorem LO.drew {w W : World} {cs : Array Value} {acc : List (List UInt8)} {v : Value} (h : LO w cs acc v W) : LO w cs acc v W.drew := ⟨h.row.drew, h.own, h.low.drew, h.box.drew⟩
/-- One line more. -/
theorem LO.more {w W W' : World} {cs : Array Value} {acc : List (List UInt8)} {v : Value} (h : LO w cs acc v W) {x : List UInt8} {y : ByteArray} (hy : y = ⟨x.toArray⟩) {g cap : Nat} (hr : Row W' 9 1 (.slice (some ⟨g, 0, none⟩) (acc.length + 1) cap) (acc.length + 1) (strVs acc ++ [.string y]))
    (hg : (W.alloc (.cells #[.string y] 9)).grownBy W' v.ownBlock) (hw : v.ownBlock = some g ∨ g = W.heap.size + 1) : LO w cs (acc ++ [x]) (.slice (some ⟨g, 0, none⟩) (acc.length + 1) cap) W' := by
  subst hy
  have hb := h.box.lt
  refine ⟨by simpa [strVs] using hr, ?_, (h.low.alloc _).grown hg (fun k hk => .inr (by have := h.own k hk; omega)), (h.box.alloc _).grown hg (fun e => by have := h.own _ e; omega)⟩
  intro b e
  simp [Value.ownBlock] at e
  subst e
  rcases hw with h1 | h1
  · exact h.own _ h1
  · omega

/-- The words of edits, in a row of the call's own. -/
theorem kindsB_ (w : World) : Calls Tryd.prog 57 #[] w fun e w' => e = .returned (.slice (some ⟨w.heap.size, 0, none⟩) 11 11) ∧ Blk w' w.heap.size 9 (strVs kindW).toArray ∧ Pure' w w' := by
  have HS := Lib.hid (Blk.new w 9 (strVs kindW).toArray)
  have HP := Lib.hid ((Keeps.refl (fun _ => False) w).alloc (.cells (strVs kindW).toArray 9))
  go_enter Tryd.func57, Tryd.ntmps57
  go_wp2
  go_ret
  exact ⟨rfl, HS.out, HP.out⟩
theorem kind_at : ∀ kn : Nat, kn < 11 → ∃ xw : List UInt8, kindW[kn]? = some xw ∧ (strVs kindW).toArray[kn]? = some (.string ⟨xw.toArray⟩) ∧ xw.length ≤ 10 := by
  intro kn h
  match kn, h with
  | 0, _ => exact ⟨_, rfl, rfl, by decide⟩
  | 1, _ => exact ⟨_, rfl, rfl, by decide⟩
  | 2, _ => exact ⟨_, rfl, rfl, by decide⟩
  | 3, _ => exact ⟨_, rfl, rfl, by decide⟩
  | 4, _ => exact ⟨_, rfl, rfl, by decide⟩
  | 5, _ => exact ⟨_, rfl, rfl, by decide⟩
  | 6, _ => exact ⟨_, rfl, rfl, by decide⟩
  | 7, _ => exact ⟨_, rfl, rfl, by decide⟩
  | 8, _ => exact ⟨_, rfl, rfl, by decide⟩
  | 9, _ => exact ⟨_, rfl, rfl, by decide⟩
  | 10, _ => exact ⟨_, rfl, rfl, by decide⟩
theorem LO.len {w W : World} {cs : Array Value} {acc : List (List UInt8)} {v : Value} (h : LO w cs acc v W) : LO w cs acc v W := h

set_option maxHeartbeats 2000000 in
theorem lines_ (v0 v1 v5 v6 : Value) (s : Sc) (w : World) (h : ScR w v0 v1 v5 v6 s) (hc : checkV s = true) (hn : NumsOk s) (hlp : ∀ p ∈ s.pats, p.length ≤ 100000) (hlq : ∀ p ∈ s.parts, p.length ≤ 100000) :
    Calls Tryd.prog 27 #[scV v0 v1 v5 v6 s] w fun e w' => ∃ v, e = .returned v ∧ Row w' 9 1 v (rowsL s).length (strVs (rowsL s)) ∧ Pure' w w' := by
  obtain ⟨i0, hi, hz0, hz1, hz2⟩ := info_parts strInfo
  obtain ⟨c1, c2, c3, c4, c5, c6⟩ := check_parts hc
  obtain ⟨a0, k0, rfl, s0⟩ := h.p0
  obtain ⟨a1, k1, rfl, s1⟩ := h.p1
  obtain ⟨a5, k5, rfl, s5⟩ := h.p5
  obtain ⟨a6, k6, rfl, s6⟩ := h.p6
  have HS0 := Lib.hid s0
  have HS1 := Lib.hid s1
  have HS5 := Lib.hid s5
  have HS6 := Lib.hid s6
  have HL0 := Lib.hid hlp
  have HL1 := Lib.hid hlq
  have HN := Lib.hid hn
  have HC5 := Lib.hid c5
  have HC6 := Lib.hid c6
  have b0 : s.pats.length ≤ 400 := by omega
  have b1 : s.parts.length ≤ 400 := by omega
  have b5 : s.edits.length ≤ 400 := by omega
  obtain ⟨np, hnp⟩ : ∃ np, s.pats.length = np := ⟨_, rfl⟩
  obtain ⟨nq, hnq⟩ : ∃ nq, s.parts.length = nq := ⟨_, rfl⟩
  obtain ⟨ne, hne⟩ : ∃ ne, s.edits.length = ne := ⟨_, rfl⟩
  obtain ⟨nc, hnc⟩ : ∃ nc, s.certs.length = nc := ⟨_, rfl⟩
  have HNP := Lib.hid hnp
  have HNQ := Lib.hid hnq
  have HNE := Lib.hid hne
  have HNC := Lib.hid hnc
  rw [hnp] at b0 HS0 ⊢
  rw [hnq] at b1 HS1 ⊢
  rw [hne] at b5 HS5 ⊢
  rw [hnc] at c2 HS6 ⊢
  unfold scV
  obtain ⟨cs, hcs⟩ : ∃ cs : Array Value, #[.slice a0 np k0, .slice a1 nq k1, .int .i64 s.table, .bool s.skip, .int .i64 s.every, .slice a5 ne k5, .slice a6 nc k6] = cs := ⟨_, rfl⟩
  have HLO := Lib.hid (show LO w cs [] (.slice none 0 0) (w.alloc (.cells #[.slice a0 np k0, .slice a1 nq k1, .int .i64 s.table, .bool s.skip, .int .i64 s.every, .slice a5 ne k5, .slice a6 nc k6] 29)) from ⟨Row.nil _ _ _, (fun b hb => by simp [Value.ownBlock] at hb), (Keeps.refl _ w).alloc _, by rw [← hcs]; exact Blk.new _ _ _⟩)
  have HCS := Lib.hid hcs
  clear hlp hlq hn hc h s0 s1 s5 s6 c1 c5 c6 hcs hnp hnq hne hnc
  go_enter Tryd.func27, Tryd.ntmps27
  go_wp2
  go_loopw [3, 14] (fun v3 v14 wr => ∃ k : Nat, k ≤ np ∧ v14 = .int .i64 k ∧ LO w cs (([] : List (List UInt8)) ++ (s.pats.take k).map (fun p => sp wPattern (quoteL p))) v3 wr) (fun _ v14 _ => np - (intOf v14).toNat)
  case atStart => exact ⟨0, Nat.zero_le _, rfl, by simpa using HLO.out⟩
  case round =>
    obtain ⟨k, hk, rfl, hlo⟩ := hrel
    obtain ⟨a, cp, rfl, hcp⟩ := hlo.row.form
    obtain ⟨acc, hacc⟩ : ∃ acc, ([] : List (List UInt8)) ++ (s.pats.take k).map (fun p => sp wPattern (quoteL p)) = acc := ⟨_, rfl⟩
    have hal : acc.length ≤ 2000 := by
      have e1 := HNP.out
      have e2 := HNQ.out
      rw [← hacc]
      simp
      omega
    rw [hacc] at hlo ⊢
    have HO := Lib.hid hlo
    have HACC := Lib.hid hacc
    clear hlo hacc
    by_cases hlt : k < np
    · obtain ⟨ad, p, rfl, hp, hc⟩ := word_at (HS0.out.pure HO.out.low (Nat.le_refl _)) hlt
      have HPk := Lib.hid hp
      have hpl := HL0.out p (List.mem_of_getElem? hp)
      have HQ := Lib.hid (fun w => quote_ p w (by omega))
      have hql := quote_len p
      have hqs : (⟨(quoteL p).toArray⟩ : ByteArray).size ≤ 1000000 := by simp [ByteArray.size]; omega
      have hql2 : (quoteL p).length ≤ 1000000 := by omega
      clear hp hql
      go_wp2_with (first
        | (go_at_call 54; refine (HQ.out _).mono ?_; rintro e w1 ⟨rfl, hk⟩; have HO1 := Lib.hid (HO.out.pure hk); clear hk hc)
        | (at_builtin; refine wpl_append _ rfl (.tmp 18) (.tmp 22) 23 rfl 9 i0 (.string ByteArray.empty) 1 16 Tryd.underlying23 hi hz0 hz1 hz2 rfl (by decide) (.slice a acc.length cp) acc.length (strVs acc) rfl ?own ⟨w1.heap.size, 0, none⟩ 1 1 [.string (⟨#[112, 97, 116, 116, 101, 114, 110, 32]⟩ ++ ⟨(quoteL p).toArray⟩)] rfl rfl ?news ?one (by decide) ?b1 ?b2 ?k))
      case own => exact Row.alloc HO1.out.row _
      case news => exact news1
      case one => first | rfl | exact strV_one _
      case b1 => unfold maxLen; omega
      case b2 => omega
      case k =>
        intro g6 cap6 w2 hr6 hg6 hw6 hl6
        have HM := Lib.hid (HO1.out.more (x := sp wPattern (quoteL p)) (bytes_eq (by simp [sp, wPattern])) hr6 hg6 (by simpa using hw6))
        clear hr6 hg6 hw6
        go_wp2
        go_roundw
        case rel =>
          refine ⟨k + 1, by omega, by go_num, ?_⟩
          have e1 : ([] : List (List UInt8)) ++ (s.pats.take (k + 1)).map (fun p => sp wPattern (quoteL p)) = acc ++ [sp wPattern (quoteL p)] := by
            rw [List.take_add_one, HPk.out, ← HACC.out]; simp
          rw [e1]
          have := HM.out
          simpa using this
        case measure => simp [intOf]; omega
    · obtain rfl : np = k := by omega
      have HACC2 := Lib.hid (show acc = ([] : List (List UInt8)) ++ s.pats.map (fun p => sp wPattern (quoteL p)) by
        have := HACC.out
        rw [← HNP.out, List.take_length] at this
        exact this.symm)
      clear HACC
      obtain rfl : acc = s.pats.map (fun p => sp wPattern (quoteL p)) := by simpa using HACC2.out
      have x1 : wr.cell? ⟨w.heap.size, 1, none⟩ = some (.slice a1 nq k1) := by rw [HO.out.box.cell, ← HCS.out]; rfl
      have HLO2 := Lib.hid HO.out
      clear HACC2 HO
      go_wp2
      go_loopw [3, 28] (fun v3 v14 wr => ∃ k : Nat, k ≤ nq ∧ v14 = .int .i64 k ∧ LO w cs (s.pats.map (fun p => sp wPattern (quoteL p)) ++ (s.parts.take k).map (fun p => sp wPart (quoteL p))) v3 wr) (fun _ v14 _ => nq - (intOf v14).toNat)
      case atStart => exact ⟨0, Nat.zero_le _, rfl, by simpa using HLO2.out⟩
      case round =>
        obtain ⟨k, hk, rfl, hlo⟩ := hrel
        obtain ⟨a, cp, rfl, hcp⟩ := hlo.row.form
        obtain ⟨acc, hacc⟩ : ∃ acc, s.pats.map (fun p => sp wPattern (quoteL p)) ++ (s.parts.take k).map (fun p => sp wPart (quoteL p)) = acc := ⟨_, rfl⟩
        have hal : acc.length ≤ 2000 := by
          have e1 := HNP.out
          have e2 := HNQ.out
          rw [← hacc]
          simp
          omega
        rw [hacc] at hlo ⊢
        have HO := Lib.hid hlo
        have HACC := Lib.hid hacc
        clear hlo hacc
        by_cases hlt : k < nq
        · obtain ⟨ad, p, rfl, hp, hc⟩ := word_at (HS1.out.pure HO.out.low (Nat.le_refl _)) hlt
          have HPk := Lib.hid hp
          have hpl := HL1.out p (List.mem_of_getElem? hp)
          have HQ := Lib.hid (fun w => quote_ p w (by omega))
          have hql := quote_len p
          have hqs : (⟨(quoteL p).toArray⟩ : ByteArray).size ≤ 1000000 := by simp [ByteArray.size]; omega
          have hql2 : (quoteL p).length ≤ 1000000 := by omega
          clear hp hql
          go_wp2_with (first
            | (go_at_call 54; refine (HQ.out _).mono ?_; rintro e w1 ⟨rfl, hk⟩; have HO1 := Lib.hid (HO.out.pure hk); clear hk hc)
            | (at_builtin; refine wpl_append _ rfl (.tmp 32) (.tmp 36) 23 rfl 9 i0 (.string ByteArray.empty) 1 16 Tryd.underlying23 hi hz0 hz1 hz2 rfl (by decide) (.slice a acc.length cp) acc.length (strVs acc) rfl ?own2 ⟨w1.heap.size, 0, none⟩ 1 1 [.string (⟨#[112, 97, 114, 116, 32]⟩ ++ ⟨(quoteL p).toArray⟩)] rfl rfl ?news2 ?one2 (by decide) ?b12 ?b22 ?k2))
          case own2 => exact Row.alloc HO1.out.row _
          case news2 => exact news1
          case one2 => first | rfl | exact strV_one _
          case b12 => unfold maxLen; omega
          case b22 => omega
          case k2 =>
            intro g6 cap6 w2 hr6 hg6 hw6 hl6
            have HM := Lib.hid (HO1.out.more (x := sp wPart (quoteL p)) (bytes_eq (by simp [sp, wPart])) hr6 hg6 (by simpa using hw6))
            clear hr6 hg6 hw6
            go_wp2
            go_roundw
            case rel =>
              refine ⟨k + 1, by omega, by go_num, ?_⟩
              have e1 : s.pats.map (fun p => sp wPattern (quoteL p)) ++ (s.parts.take (k + 1)).map (fun p => sp wPart (quoteL p)) = acc ++ [sp wPart (quoteL p)] := by
                rw [List.take_add_one, HPk.out, ← HACC.out]; simp
              rw [e1]
              have := HM.out
              simpa using this
            case measure => simp [intOf]; omega
        · obtain rfl : nq = k := by omega
          have HACC2 := Lib.hid (show acc = s.pats.map (fun p => sp wPattern (quoteL p)) ++ s.parts.map (fun p => sp wPart (quoteL p)) by
            have := HACC.out
            rw [← HNQ.out, List.take_length] at this
            exact this.symm)
          clear HACC
          have HACC3 := Lib.hid HACC2.out
          obtain ⟨tn, htn⟩ : ∃ tn : Nat, s.table = (tn : Int) := ⟨s.table.toNat, by omega⟩
          have htn4 : tn < 4 := by omega
          have htn0 : (0 : Int) ≤ (tn : Int) := by omega
          have htn5 : (tn : Int) < 4 := by omega
          have HTN := Lib.hid htn
          have HCS2 := Lib.hid (show #[.slice a0 np k0, .slice a1 nq k1, .int .i64 (tn : Int), .bool s.skip, .int .i64 s.every, .slice a5 ne k5, .slice a6 nc k6] = cs by rw [← htn]; exact HCS.out)
          clear htn HCS
          obtain ⟨sk, hsk⟩ : ∃ sk, s.skip = sk := ⟨_, rfl⟩
          rw [hsk] at HCS2
          have HSK := Lib.hid hsk
          clear hsk
          have x3 : wr.cell? ⟨w.heap.size, 3, none⟩ = some (.bool sk) := by rw [HO.out.box.cell, ← HCS2.out]; rfl
          have HT := Lib.hid tables_
          have HTX := Lib.hid (fun w => text_ s.every w (by omega) (by omega))
          have htl := textL_len (z := s.every) (by omega) (by omega)
          have HBX := Lib.hid (fun (W : World) (hL : Blk W w.heap.size 29 cs) => (⟨by rw [hL.cell, ← HCS2.out]; rfl, by rw [hL.cell, ← HCS2.out]; rfl⟩ : W.cell? ⟨w.heap.size, 2, none⟩ = some (.int .i64 (tn : Int)) ∧ W.cell? ⟨w.heap.size, 4, none⟩ = some (.int .i64 s.every)))
          have hxl : ∀ (x : List UInt8), tabW[tn]? = some x → x.length ≤ 10 := by
            intro x hx
            match tn, htn4, hx with
            | 0, _, hx => simp [tabW] at hx; subst hx; decide
            | 1, _, hx => simp [tabW] at hx; subst hx; decide
            | 2, _, hx => simp [tabW] at hx; subst hx; decide
            | 3, _, hx => simp [tabW] at hx; subst hx; decide
          have HXL := Lib.hid hxl
          clear hxl
          have hwl := HO.out.box.lt
          obtain ⟨how, hhow⟩ : ∃ how : List UInt8, 32 :: (if sk then wSkip else wStep) ++ [32] = how := ⟨_, rfl⟩
          have hhl : how.length = 6 := by rw [← hhow]; cases sk <;> rfl
          have hhl2 : how.length ≤ 6 := by omega
          clear hhl
          have HHow := Lib.hid hhow
          clear hhow
          have HSC := Lib.hid (show ∀ xw : List UInt8, tabW[tn]? = some xw → ∀ y : ByteArray, y = ((⟨#[115, 99, 97, 110, 32]⟩ ++ ⟨xw.toArray⟩) ++ ⟨how.toArray⟩) ++ ⟨(textL s.every).toArray⟩ → y = ⟨(scanL s).toArray⟩ by
            rintro xw hxw y rfl
            have e1 : tabW.getD s.table.toNat [] = xw := by rw [HTN.out, Int.toNat_natCast, List.getD_eq_getElem?_getD, hxw]; rfl
            unfold scanL
            rw [e1, HSK.out, ← HHow.out]
            exact bytes_eq (by cases sk <;> simp [sp, wScan, wSkip, wStep]))
          go_upto_if 41 with fail
          go_cut [8] (fun s8 wx => s8 = .string ⟨how.toArray⟩ ∧ wx = wr)
          case first =>
            cases sk
            · go_wp2
              go_meet
              exact ⟨by rw [← HHow.out]; rfl, rfl⟩
            · go_wp2
              go_meet
              exact ⟨by rw [← HHow.out]; rfl, rfl⟩
          case rest =>
            obtain ⟨rfl, rfl⟩ := hcut
            clear x3
            go_upto_region 15 with fail
            obtain ⟨y2, y4⟩ := HBX.out wc.drew HO.out.box.drew
            go_cut [3] (fun v3 wx => LO w cs (acc ++ [scanL s]) v3 wx)
            case first =>
              go_region_law (first
                | ((with_reducible refine at_step ⟨some 58, _, _, _, _, _⟩ ?_); refine step_append_lies _ rfl (.tmp 42) (.tmp 57) 23 rfl 0 9 i0 (.string ByteArray.empty) 1 16 Tryd.underlying23 hi hz0 hz1 hz2 rfl (by decide) (.slice a acc.length cp) acc.length (strVs acc) rfl (Row.alloc HO4.out.row _) ⟨w2.heap.size, 0, none⟩ 1 1 [_] rfl rfl news1 (strV_one _) (by decide) (by unfold maxLen; omega) (by omega) (Nat.zero_le _) (w2.heap.size + 1) (by simp) ?_; intro g6 cap6 w5 hr6 hg6 hw6 hl6; have HM6 := Lib.hid (HO4.out.more (x := scanL s) (HSC.out xw HXW.out _ rfl) hr6 hg6 hw6); clear hr6 hg6 hw6)
                | (go_simp; go_at_call 55; refine (HT.out _).mono ?_; rintro e w1 ⟨A2, cc2, rfl, hs2, hk2⟩; have HO3 := Lib.hid (HO.out.drew.pure hk2); obtain ⟨ad2, xw, rfl, hxw, cw⟩ := word_at hs2 htn4; have hxwl := HXL.out xw hxw; have s1 : ¬ 9223372036854775807 < 5 + xw.length := (by omega); have s2 : ¬ 9223372036854775807 < 5 + xw.length + how.length := (by omega); have s3 : ¬ 9223372036854775807 < 5 + xw.length + how.length + (textL s.every).length := (by omega); have HXW := Lib.hid hxw; obtain ⟨m2, m4⟩ := HBX.out w1 HO3.out.box; clear hs2 hk2 hxw)
                | (go_simp; go_at_call 56; refine (HTX.out _).mono ?_; rintro e w2 ⟨rfl, hk2⟩; have HO4 := Lib.hid (HO3.out.pure hk2); have cw2 := keepc cw hk2; obtain ⟨n2, n4⟩ := HBX.out w2 HO4.out.box; clear hk2))
              all_goals
                go_wp2_with fail
                go_meet
                exact HM6.out.len
            case rest =>
              obtain ⟨acc4, hacc4⟩ : ∃ acc4, acc ++ [scanL s] = acc4 := ⟨_, rfl⟩
              rw [hacc4] at hcut
              have hal4 : acc4.length ≤ 2001 := by rw [← hacc4]; simp; omega
              have HL4 := Lib.hid hcut
              obtain ⟨a3, cp3, rfl, hcp3⟩ := HL4.out.row.form
              have HR4 := Lib.hid (show acc4 = s.pats.map (fun p => sp wPattern (quoteL p)) ++ (s.parts.map (fun p => sp wPart (quoteL p)) ++ [scanL s]) by rw [← hacc4, HACC3.out]; simp)
              clear hcut hacc4
              have x5 : wc.cell? ⟨w.heap.size, 5, none⟩ = some (.slice a5 ne k5) := by rw [HL4.out.box.cell, ← HCS2.out]; rfl
              go_wp2
              go_loopw [3, 62] (fun v3 v62 wr => ∃ k : Nat, k ≤ ne ∧ v62 = .int .i64 k ∧ LO w cs (acc4 ++ (s.edits.take k).map editL) v3 wr) (fun _ v62 _ => ne - (intOf v62).toNat)
              case atStart => exact ⟨0, Nat.zero_le _, rfl, by simpa using HL4.out⟩
              case round =>
                obtain ⟨k, hk, rfl, hlo⟩ := hrel
                obtain ⟨a3, cp3, rfl, hcp3⟩ := hlo.row.form
                obtain ⟨acc5, hacc5⟩ : ∃ acc5, acc4 ++ (s.edits.take k).map editL = acc5 := ⟨_, rfl⟩
                have hal5 : acc5.length ≤ 3000 := by
                  have e1 := HNE.out
                  rw [← hacc5]
                  simp
                  omega
                rw [hacc5] at hlo ⊢
                have HO5 := Lib.hid hlo
                have HACC5 := Lib.hid hacc5
                clear hlo hacc5 x5
                by_cases hlt : k < ne
                · obtain ⟨ad, e0, rfl, he0, p0, p1, p2⟩ := ed_at (HS5.out.pure HO5.out.low (Nat.le_refl _)) hlt
                  have HEK := Lib.hid he0
                  have hem := List.mem_of_getElem? he0
                  obtain ⟨hk1, hk2⟩ := HC5.out e0 hem
                  obtain ⟨⟨hi1, hi2⟩, hn1, hn2⟩ := HN.out e0 hem
                  obtain ⟨ek, ei, en⟩ := e0
                  dsimp only at p0 p1 p2 hk1 hk2 hi1 hi2 hn1 hn2
                  unfold iMin at hi1 hn1
                  unfold iMax at hi2 hn2
                  obtain ⟨kn, rfl⟩ : ∃ kn : Nat, ek = (kn : Int) := ⟨ek.toNat, by omega⟩
                  have hkn : kn < 11 := by omega
                  obtain ⟨xw, hxw, hxc, hxl⟩ := kind_at kn hkn
                  have HXC := Lib.hid hxc
                  have HEL := Lib.hid (show ∀ y : ByteArray, y = ((((((⟨#[115, 112, 111, 105, 108, 32]⟩ ++ ⟨xw.toArray⟩) ++ ⟨#[32]⟩) ++ ⟨(textL ei).toArray⟩) ++ ⟨#[32]⟩) ++ ⟨(textL en).toArray⟩) : ByteArray) → y = ⟨(editL ((kn : Int), ei, en)).toArray⟩ by
                    rintro y rfl
                    have e1 : kindW.getD (kn : Int).toNat [] = xw := by rw [Int.toNat_natCast, List.getD_eq_getElem?_getD, hxw]; rfl
                    unfold editL
                    dsimp only
                    rw [e1]
                    exact bytes_eq (by simp [sp, wSpoil]))
                  have HTI := Lib.hid (fun w => text_ ei w hi1 hi2)
                  have HTN := Lib.hid (fun w => text_ en w hn1 hn2)
                  have hti := textL_len (z := ei) hi1 hi2
                  have htn := textL_len (z := en) hn1 hn2
                  have HKB := Lib.hid kindsB_
                  have hkn0 : (0 : Int) ≤ (kn : Int) := by omega
                  have hkn1 : (kn : Int) < 11 := by omega
                  clear he0 hem hk1 hk2 hi1 hi2 hn1 hn2 hxw hxc
                  have hlw := HO5.out.low.size
                  have hwl := HO5.out.box.lt
                  have HO6 := Lib.hid (show LO w cs acc5 (.slice a3 acc5.length cp3) (wr.alloc (.cells #[.int .i64 (kn : Int), .int .i64 ei, .int .i64 en] 61)) from
                    ⟨HO5.out.row.alloc _, HO5.out.own, HO5.out.low.alloc _, HO5.out.box.alloc _⟩)
                  have HB6 := Lib.hid (show Blk (wr.alloc (.cells #[.int .i64 (kn : Int), .int .i64 ei, .int .i64 en] 61)) wr.heap.size 61 #[.int .i64 (kn : Int), .int .i64 ei, .int .i64 en] from Blk.new wr 61 #[.int .i64 (kn : Int), .int .i64 ei, .int .i64 en])
                  have HBN := Lib.hid (Blk.new wr 61 #[.int .i64 0, .int .i64 0, .int .i64 0])
                  go_upto_region 19 with ((with_reducible refine at_op ⟨none, .store 61 (.tmp 10) (.tmp 65), _, _, _, _⟩ ?_); refine wpList_store_row rfl 61 (.tmp 10) (.tmp 65) rfl wr.heap.size #[.int .i64 (kn : Int), .int .i64 ei, .int .i64 en] rfl rfl 61 _ HBN.out (by kernel_rfl) rfl rfl ?_)
                  clear p0 p1 p2 HBN
                  generalize (wr.alloc (.cells #[.int .i64 (kn : Int), .int .i64 ei, .int .i64 en] 61)) = wq at *
                  have hbq := HB6.out.lt
                  have hown5 := HO5.out.row.lt
                  obtain ⟨hb, hhb⟩ : ∃ hb, wr.heap.size = hb := ⟨_, rfl⟩
                  rw [hhb] at HB6 hbq hown5 ⊢
                  have hownB : ¬ (Value.slice a3 acc5.length cp3).ownBlock = some hb := fun e => by have := hown5 _ e; omega
                  obtain ⟨hq, hhq⟩ : ∃ hq, wq.heap.size = hq := ⟨_, rfl⟩
                  rw [hhq] at hbq
                  have hownQ : ¬ (Value.slice a3 acc5.length cp3).ownBlock = some hq := fun e => by have := hown5 _ e; omega
                  clear hown5
                  have HQ := Lib.hid hhq
                  clear hhb hhq
                  
                  refine wp_region_held_drew (S := (fun W => Keeps (fun b => (Value.slice a3 acc5.length cp3).ownBlock = some b) wq W)) (by kernel_rfl) (Keeps.refl _ wq).drew (fun hHeld => ?_)
                  have HH := Lib.hid hHeld
                  clear hHeld
                  refine wpAnyH_take (i := 0) (oi := ⟨some 66, .move (.tmp 3), _, _, _, _⟩) (v := ?vv1) rfl (by kernel_rfl) (by kernel_rfl) (by kernel_rfl) (fun _ _ _ h => h) (Or.inl ⟨by rfl, ?hy1⟩) HH.out ?rr1
                  case hy1 => intro W hSw; go_simp; try with_reducible rfl
                  try simp only [Act.put, List.setIfInBounds_toArray, List.set_cons_zero, List.set_cons_succ]
                  refine wpAnyH_take (i := 2) (oi := ⟨some 68, .fieldAddr 61 (.tmp 10) 0, _, _, _, _⟩) (v := ?vv2) rfl (by kernel_rfl) (by kernel_rfl) (by kernel_rfl) (fun _ _ _ h => h) (Or.inl ⟨by rfl, ?hy2⟩) HH.out ?rr2
                  case hy2 => intro W hSw; go_simp; try with_reducible rfl
                  try simp only [Act.put, List.setIfInBounds_toArray, List.set_cons_zero, List.set_cons_succ]
                  refine wpAnyH_take (i := 3) (oi := ⟨some 69, .load 3 (.tmp 68), _, _, _, _⟩) (v := ?vv3) rfl (by kernel_rfl) (by kernel_rfl) (by kernel_rfl) (fun _ _ _ h => h) (Or.inl ⟨by rfl, ?hy3⟩) HH.out ?rr3
                  case hy3 => intro W hSw; have y := (HB6.out.keep hSw hownB).cell 0; go_simp; try with_reducible rfl
                  try simp only [Act.put, List.setIfInBounds_toArray, List.set_cons_zero, List.set_cons_succ]
                  refine wpAnyH_take (i := 8) (oi := ⟨some 74, .fieldAddr 61 (.tmp 10) 1, _, _, _, _⟩) (v := ?vv4) rfl (by kernel_rfl) (by kernel_rfl) (by kernel_rfl) (fun _ _ _ h => h) (Or.inl ⟨by rfl, ?hy4⟩) HH.out ?rr4
                  case hy4 => intro W hSw; go_simp; try with_reducible rfl
                  try simp only [Act.put, List.setIfInBounds_toArray, List.set_cons_zero, List.set_cons_succ]
                  refine wpAnyH_take (i := 9) (oi := ⟨some 75, .load 3 (.tmp 74), _, _, _, _⟩) (v := ?vv5) rfl (by kernel_rfl) (by kernel_rfl) (by kernel_rfl) (fun _ _ _ h => h) (Or.inl ⟨by rfl, ?hy5⟩) HH.out ?rr5
                  case hy5 => intro W hSw; have y := (HB6.out.keep hSw hownB).cell 1; go_simp; try with_reducible rfl
                  try simp only [Act.put, List.setIfInBounds_toArray, List.set_cons_zero, List.set_cons_succ]
                  refine wpAnyH_take (i := 13) (oi := ⟨some 79, .fieldAddr 61 (.tmp 10) 2, _, _, _, _⟩) (v := ?vv6) rfl (by kernel_rfl) (by kernel_rfl) (by kernel_rfl) (fun _ _ _ h => h) (Or.inl ⟨by rfl, ?hy6⟩) HH.out ?rr6
                  case hy6 => intro W hSw; go_simp; try with_reducible rfl
                  try simp only [Act.put, List.setIfInBounds_toArray, List.set_cons_zero, List.set_cons_succ]
                  refine wpAnyH_take (i := 14) (oi := ⟨some 80, .load 3 (.tmp 79), _, _, _, _⟩) (v := ?vv7) rfl (by kernel_rfl) (by kernel_rfl) (by kernel_rfl) (fun _ _ _ h => h) (Or.inl ⟨by rfl, ?hy7⟩) HH.out ?rr7
                  case hy7 => intro W hSw; have y := (HB6.out.keep hSw hownB).cell 2; go_simp; try with_reducible rfl
                  try simp only [Act.put, List.setIfInBounds_toArray, List.set_cons_zero, List.set_cons_succ]
                  refine wpAnyH_ready (rs := [1]) (by kernel_rfl) (by simp) ?_
                  refine AllReadyH.cons (o := ⟨some 67, .call { callee := .value (.func 57), args := #[], argTypes := #[] }, _, _, _, _⟩) rfl (fun K hK => ?_) AllReadyH.nil
                  go_simp
                  go_at_call 57
                  refine (HKB.out _).mono ?_
                  rintro e w1 ⟨rfl, hbk, hk⟩
                  rw [show wq.drew.heap.size = hq from HQ.out] at hbk ⊢
                  have HK1 := Lib.hid hk
                  have HBK := Lib.hid hbk
                  clear hk hbk
                  go_wp2_with fail
                  refine hK.out _ _ ((Keeps.refl _ wq).drew.then_ HK1.out) (fun hHeld => ?_)
                  have HH := Lib.hid hHeld
                  clear hHeld hK K
                  try simp only [Act.put, List.setIfInBounds_toArray, List.set_cons_zero, List.set_cons_succ]
                  refine wpAnyH_stronger (S' := (fun W => Keeps (fun b => (Value.slice a3 acc5.length cp3).ownBlock = some b) wq W ∧ Blk W hq 9 (strVs kindW).toArray)) (fun _ h => h.1) _ _ _ _ ?_
                  replace HH := Lib.hid (show (fun W => Keeps (fun b => (Value.slice a3 acc5.length cp3).ownBlock = some b) wq W ∧ Blk W hq 9 (strVs kindW).toArray) w1 from ⟨HH.out, HBK.out⟩)
                  have HO7 := Lib.hid (HO6.out.drew.pure HK1.out)
                  refine wpAnyH_take (i := 4) (oi := ⟨some 70, .indexAddr 23 (.tmp 67) (.tmp 69), _, _, _, _⟩) (v := ?vv8) rfl (by kernel_rfl) (by kernel_rfl) (by kernel_rfl) (fun _ _ _ h => h) (Or.inl ⟨by rfl, ?hy8⟩) HH.out ?rr8
                  case hy8 => intro W hSw; go_simp; try with_reducible rfl
                  try simp only [Act.put, List.setIfInBounds_toArray, List.set_cons_zero, List.set_cons_succ]
                  refine wpAnyH_take (i := 5) (oi := ⟨some 71, .load 9 (.tmp 70), _, _, _, _⟩) (v := ?vv9) rfl (by kernel_rfl) (by kernel_rfl) (by kernel_rfl) (fun _ _ _ h => h) (Or.inl ⟨by rfl, ?hy9⟩) HH.out ?rr9
                  case hy9 => intro W hSw; have y : W.cell? ⟨hq, kn, none⟩ = some (.string ⟨xw.toArray⟩) := (hSw.2.cell kn).trans HXC.out; go_simp; try with_reducible rfl
                  try simp only [Act.put, List.setIfInBounds_toArray, List.set_cons_zero, List.set_cons_succ]
                  have s1 : ¬ 9223372036854775807 < 6 + xw.length := by omega
                  have s2 : ¬ 9223372036854775807 < 6 + xw.length + 1 := by omega
                  have s3 : ¬ 9223372036854775807 < 6 + xw.length + 1 + (textL ei).length := by omega
                  have s4 : ¬ 9223372036854775807 < 6 + xw.length + 1 + (textL ei).length + 1 := by omega
                  have s5 : ¬ 9223372036854775807 < 6 + xw.length + 1 + (textL ei).length + 1 + (textL en).length := by omega
                  refine wpAnyH_take (i := 6) (oi := ⟨some 72, .binOp .add 9 (.const (.string { data := #[115, 112, 111, 105, 108, 32] })) (.tmp 71) 9, _, _, _, _⟩) (v := ?vv10) rfl (by kernel_rfl) (by kernel_rfl) (by kernel_rfl) (fun _ _ _ h => h) (Or.inl ⟨by rfl, ?hy10⟩) HH.out ?rr10
                  case hy10 => intro W hSw; go_simp; try with_reducible rfl
                  try simp only [Act.put, List.setIfInBounds_toArray, List.set_cons_zero, List.set_cons_succ]
                  refine wpAnyH_take (i := 7) (oi := ⟨some 73, .binOp .add 9 (.tmp 72) (.const (.string { data := #[32] })) 9, _, _, _, _⟩) (v := ?vv11) rfl (by kernel_rfl) (by kernel_rfl) (by kernel_rfl) (fun _ _ _ h => h) (Or.inl ⟨by rfl, ?hy11⟩) HH.out ?rr11
                  case hy11 => intro W hSw; go_simp; try with_reducible rfl
                  try simp only [Act.put, List.setIfInBounds_toArray, List.set_cons_zero, List.set_cons_succ]
                  refine wpAnyH_ready (rs := [10]) (by kernel_rfl) (by simp) ?_
                  refine AllReadyH.cons (o := ⟨some 76, .call { callee := .value (.func 56), args := #[.tmp 75], argTypes := #[3] }, _, _, _, _⟩) rfl (fun K hK => ?_) AllReadyH.nil
                  go_simp
                  go_at_call 56
                  refine (HTI.out _).mono ?_
                  rintro e w2 ⟨rfl, hk⟩
                  have HK2 := Lib.hid hk
                  clear hk
                  go_wp2_with fail
                  refine hK.out _ _ (⟨HH.out.1.then_ HK2.out, HH.out.2.keep HK2.out (fun hf => hf)⟩) (fun hHeld => ?_)
                  have HH := Lib.hid hHeld
                  clear hHeld hK K
                  try simp only [Act.put, List.setIfInBounds_toArray, List.set_cons_zero, List.set_cons_succ]
                  have HO8 := Lib.hid (HO7.out.pure HK2.out)
                  refine wpAnyH_take (i := 11) (oi := ⟨some 77, .binOp .add 9 (.tmp 73) (.tmp 76) 9, _, _, _, _⟩) (v := ?vv12) rfl (by kernel_rfl) (by kernel_rfl) (by kernel_rfl) (fun _ _ _ h => h) (Or.inl ⟨by rfl, ?hy12⟩) HH.out ?rr12
                  case hy12 => intro W hSw; go_simp; try with_reducible rfl
                  try simp only [Act.put, List.setIfInBounds_toArray, List.set_cons_zero, List.set_cons_succ]
                  refine wpAnyH_take (i := 12) (oi := ⟨some 78, .binOp .add 9 (.tmp 77) (.const (.string { data := #[32] })) 9, _, _, _, _⟩) (v := ?vv13) rfl (by kernel_rfl) (by kernel_rfl) (by kernel_rfl) (fun _ _ _ h => h) (Or.inl ⟨by rfl, ?hy13⟩) HH.out ?rr13
                  case hy13 => intro W hSw; go_simp; try with_reducible rfl
                  try simp only [Act.put, List.setIfInBounds_toArray, List.set_cons_zero, List.set_cons_succ]
                  refine wpAnyH_ready (rs := [15]) (by kernel_rfl) (by simp) ?_
                  refine AllReadyH.cons (o := ⟨some 81, .call { callee := .value (.func 56), args := #[.tmp 80], argTypes := #[3] }, _, _, _, _⟩) rfl (fun K hK => ?_) AllReadyH.nil
                  go_simp
                  go_at_call 56
                  refine (HTN.out _).mono ?_
                  rintro e w3 ⟨rfl, hk⟩
                  have HK3 := Lib.hid hk
                  clear hk
                  go_wp2_with fail
                  refine hK.out _ _ (⟨HH.out.1.then_ HK3.out, HH.out.2.keep HK3.out (fun hf => hf)⟩) (fun hHeld => ?_)
                  have HH := Lib.hid hHeld
                  clear hHeld hK K
                  try simp only [Act.put, List.setIfInBounds_toArray, List.set_cons_zero, List.set_cons_succ]
                  have HO9 := Lib.hid (HO8.out.pure HK3.out)
                  refine wpAnyH_take (i := 16) (oi := ⟨some 82, .binOp .add 9 (.tmp 78) (.tmp 81) 9, _, _, _, _⟩) (v := ?vv14) rfl (by kernel_rfl) (by kernel_rfl) (by kernel_rfl) (fun _ _ _ h => h) (Or.inl ⟨by rfl, ?hy14⟩) HH.out ?rr14
                  case hy14 => intro W hSw; go_simp; try with_reducible rfl
                  try simp only [Act.put, List.setIfInBounds_toArray, List.set_cons_zero, List.set_cons_succ]
                  refine wpAnyH_ready (rs := [17]) (by kernel_rfl) (by simp) ?_
                  refine AllReadyH.cons (o := ⟨some 83, .buildSlice 23 1 #[(0, .tmp 82)], _, _, _, _⟩) rfl (fun K hK => ?_) AllReadyH.nil
                  go_simp
                  refine hK.out _ _ (⟨HH.out.1.alloc _, HH.out.2.alloc _⟩) (fun hHeld => ?_)
                  have HH := Lib.hid hHeld
                  clear hHeld hK K
                  try simp only [Act.put, List.setIfInBounds_toArray, List.set_cons_zero, List.set_cons_succ]
                  refine wpAnyH_ready (rs := [18]) (by kernel_rfl) (by simp) ?_
                  refine AllReadyH.cons (o := ⟨some 84, .call { callee := .builtin .append, args := #[.tmp 66, .tmp 83], argTypes := #[23, 23] }, _, _, _, _⟩) rfl (fun K hK => ?_) AllReadyH.nil
                  refine step_append_lies _ rfl (.tmp 66) (.tmp 83) 23 rfl 0 9 i0 (.string ByteArray.empty) 1 16 Tryd.underlying23 hi hz0 hz1 hz2 rfl (by decide) (.slice a3 acc5.length cp3) acc5.length (strVs acc5) rfl (Row.alloc HO9.out.row _) ⟨w3.heap.size, 0, none⟩ 1 1 [_] rfl rfl news1 (strV_one _) (by decide) (by unfold maxLen; omega) (by omega) (Nat.zero_le _) (w3.heap.size + 1) (by simp) ?_
                  intro g6 cap6 w5 hr6 hg6 hw6 hl6
                  have HM6 := Lib.hid (HO9.out.more (x := editL ((kn : Int), ei, en)) (HEL.out _ rfl) hr6 hg6 hw6)
                  have HG6 := Lib.hid hg6
                  clear hr6 hg6 hw6
                  refine hK.out _ _ (⟨HH.out.1.grown HG6.out (fun b hb => .inl hb), HH.out.2.grown HG6.out hownQ⟩) (fun hHeld => ?_)
                  have HH := Lib.hid hHeld
                  clear hHeld hK K
                  try simp only [Act.put, List.setIfInBounds_toArray, List.set_cons_zero, List.set_cons_succ]
                  refine wpAnyH_take (i := 19) (oi := ⟨some 3, .assign (.tmp 84), _, _, _, _⟩) (v := ?vv15) rfl (by kernel_rfl) (by kernel_rfl) (by kernel_rfl) (fun _ _ _ h => h) (Or.inl ⟨by rfl, ?hy15⟩) HH.out ?rr15
                  case hy15 => intro W hSw; go_simp; try with_reducible rfl
                  try simp only [Act.put, List.setIfInBounds_toArray, List.set_cons_zero, List.set_cons_succ]
                  refine wpAnyH_done (by kernel_rfl) ?_ _
                  go_wp2_with fail
                  go_roundw
                  case rel =>
                    refine ⟨k + 1, by omega, by go_num, ?_⟩
                    have e1 : acc4 ++ (s.edits.take (k + 1)).map editL = acc5 ++ [editL ((kn : Int), ei, en)] := by
                      rw [List.take_add_one, HEK.out, ← HACC5.out]; simp
                    rw [e1]
                    have := HM6.out
                    simpa using this
                  case measure => simp [intOf]; omega
                obtain rfl : ne = k := by omega
                have HFE := Lib.hid (show acc5 = acc4 ++ s.edits.map editL by
                  have := HACC5.out
                  rw [← HNE.out, List.take_length] at this
                  exact this.symm)
                clear HACC5
                have x6 : wr.cell? ⟨w.heap.size, 6, none⟩ = some (.slice a6 nc k6) := by rw [HO5.out.box.cell, ← HCS2.out]; rfl
                by_cases hnc0 : nc = 0
                · subst hnc0
                  have HF := Lib.hid (show rowsL s = acc5 by
                    have hcz : s.certs = [] := List.length_eq_zero_iff.1 HNC.out
                    rw [HFE.out, HR4.out]; unfold rowsL; rw [hcz]; simp)
                  go_wp2
                  go_ret
                  refine ⟨_, rfl, ?_, HO5.out.low⟩
                  rw [HF.out]
                  exact HO5.out.row
                · have hncp : 0 < nc := by omega
                  have hcz : s.certs ≠ [] := fun e => by have := HNC.out; rw [e] at this; simp at this; omega
                  have hrl : (rowL s.certs).length ≤ 8400 := by
                    have h1 := jn_len (zs := s.certs) (fun z hz => by have := HC6.out z hz; omega) s.certs.length (Nat.le_refl _)
                    rw [jn_all _ hcz] at h1
                    have := HNC.out
                    omega
                  have HF := Lib.hid (show rowsL s = acc5 ++ [sp wCerts (rowL s.certs)] by
                    rw [HFE.out, HR4.out]; unfold rowsL; rw [if_neg hcz]; simp)
                  have HRow := Lib.hid (fun W (hW : Pure' w W) => row_ a6 nc k6 w.heap.size s.certs W (HS6.out.pure hW (Nat.le_refl _)) hW.size (by omega) (fun z hz => by have := HC6.out z hz; omega))
                  clear hcz
                  go_wp2_with (first
                    | (go_at_call 58; refine (HRow.out _ HO5.out.low).mono ?_; rintro e w7 ⟨rfl, hk⟩; have HL7 := Lib.hid (HO5.out.pure hk); clear hk)
                    | (at_builtin; refine wpl_append _ rfl (.tmp 90) (.tmp 95) 23 rfl 9 i0 (.string ByteArray.empty) 1 16 Tryd.underlying23 hi hz0 hz1 hz2 rfl (by decide) (.slice a3 acc5.length cp3) acc5.length (strVs acc5) rfl ?own7 ⟨w7.heap.size, 0, none⟩ 1 1 [.string (⟨#[99, 101, 114, 116, 115, 32]⟩ ++ ⟨(rowL s.certs).toArray⟩)] rfl rfl ?news7 ?one7 (by decide) ?b17 ?b27 ?k7))
                  case own7 => exact Row.alloc HL7.out.row _
                  case news7 => exact news1
                  case one7 => first | rfl | exact strV_one _
                  case b17 => unfold maxLen; omega
                  case b27 => omega
                  case k7 =>
                    intro g6 cap6 w8 hr6 hg6 hw6 hl6
                    have HM := Lib.hid (HL7.out.more (x := sp wCerts (rowL s.certs)) (bytes_eq (by simp [sp, wCerts])) hr6 hg6 (by simpa using hw6))
                    clear hr6 hg6 hw6
                    go_wp2
                    go_ret
                    refine ⟨_, rfl, ?_, HM.out.low⟩
                    rw [HF.out]
                    have := HM.out.row
                    simpa using this

end Go.Proofs.YtjcjmjnajhkdaaaDoor
