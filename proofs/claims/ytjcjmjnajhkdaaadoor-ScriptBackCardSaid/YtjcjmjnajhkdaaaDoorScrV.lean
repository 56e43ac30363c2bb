/- The reference's text of a script that may be; no condition but the sizes. -/
import Derived.Test.YtjcjmjnajhkdaaaDoorScrU
import Derived.Test.YtjcjmjnajhkdaaaDoorDg
import Derived.Test.YtjcjmjnajhkdaaaDoorHeld
namespace Go.Proofs.YtjcjmjnajhkdaaaDoor
open Go.RowKit
set_option linter.unusedVariables false
set_option linter.unusedSimpArgs false
set_option maxRecDepth 100000

def fl (xs : List (List UInt8)) : List UInt8 := xs.flatMap (· ++ [10])
theorem fl_snoc (xs : List (List UInt8)) (x : List UInt8) : fl (xs ++ [x]) = fl xs ++ (x ++ [10]) := by unfold fl; simp
/-- The text so far. -/
structure TO (w : World) (cs : Array Value) (acc : List (List UInt8)) (v : Value) (W : World) : Prop where
  val : v = .string ⟨(fl acc).toArray⟩
  len : (fl acc).length ≤ acc.length * 500001
  low : Pure' w W
  box : Blk W w.heap.size 35 cs
theorem TO.pure {w W W' : World} {cs : Array Value} {acc : List (List UInt8)} {v : Value} (h : TO w cs acc v W) (hk : Pure' W W') : TO w cs acc v W' :=
  ⟨h.val, h.len, h.low.then_ hk, h.box.keep hk (fun hf => hf)⟩
theorem TO.more {w W : World} {cs : Array Value} {acc : List (List UInt8)} {v : Value} (h : TO w cs acc v W) {x : List UInt8} (hx : x.length ≤ 500000) {y : ByteArray} (hy : y.data.toList = fl acc ++ (x ++ [10])) : TO w cs (acc ++ [x]) (.string y) W := by
  refine ⟨congrArg Value.string (bytes_eq (by rw [hy, fl_snoc])), ?_, h.low, h.box⟩
  have := h.len
  rw [fl_snoc]
  simp
  omega
theorem TO.at_ {w W : World} {cs : Array Value} {acc : List (List UInt8)} {v : Value} (hl : (fl acc).length ≤ acc.length * 500001) (hv : v = .string ⟨(fl acc).toArray⟩) (h1 : Pure' w W) (h2 : Blk W w.heap.size 35 cs) : TO w cs acc v W := ⟨hv, hl, h1, h2⟩
theorem rkindB_ (w : World) : Calls Tryd.prog 31 #[] w fun e w' => e = .returned (.slice (some ⟨w.heap.size, 0, none⟩) 11 11) ∧ Blk w' w.heap.size 9 (strVs kindW).toArray ∧ Pure' w w' := by
  have HS := Lib.hid (Blk.new w 9 (strVs kindW).toArray)
  have HP := Lib.hid ((Keeps.refl (fun _ => False) w).alloc (.cells (strVs kindW).toArray 9))
  go_enter Tryd.func31, Tryd.ntmps31
  go_wp2
  go_ret
  exact ⟨rfl, HS.out, HP.out⟩

set_option maxHeartbeats 2000000 in
theorem rprint_ (v0 v1 v5 v6 : Value) (s : Sc) (w : World) (h : ScR w v0 v1 v5 v6 s) (hc : checkV s = true) (hn : NumsOk s) (hlp : ∀ p ∈ s.pats, p.length ≤ 100000) (hlq : ∀ p ∈ s.parts, p.length ≤ 100000) (hlen : (printL s).length ≤ 1048576) :
    Calls Tryd.prog 14 #[scV v0 v1 v5 v6 s] w fun e w' => e = .returned (.tuple #[.string ⟨(printL s).toArray⟩, .int .i64 0]) ∧ Pure' w w' := by
  obtain ⟨c1, c2, c3, c4, c5, c6⟩ := check_parts hc
  have hch := fun W (hW : Pure' w W) => rcheck_ v0 v1 v5 v6 s W (h.pure hW) (by omega) (by omega) (by omega) (by omega)
  rw [hc] at hch
  obtain ⟨a0, k0, rfl, s0⟩ := h.p0
  obtain ⟨a1, k1, rfl, s1⟩ := h.p1
  obtain ⟨a5, k5, rfl, s5⟩ := h.p5
  obtain ⟨a6, k6, rfl, s6⟩ := h.p6
  have HS0 := Lib.hid s0
  have HS1 := Lib.hid s1
  have HS5 := Lib.hid s5
  have HS6 := Lib.hid s6
  have HL0 := Lib.hid hlp
  have HL1 := Lib.hid hlq
  have HN := Lib.hid hn
  have HC5 := Lib.hid c5
  have HC6 := Lib.hid c6
  have b0 : s.pats.length ≤ 400 := by omega
  have b1 : s.parts.length ≤ 400 := by omega
  have b5 : s.edits.length ≤ 400 := by omega
  unfold scV at hch ⊢
  obtain ⟨np, hnp⟩ : ∃ np, s.pats.length = np := ⟨_, rfl⟩
  obtain ⟨nq, hnq⟩ : ∃ nq, s.parts.length = nq := ⟨_, rfl⟩
  obtain ⟨ne, hne⟩ : ∃ ne, s.edits.length = ne := ⟨_, rfl⟩
  obtain ⟨nc, hnc⟩ : ∃ nc, s.certs.length = nc := ⟨_, rfl⟩
  have HNP := Lib.hid hnp
  have HNQ := Lib.hid hnq
  have HNE := Lib.hid hne
  have HNC := Lib.hid hnc
  rw [hnp] at b0 HS0 hch ⊢
  rw [hnq] at b1 HS1 hch ⊢
  rw [hne] at b5 HS5 hch ⊢
  rw [hnc] at c2 HS6 hch ⊢
  have HCh := Lib.hid hch
  obtain ⟨pl, hpl⟩ : ∃ pl, printL s = pl := ⟨_, rfl⟩
  rw [hpl] at hlen ⊢
  have HPL := Lib.hid hpl
  have HPLn := Lib.hid hlen
  have HP := Lib.hid ((Keeps.refl (fun _ => False) w).alloc (.cells #[.slice a0 np k0, .slice a1 nq k1, .int .i64 s.table, .bool s.skip, .int .i64 s.every, .slice a5 ne k5, .slice a6 nc k6] 35))
  have HB := Lib.hid (Blk.new w 35 #[.slice a0 np k0, .slice a1 nq k1, .int .i64 s.table, .bool s.skip, .int .i64 s.every, .slice a5 ne k5, .slice a6 nc k6])
  clear hlp hlq hn hc h s0 s1 s5 s6 c1 c5 c6 hnp hnq hne hnc hch hpl hlen
  go_enter Tryd.func14, Tryd.ntmps14
  go_wp2_with ((with_reducible refine at_op ⟨some 9, _, _, _, _, _⟩ ?_); refine wpList_load_row rfl 35 (.tmp 1) rfl w.heap.size rfl 35 #[.slice a0 np k0, .slice a1 nq k1, .int .i64 s.table, .bool s.skip, .int .i64 s.every, .slice a5 ne k5, .slice a6 nc k6] (0, 0) _ HB.out Tryd.underlying35 rfl (by kernel_rfl) ?_; go_wp2_with fail)
  refine (HCh.out _ HP.out).mono ?_
  rintro e w1 ⟨rfl, hk⟩
  have HK1 := Lib.hid (HP.out.then_ hk)
  have HB1 := Lib.hid (HB.out.keep hk (fun hf => hf))
  clear hk
  obtain ⟨cs, hcs⟩ : ∃ cs : Array Value, #[.slice a0 np k0, .slice a1 nq k1, .int .i64 s.table, .bool s.skip, .int .i64 s.every, .slice a5 ne k5, .slice a6 nc k6] = cs := ⟨_, rfl⟩
  have HCS := Lib.hid hcs
  have HTO := Lib.hid (show TO w cs [] (.string ⟨#[]⟩) w1 from ⟨rfl, by simp [fl], HK1.out, hcs ▸ HB1.out⟩)
  clear hcs HB HB1 HP
  go_wp2
  go_loopw [4, 5] (fun v4 vi wr => ∃ k : Nat, k ≤ np ∧ vi = .int .i64 k ∧ TO w cs (([] : List (List UInt8)) ++ (s.pats.take k).map (fun p => sp wPattern (quoteL p))) v4 wr) (fun _ vi _ => np - (intOf vi).toNat)
  case atStart => exact ⟨0, Nat.zero_le _, rfl, by simpa using HTO.out⟩
  case round =>
    obtain ⟨k, hk, rfl, hto⟩ := hrel
    obtain ⟨acc, hacc⟩ : ∃ acc, ([] : List (List UInt8)) ++ (s.pats.take k).map (fun p => sp wPattern (quoteL p)) = acc := ⟨_, rfl⟩
    have hal : acc.length ≤ 2000 := by
      have e1 := HNP.out
      have e2 := HNQ.out
      rw [← hacc]
      simp
      omega
    rw [hacc] at hto
    obtain ⟨hv, hln, hlw, hbx⟩ := hto
    subst hv
    have HO := Lib.hid (show TO w cs acc (.string ⟨(fl acc).toArray⟩) wr from ⟨rfl, hln, hlw, hbx⟩)
    have HACC := Lib.hid hacc
    obtain ⟨ft, hft⟩ : ∃ ft, fl acc = ft := ⟨_, rfl⟩
    rw [hft] at hln HO ⊢
    have hfl : ft.length ≤ 1100000000 := by omega
    have HFT := Lib.hid hft
    have xc : wr.cell? ⟨w.heap.size, 0, none⟩ = some (.slice a0 np k0) := by rw [HO.out.box.cell, ← HCS.out]; rfl
    clear hacc hft hln hlw hbx
    by_cases hlt : k < np
    · obtain ⟨ad, p, rfl, hp, hc⟩ := word_at (HS0.out.pure HO.out.low (Nat.le_refl _)) hlt
      have HPk := Lib.hid hp
      have hpl := HL0.out p (List.mem_of_getElem? hp)
      have HQ := Lib.hid (fun w => rquote_ p w (by omega))
      have hql := quote_len p
      have hql2 : (quoteL p).length ≤ 400004 := by omega
      have HY := Lib.hid (show ((((⟨ft.toArray⟩ ++ ⟨#[112, 97, 116, 116, 101, 114, 110, 32]⟩) ++ ⟨(quoteL p).toArray⟩) ++ ⟨#[10]⟩ : ByteArray)).data.toList = fl acc ++ (sp wPattern (quoteL p) ++ [10]) by rw [HFT.out]; simp [sp, wPattern])
      have hxl : (sp wPattern (quoteL p)).length ≤ 500000 := by simp [sp, wPattern]; omega
      have HXL := Lib.hid hxl
      clear hp hql hxl
      go_wp2_with (go_at_call 28; refine (HQ.out _).mono ?_; rintro e w2 ⟨rfl, hk⟩; have HO1 := Lib.hid (HO.out.pure hk); clear hk hc xc)
      go_roundw
      case rel =>
        refine ⟨k + 1, by omega, by go_num, ?_⟩
        have e1 : ([] : List (List UInt8)) ++ (s.pats.take (k + 1)).map (fun p => sp wPattern (quoteL p)) = acc ++ [sp wPattern (quoteL p)] := by
          rw [List.take_add_one, HPk.out, ← HACC.out]; simp
        rw [e1]
        exact HO1.out.more HXL.out HY.out
      case measure => simp [intOf]; omega
    · obtain rfl : np = k := by omega
      have HACC2 := Lib.hid (show acc = ([] : List (List UInt8)) ++ s.pats.map (fun p => sp wPattern (quoteL p)) by
        have := HACC.out
        rw [← HNP.out, List.take_length] at this
        exact this.symm)
      clear HACC
      obtain rfl : acc = s.pats.map (fun p => sp wPattern (quoteL p)) := by simpa using HACC2.out
      have HT2 := Lib.hid HO.out
      clear HACC2 HO HTO HFT
      go_wp2
      clear xc
      go_loopw [4, 6] (fun v4 vi wr => ∃ k : Nat, k ≤ nq ∧ vi = .int .i64 k ∧ TO w cs (s.pats.map (fun p => sp wPattern (quoteL p)) ++ (s.parts.take k).map (fun p => sp wPart (quoteL p))) v4 wr) (fun _ vi _ => nq - (intOf vi).toNat)
      case atStart => exact ⟨0, Nat.zero_le _, rfl, by simpa using HT2.out⟩
      case round =>
        obtain ⟨k, hk, rfl, hto⟩ := hrel
        obtain ⟨acc, hacc⟩ : ∃ acc, s.pats.map (fun p => sp wPattern (quoteL p)) ++ (s.parts.take k).map (fun p => sp wPart (quoteL p)) = acc := ⟨_, rfl⟩
        have hal : acc.length ≤ 2000 := by
          have e1 := HNP.out
          have e2 := HNQ.out
          rw [← hacc]
          simp
          omega
        rw [hacc] at hto
        obtain ⟨hv, hln, hlw, hbx⟩ := hto
        subst hv
        have HO := Lib.hid (show TO w cs acc (.string ⟨(fl acc).toArray⟩) wr from ⟨rfl, hln, hlw, hbx⟩)
        have HACC := Lib.hid hacc
        obtain ⟨ft, hft⟩ : ∃ ft, fl acc = ft := ⟨_, rfl⟩
        rw [hft] at hln HO ⊢
        have hfl : ft.length ≤ 1100000000 := by omega
        have HFT := Lib.hid hft
        have xc : wr.cell? ⟨w.heap.size, 1, none⟩ = some (.slice a1 nq k1) := by rw [HO.out.box.cell, ← HCS.out]; rfl
        clear hacc hft hln hlw hbx
        by_cases hlt : k < nq
        · obtain ⟨ad, p, rfl, hp, hc⟩ := word_at (HS1.out.pure HO.out.low (Nat.le_refl _)) hlt
          have HPk := Lib.hid hp
          have hpl := HL1.out p (List.mem_of_getElem? hp)
          have HQ := Lib.hid (fun w => rquote_ p w (by omega))
          have hql := quote_len p
          have hql2 : (quoteL p).length ≤ 400004 := by omega
          have HY := Lib.hid (show ((((⟨ft.toArray⟩ ++ ⟨#[112, 97, 114, 116, 32]⟩) ++ ⟨(quoteL p).toArray⟩) ++ ⟨#[10]⟩ : ByteArray)).data.toList = fl acc ++ (sp wPart (quoteL p) ++ [10]) by rw [HFT.out]; simp [sp, wPart])
          have hxl : (sp wPart (quoteL p)).length ≤ 500000 := by simp [sp, wPart]; omega
          have HXL := Lib.hid hxl
          clear hp hql hxl
          go_wp2_with (go_at_call 28; refine (HQ.out _).mono ?_; rintro e w2 ⟨rfl, hk⟩; have HO1 := Lib.hid (HO.out.pure hk); clear hk hc xc)
          go_roundw
          case rel =>
            refine ⟨k + 1, by omega, by go_num, ?_⟩
            have e1 : s.pats.map (fun p => sp wPattern (quoteL p)) ++ (s.parts.take (k + 1)).map (fun p => sp wPart (quoteL p)) = acc ++ [sp wPart (quoteL p)] := by
              rw [List.take_add_one, HPk.out, ← HACC.out]; simp
            rw [e1]
            exact HO1.out.more HXL.out HY.out
          case measure => simp [intOf]; omega
        · obtain rfl : nq = k := by omega
          have HACC2 := Lib.hid (show acc = s.pats.map (fun p => sp wPattern (quoteL p)) ++ s.parts.map (fun p => sp wPart (quoteL p)) by
            have := HACC.out
            rw [← HNQ.out, List.take_length] at this
            exact this.symm)
          clear HACC
          have HACC3 := Lib.hid HACC2.out
          obtain ⟨tn, htn⟩ : ∃ tn : Nat, s.table = (tn : Int) := ⟨s.table.toNat, by omega⟩
          have htn4 : tn < 4 := by omega
          have htn0 : (0 : Int) ≤ (tn : Int) := by omega
          have htn5 : (tn : Int) < 4 := by omega
          have HTN := Lib.hid htn
          have HCS2 := Lib.hid (show #[.slice a0 np k0, .slice a1 nq k1, .int .i64 (tn : Int), .bool s.skip, .int .i64 s.every, .slice a5 ne k5, .slice a6 nc k6] = cs by rw [← htn]; exact HCS.out)
          clear htn HCS
          obtain ⟨sk, hsk⟩ : ∃ sk, s.skip = sk := ⟨_, rfl⟩
          rw [hsk] at HCS2
          have HSK := Lib.hid hsk
          clear hsk
          have HT := Lib.hid rtable_
          have HTX := Lib.hid (fun w => rtext s.every w (by omega) (by omega))
          have htl := textL_len (z := s.every) (by omega) (by omega)
          have HBX := Lib.hid (fun (W : World) (hL : Blk W w.heap.size 35 cs) => (by rw [hL.cell, ← HCS2.out]; rfl : W.cell? ⟨w.heap.size, 2, none⟩ = some (.int .i64 (tn : Int))))
          have hxl : ∀ (x : List UInt8), tabW[tn]? = some x → x.length ≤ 10 := by
            intro x hx
            match tn, htn4, hx with
            | 0, _, hx => simp [tabW] at hx; subst hx; decide
            | 1, _, hx => simp [tabW] at hx; subst hx; decide
            | 2, _, hx => simp [tabW] at hx; subst hx; decide
            | 3, _, hx => simp [tabW] at hx; subst hx; decide
          have HXL := Lib.hid hxl
          clear hxl
          have hwl := HO.out.box.lt
          go_upto_region 12 with fail
          clear xc
          have y2 := HBX.out wr.drew HO.out.box.drew
          have s0 : ¬ 9223372036854775807 < ft.length + 5 := by omega
          go_cut [4] (fun v4 wx => ∃ xw : List UInt8, tabW[tn]? = some xw ∧ v4 = .string ((⟨ft.toArray⟩ ++ ⟨#[115, 99, 97, 110, 32]⟩) ++ ⟨xw.toArray⟩) ∧ Pure' wr wx)
          case first =>
            go_region_law (go_simp; go_at_call 29; refine (HT.out _).mono ?_; rintro e w1 ⟨A2, cc2, rfl, hs2, hk2⟩; have HO3 := Lib.hid ((Keeps.refl (fun _ => False) wr).drew.then_ hk2); obtain ⟨ad2, xw, rfl, hxw, cw⟩ := word_at hs2 htn4; have hxwl := HXL.out xw hxw; have s2 : ¬ 9223372036854775807 < ft.length + 5 + xw.length := (by omega); have HXW := Lib.hid hxw; have m2 := HBX.out w1 (HO.out.box.drew.keep hk2 (fun hf => hf)); clear hs2 hk2 hxw)
            all_goals
              go_wp2_with fail
              go_meet
              exact ⟨_, HXW.out, rfl, HO3.out⟩
          case rest =>
            obtain ⟨xw, hxw, rfl, hpw⟩ := hcut
            have hxwl := HXL.out xw hxw
            have HO4 := Lib.hid (HO.out.pure hpw)
            have HXW := Lib.hid hxw
            clear hxw hpw y2 s0
            have x3 : wc.cell? ⟨w.heap.size, 3, none⟩ = some (.bool sk) := by rw [HO4.out.box.cell, ← HCS2.out]; rfl
            have x4 : wc.cell? ⟨w.heap.size, 4, none⟩ = some (.int .i64 s.every) := by rw [HO4.out.box.cell, ← HCS2.out]; rfl
            go_upto_if 57 with fail
            obtain ⟨ft2, hft2⟩ : ∃ ft2, ft ++ (wScan ++ 32 :: (xw ++ 32 :: ((if sk then wSkip else wStep) ++ [32]))) = ft2 := ⟨_, rfl⟩
            have hfl2 : ft2.length ≤ 1200000000 := by rw [← hft2]; cases sk <;> simp [wScan, wSkip, wStep] <;> omega
            have HFT2 := Lib.hid hft2
            clear hft2
            go_cut [4] (fun v4 wx => v4 = .string ⟨ft2.toArray⟩ ∧ wx = wc)
            case first =>
              cases sk
              · go_wp2
                go_meet
                exact ⟨by rw [← HFT2.out]; exact congrArg Value.string (bytes_eq (by simp [wScan, wStep])), rfl⟩
              · go_wp2
                go_meet
                exact ⟨by rw [← HFT2.out]; exact congrArg Value.string (bytes_eq (by simp [wScan, wSkip])), rfl⟩
            case rest =>
              obtain ⟨rfl, rfl⟩ := hcut
              clear x3
              have HSL := Lib.hid (show scanL s = wScan ++ 32 :: (xw ++ 32 :: ((if sk then wSkip else wStep) ++ 32 :: textL s.every)) by
                have e1 : tabW.getD s.table.toNat [] = xw := by rw [HTN.out, Int.toNat_natCast, List.getD_eq_getElem?_getD, HXW.out]; rfl
                unfold scanL
                rw [e1, HSK.out]
                simp [sp])
              go_wp2_with (go_at_call 30; refine (HTX.out _).mono ?_; rintro e w4 ⟨rfl, rfl⟩)
              have HT5 := Lib.hid (show TO w cs (acc ++ [scanL s]) (.string ((⟨ft2.toArray⟩ ++ ⟨(textL s.every).toArray⟩) ++ ⟨#[10]⟩)) wc from
                HO4.out.more (by rw [HSL.out]; cases sk <;> simp [wScan, wSkip, wStep] <;> omega) (by rw [HFT.out, HSL.out]; simp [← HFT2.out]))
              obtain ⟨acc4, hacc4⟩ : ∃ acc4, acc ++ [scanL s] = acc4 := ⟨_, rfl⟩
              rw [hacc4] at HT5
              have hal4 : acc4.length ≤ 2001 := by rw [← hacc4]; simp; omega
              have HR4 := Lib.hid (show acc4 = s.pats.map (fun p => sp wPattern (quoteL p)) ++ (s.parts.map (fun p => sp wPart (quoteL p)) ++ [scanL s]) by rw [← hacc4, HACC3.out]; simp)
              clear hacc4 x4
              go_loopw [4, 7] (fun v4 vi wr => ∃ k : Nat, k ≤ ne ∧ vi = .int .i64 k ∧ TO w cs (acc4 ++ (s.edits.take k).map editL) v4 wr) (fun _ vi _ => ne - (intOf vi).toNat)
              case atStart => exact ⟨0, Nat.zero_le _, rfl, by simpa using HT5.out⟩
              case round =>
                obtain ⟨k, hk, rfl, hto⟩ := hrel
                obtain ⟨acc5, hacc5⟩ : ∃ acc5, acc4 ++ (s.edits.take k).map editL = acc5 := ⟨_, rfl⟩
                have hal5 : acc5.length ≤ 3000 := by
                  have e1 := HNE.out
                  rw [← hacc5]
                  simp
                  omega
                rw [hacc5] at hto
                obtain ⟨hv, hln, hlw, hbx⟩ := hto
                subst hv
                have HO5 := Lib.hid (show TO w cs acc5 (.string ⟨(fl acc5).toArray⟩) wr from ⟨rfl, hln, hlw, hbx⟩)
                have HACC5 := Lib.hid hacc5
                clear hfl hfl2 HFT HFT2 HO HO4 HT5
                obtain ⟨ft, hft⟩ : ∃ ft, fl acc5 = ft := ⟨_, rfl⟩
                rw [hft] at hln HO5 ⊢
                have hfl : ft.length ≤ 1600000000 := by omega
                have HFT := Lib.hid hft
                clear hacc5 hft hln hlw hbx
                have x5 : wr.cell? ⟨w.heap.size, 5, none⟩ = some (.slice a5 ne k5) := by rw [HO5.out.box.cell, ← HCS2.out]; rfl
                by_cases hlt : k < ne
                · obtain ⟨ad, e0, rfl, he0, p0, p1, p2⟩ := ed_at (HS5.out.pure HO5.out.low (Nat.le_refl _)) hlt
                  have HEK := Lib.hid he0
                  have hem := List.mem_of_getElem? he0
                  obtain ⟨hk1, hk2⟩ := HC5.out e0 hem
                  obtain ⟨⟨hi1, hi2⟩, hn1, hn2⟩ := HN.out e0 hem
                  obtain ⟨ek, ei, en⟩ := e0
                  dsimp only at p0 p1 p2 hk1 hk2 hi1 hi2 hn1 hn2
                  unfold iMin at hi1 hn1
                  unfold iMax at hi2 hn2
                  obtain ⟨kn, rfl⟩ : ∃ kn : Nat, ek = (kn : Int) := ⟨ek.toNat, by omega⟩
                  have hkn : kn < 11 := by omega
                  obtain ⟨xw, hxw, hxc, hxl⟩ := kind_at kn hkn
                  have HXC := Lib.hid hxc
                  have hti := textL_len (z := ei) hi1 hi2
                  have htn := textL_len (z := en) hn1 hn2
                  have HEL := Lib.hid (show ∀ y : ByteArray, y = ((((((((⟨ft.toArray⟩ ++ ⟨#[115, 112, 111, 105, 108, 32]⟩) ++ ⟨xw.toArray⟩) ++ ⟨#[32]⟩) ++ ⟨(textL ei).toArray⟩) ++ ⟨#[32]⟩) ++ ⟨(textL en).toArray⟩) ++ ⟨#[10]⟩) : ByteArray) → y.data.toList = fl acc5 ++ (editL ((kn : Int), ei, en) ++ [10]) ∧ (editL ((kn : Int), ei, en)).length ≤ 500000 by
                    rintro y rfl
                    have e1 : kindW.getD (kn : Int).toNat [] = xw := by rw [Int.toNat_natCast, List.getD_eq_getElem?_getD, hxw]; rfl
                    unfold editL
                    dsimp only
                    rw [e1, HFT.out]
                    refine ⟨by simp [sp, wSpoil], ?_⟩
                    simp [sp, wSpoil]
                    omega)
                  have HTI := Lib.hid (fun w => rtext ei w hi1 hi2)
                  have HTN2 := Lib.hid (fun w => rtext en w hn1 hn2)
                  have HKB := Lib.hid rkindB_
                  have hkn0 : (0 : Int) ≤ (kn : Int) := by omega
                  have hkn1 : (kn : Int) < 11 := by omega
                  clear he0 hem hk1 hk2 hi1 hi2 hn1 hn2 hxw hxc
                  have hlw := HO5.out.low.size
                  have hwl := HO5.out.box.lt
                  have HO6 := Lib.hid (show TO w cs acc5 (.string ⟨ft.toArray⟩) (wr.alloc (.cells #[.int .i64 (kn : Int), .int .i64 ei, .int .i64 en] 62)) from
                    ⟨HO5.out.val, HO5.out.len, HO5.out.low.alloc _, HO5.out.box.alloc _⟩)
                  have HB6 := Lib.hid (show Blk (wr.alloc (.cells #[.int .i64 (kn : Int), .int .i64 ei, .int .i64 en] 62)) wr.heap.size 62 #[.int .i64 (kn : Int), .int .i64 ei, .int .i64 en] from Blk.new wr 62 #[.int .i64 (kn : Int), .int .i64 ei, .int .i64 en])
                  have HBN := Lib.hid (Blk.new wr 62 #[.int .i64 0, .int .i64 0, .int .i64 0])
                  go_upto_region 21 with ((with_reducible refine at_op ⟨none, .store 62 (.tmp 8) (.tmp 80), _, _, _, _⟩ ?_); refine wpList_store_row rfl 62 (.tmp 8) (.tmp 80) rfl wr.heap.size #[.int .i64 (kn : Int), .int .i64 ei, .int .i64 en] rfl rfl 62 _ HBN.out (by kernel_rfl) rfl rfl ?_)
                  clear p0 p1 p2 HBN x5
                  generalize (wr.alloc (.cells #[.int .i64 (kn : Int), .int .i64 ei, .int .i64 en] 62)) = wq at *
                  obtain ⟨hb, hhb⟩ : ∃ hb, wr.heap.size = hb := ⟨_, rfl⟩
                  rw [hhb] at HB6 ⊢
                  obtain ⟨hq, hhq⟩ : ∃ hq, wq.heap.size = hq := ⟨_, rfl⟩
                  have HQ := Lib.hid hhq
                  clear hhb hhq
                  have s0 : ¬ 9223372036854775807 < ft.length + 6 := by omega
                  refine wp_region_held_drew (S := (fun W => Pure' wq W)) (by kernel_rfl) ((Keeps.refl _ wq).drew) (fun hHeld => ?_)
                  have HH := Lib.hid hHeld
                  clear hHeld
                  refine wpAnyH_take (i := 0) (oi := ⟨some 81, .move (.tmp 4), _, _, _, _⟩) (v := ?vv1) rfl (by kernel_rfl) (by kernel_rfl) (by kernel_rfl) (fun _ _ _ h => h) (Or.inl ⟨by rfl, ?hy1⟩) HH.out ?rr1
                  case hy1 => intro W hSw; go_simp; try with_reducible rfl
                  try simp only [Act.put, List.setIfInBounds_toArray, List.set_cons_zero, List.set_cons_succ]
                  refine wpAnyH_take (i := 1) (oi := ⟨some 82, .binOp .add 9 (.tmp 81) (.const (.string { data := #[115, 112, 111, 105, 108, 32] })) 9, _, _, _, _⟩) (v := ?vv2) rfl (by kernel_rfl) (by kernel_rfl) (by kernel_rfl) (fun _ _ _ h => h) (Or.inl ⟨by rfl, ?hy2⟩) HH.out ?rr2
                  case hy2 => intro W hSw; go_simp; try with_reducible rfl
                  try simp only [Act.put, List.setIfInBounds_toArray, List.set_cons_zero, List.set_cons_succ]
                  refine wpAnyH_take (i := 3) (oi := ⟨some 84, .fieldAddr 62 (.tmp 8) 0, _, _, _, _⟩) (v := ?vv3) rfl (by kernel_rfl) (by kernel_rfl) (by kernel_rfl) (fun _ _ _ h => h) (Or.inl ⟨by rfl, ?hy3⟩) HH.out ?rr3
                  case hy3 => intro W hSw; go_simp; try with_reducible rfl
                  try simp only [Act.put, List.setIfInBounds_toArray, List.set_cons_zero, List.set_cons_succ]
                  refine wpAnyH_take (i := 4) (oi := ⟨some 85, .load 3 (.tmp 84), _, _, _, _⟩) (v := ?vv4) rfl (by kernel_rfl) (by kernel_rfl) (by kernel_rfl) (fun _ _ _ h => h) (Or.inl ⟨by rfl, ?hy4⟩) HH.out ?rr4
                  case hy4 => intro W hSw; have y := (HB6.out.keep hSw (fun hf => hf)).cell 0; go_simp; try with_reducible rfl
                  try simp only [Act.put, List.setIfInBounds_toArray, List.set_cons_zero, List.set_cons_succ]
                  refine wpAnyH_take (i := 9) (oi := ⟨some 90, .fieldAddr 62 (.tmp 8) 1, _, _, _, _⟩) (v := ?vv5) rfl (by kernel_rfl) (by kernel_rfl) (by kernel_rfl) (fun _ _ _ h => h) (Or.inl ⟨by rfl, ?hy5⟩) HH.out ?rr5
                  case hy5 => intro W hSw; go_simp; try with_reducible rfl
                  try simp only [Act.put, List.setIfInBounds_toArray, List.set_cons_zero, List.set_cons_succ]
                  refine wpAnyH_take (i := 10) (oi := ⟨some 91, .load 3 (.tmp 90), _, _, _, _⟩) (v := ?vv6) rfl (by kernel_rfl) (by kernel_rfl) (by kernel_rfl) (fun _ _ _ h => h) (Or.inl ⟨by rfl, ?hy6⟩) HH.out ?rr6
                  case hy6 => intro W hSw; have y := (HB6.out.keep hSw (fun hf => hf)).cell 1; go_simp; try with_reducible rfl
                  try simp only [Act.put, List.setIfInBounds_toArray, List.set_cons_zero, List.set_cons_succ]
                  refine wpAnyH_take (i := 14) (oi := ⟨some 95, .fieldAddr 62 (.tmp 8) 2, _, _, _, _⟩) (v := ?vv7) rfl (by kernel_rfl) (by kernel_rfl) (by kernel_rfl) (fun _ _ _ h => h) (Or.inl ⟨by rfl, ?hy7⟩) HH.out ?rr7
                  case hy7 => intro W hSw; go_simp; try with_reducible rfl
                  try simp only [Act.put, List.setIfInBounds_toArray, List.set_cons_zero, List.set_cons_succ]
                  refine wpAnyH_take (i := 15) (oi := ⟨some 96, .load 3 (.tmp 95), _, _, _, _⟩) (v := ?vv8) rfl (by kernel_rfl) (by kernel_rfl) (by kernel_rfl) (fun _ _ _ h => h) (Or.inl ⟨by rfl, ?hy8⟩) HH.out ?rr8
                  case hy8 => intro W hSw; have y := (HB6.out.keep hSw (fun hf => hf)).cell 2; go_simp; try with_reducible rfl
                  try simp only [Act.put, List.setIfInBounds_toArray, List.set_cons_zero, List.set_cons_succ]
                  refine wpAnyH_ready (rs := [2]) (by kernel_rfl) (by simp) ?_
                  refine AllReadyH.cons (o := ⟨some 83, .call { callee := .value (.func 31), args := #[], argTypes := #[] }, _, _, _, _⟩) rfl (fun K hK => ?_) AllReadyH.nil
                  go_simp
                  go_at_call 31
                  refine (HKB.out _).mono ?_
                  rintro e w1 ⟨rfl, hbk, hk⟩
                  rw [show wq.drew.heap.size = hq from HQ.out] at hbk ⊢
                  have HK1 := Lib.hid hk
                  have HBK := Lib.hid hbk
                  clear hk hbk
                  go_wp2_with fail
                  refine hK.out _ _ ((Keeps.refl _ wq).drew.then_ HK1.out) (fun hHeld => ?_)
                  have HH := Lib.hid hHeld
                  clear hHeld hK K
                  try simp only [Act.put, List.setIfInBounds_toArray, List.set_cons_zero, List.set_cons_succ]
                  refine wpAnyH_stronger (S' := (fun W => Pure' wq W ∧ Blk W hq 9 (strVs kindW).toArray)) (fun _ h => h.1) _ _ _ _ ?_
                  replace HH := Lib.hid (show (fun W => Pure' wq W ∧ Blk W hq 9 (strVs kindW).toArray) w1 from ⟨HH.out, HBK.out⟩)
                  refine wpAnyH_take (i := 5) (oi := ⟨some 86, .indexAddr 23 (.tmp 83) (.tmp 85), _, _, _, _⟩) (v := ?vv9) rfl (by kernel_rfl) (by kernel_rfl) (by kernel_rfl) (fun _ _ _ h => h) (Or.inl ⟨by rfl, ?hy9⟩) HH.out ?rr9
                  case hy9 => intro W hSw; go_simp; try with_reducible rfl
                  try simp only [Act.put, List.setIfInBounds_toArray, List.set_cons_zero, List.set_cons_succ]
                  refine wpAnyH_take (i := 6) (oi := ⟨some 87, .load 9 (.tmp 86), _, _, _, _⟩) (v := ?vv10) rfl (by kernel_rfl) (by kernel_rfl) (by kernel_rfl) (fun _ _ _ h => h) (Or.inl ⟨by rfl, ?hy10⟩) HH.out ?rr10
                  case hy10 => intro W hSw; have y : W.cell? ⟨hq, kn, none⟩ = some (.string ⟨xw.toArray⟩) := (hSw.2.cell kn).trans HXC.out; go_simp; try with_reducible rfl
                  try simp only [Act.put, List.setIfInBounds_toArray, List.set_cons_zero, List.set_cons_succ]
                  have s1 : ¬ 9223372036854775807 < ft.length + 6 + xw.length := by omega
                  have s2 : ¬ 9223372036854775807 < ft.length + 6 + xw.length + 1 := by omega
                  have s3 : ¬ 9223372036854775807 < ft.length + 6 + xw.length + 1 + (textL ei).length := by omega
                  have s4 : ¬ 9223372036854775807 < ft.length + 6 + xw.length + 1 + (textL ei).length + 1 := by omega
                  have s5 : ¬ 9223372036854775807 < ft.length + 6 + xw.length + 1 + (textL ei).length + 1 + (textL en).length := by omega
                  have s6 : ¬ 9223372036854775807 < ft.length + 6 + xw.length + 1 + (textL ei).length + 1 + (textL en).length + 1 := by omega
                  refine wpAnyH_take (i := 7) (oi := ⟨some 88, .binOp .add 9 (.tmp 82) (.tmp 87) 9, _, _, _, _⟩) (v := ?vv11) rfl (by kernel_rfl) (by kernel_rfl) (by kernel_rfl) (fun _ _ _ h => h) (Or.inl ⟨by rfl, ?hy11⟩) HH.out ?rr11
                  case hy11 => intro W hSw; go_simp; try with_reducible rfl
                  try simp only [Act.put, List.setIfInBounds_toArray, List.set_cons_zero, List.set_cons_succ]
                  refine wpAnyH_take (i := 8) (oi := ⟨some 89, .binOp .add 9 (.tmp 88) (.const (.string { data := #[32] })) 9, _, _, _, _⟩) (v := ?vv12) rfl (by kernel_rfl) (by kernel_rfl) (by kernel_rfl) (fun _ _ _ h => h) (Or.inl ⟨by rfl, ?hy12⟩) HH.out ?rr12
                  case hy12 => intro W hSw; go_simp; try with_reducible rfl
                  try simp only [Act.put, List.setIfInBounds_toArray, List.set_cons_zero, List.set_cons_succ]
                  refine wpAnyH_ready (rs := [11]) (by kernel_rfl) (by simp) ?_
                  refine AllReadyH.cons (o := ⟨some 92, .call { callee := .value (.func 30), args := #[.tmp 91], argTypes := #[3] }, _, _, _, _⟩) rfl (fun K hK => ?_) AllReadyH.nil
                  go_simp
                  go_at_call 30
                  refine (HTI.out _).mono ?_
                  rintro e w2 ⟨rfl, rfl⟩
                  go_wp2_with fail
                  refine hK.out _ _ (HH.out) (fun hHeld => ?_)
                  have HH := Lib.hid hHeld
                  clear hHeld hK K
                  try simp only [Act.put, List.setIfInBounds_toArray, List.set_cons_zero, List.set_cons_succ]
                  refine wpAnyH_take (i := 12) (oi := ⟨some 93, .binOp .add 9 (.tmp 89) (.tmp 92) 9, _, _, _, _⟩) (v := ?vv13) rfl (by kernel_rfl) (by kernel_rfl) (by kernel_rfl) (fun _ _ _ h => h) (Or.inl ⟨by rfl, ?hy13⟩) HH.out ?rr13
                  case hy13 => intro W hSw; go_simp; try with_reducible rfl
                  try simp only [Act.put, List.setIfInBounds_toArray, List.set_cons_zero, List.set_cons_succ]
                  refine wpAnyH_take (i := 13) (oi := ⟨some 94, .binOp .add 9 (.tmp 93) (.const (.string { data := #[32] })) 9, _, _, _, _⟩) (v := ?vv14) rfl (by kernel_rfl) (by kernel_rfl) (by kernel_rfl) (fun _ _ _ h => h) (Or.inl ⟨by rfl, ?hy14⟩) HH.out ?rr14
                  case hy14 => intro W hSw; go_simp; try with_reducible rfl
                  try simp only [Act.put, List.setIfInBounds_toArray, List.set_cons_zero, List.set_cons_succ]
                  refine wpAnyH_ready (rs := [16]) (by kernel_rfl) (by simp) ?_
                  refine AllReadyH.cons (o := ⟨some 97, .call { callee := .value (.func 30), args := #[.tmp 96], argTypes := #[3] }, _, _, _, _⟩) rfl (fun K hK => ?_) AllReadyH.nil
                  go_simp
                  go_at_call 30
                  refine (HTN2.out _).mono ?_
                  rintro e w3 ⟨rfl, rfl⟩
                  go_wp2_with fail
                  refine hK.out _ _ (HH.out) (fun hHeld => ?_)
                  have HH := Lib.hid hHeld
                  clear hHeld hK K
                  try simp only [Act.put, List.setIfInBounds_toArray, List.set_cons_zero, List.set_cons_succ]
                  refine wpAnyH_take (i := 17) (oi := ⟨some 98, .binOp .add 9 (.tmp 94) (.tmp 97) 9, _, _, _, _⟩) (v := ?vv15) rfl (by kernel_rfl) (by kernel_rfl) (by kernel_rfl) (fun _ _ _ h => h) (Or.inl ⟨by rfl, ?hy15⟩) HH.out ?rr15
                  case hy15 => intro W hSw; go_simp; try with_reducible rfl
                  try simp only [Act.put, List.setIfInBounds_toArray, List.set_cons_zero, List.set_cons_succ]
                  refine wpAnyH_take (i := 18) (oi := ⟨some 99, .binOp .add 9 (.tmp 98) (.const (.string { data := #[10] })) 9, _, _, _, _⟩) (v := ?vv16) rfl (by kernel_rfl) (by kernel_rfl) (by kernel_rfl) (fun _ _ _ h => h) (Or.inl ⟨by rfl, ?hy16⟩) HH.out ?rr16
                  case hy16 => intro W hSw; go_simp; try with_reducible rfl
                  try simp only [Act.put, List.setIfInBounds_toArray, List.set_cons_zero, List.set_cons_succ]
                  refine wpAnyH_take (i := 19) (oi := ⟨some 4, .assign (.tmp 99), _, _, _, _⟩) (v := ?vv17) rfl (by kernel_rfl) (by kernel_rfl) (by kernel_rfl) (fun _ _ _ h => h) (Or.inl ⟨by rfl, ?hy17⟩) HH.out ?rr17
                  case hy17 => intro W hSw; go_simp; try with_reducible rfl
                  try simp only [Act.put, List.setIfInBounds_toArray, List.set_cons_zero, List.set_cons_succ]
                  refine wpAnyH_done (by kernel_rfl) ?_ _
                  go_wp2_with fail
                  have HE9 := Lib.hid ((HO6.out.pure HH.out.1).more (HEL.out _ rfl).2 (HEL.out _ rfl).1)
                  go_roundw
                  case rel =>
                    refine ⟨k + 1, by omega, by go_num, ?_⟩
                    have e1 : acc4 ++ (s.edits.take (k + 1)).map editL = acc5 ++ [editL ((kn : Int), ei, en)] := by
                      rw [List.take_add_one, HEK.out, ← HACC5.out]; simp
                    rw [e1]
                    exact HE9.out
                  case measure => simp [intOf]; omega
                obtain rfl : ne = k := by omega
                have HFE := Lib.hid (show acc5 = acc4 ++ s.edits.map editL by
                  have := HACC5.out
                  rw [← HNE.out, List.take_length] at this
                  exact this.symm)
                clear HACC5
                have x6 : wr.cell? ⟨w.heap.size, 6, none⟩ = some (.slice a6 nc k6) := by rw [HO5.out.box.cell, ← HCS2.out]; rfl
                by_cases hnc0 : nc = 0
                · subst hnc0
                  have HF := Lib.hid (show ft = pl by
                    have hcz : s.certs = [] := List.length_eq_zero_iff.1 HNC.out
                    rw [← HFT.out, ← HPL.out, HFE.out, HR4.out]; unfold printL rowsL fl; rw [hcz]; simp)
                  have hq : ft.length ≤ 1048576 := by rw [HF.out]; exact HPLn.out
                  go_wp2
                  go_ret2
                  rw [HF.out]
                  exact ⟨rfl, HO5.out.low⟩
                · have hncp : 0 < nc := by omega
                  have hcz : s.certs ≠ [] := fun e => by have := HNC.out; rw [e] at this; simp at this; omega
                  have hrl : (rowL s.certs).length ≤ 8400 := by
                    have h1 := jn_len (zs := s.certs) (fun z hz => by have := HC6.out z hz; omega) s.certs.length (Nat.le_refl _)
                    rw [jn_all _ hcz] at h1
                    have := HNC.out
                    omega
                  have HF := Lib.hid (show ((((⟨ft.toArray⟩ ++ ⟨#[99, 101, 114, 116, 115, 32]⟩) ++ ⟨(rowL s.certs).toArray⟩) ++ ⟨#[10]⟩ : ByteArray)) = ⟨pl.toArray⟩ by
                    refine bytes_eq ?_
                    rw [← HFT.out, ← HPL.out, HFE.out, HR4.out]; unfold printL rowsL fl; rw [if_neg hcz]; simp [sp, wCerts])
                  have HRow := Lib.hid (fun W (hW : Pure' w W) => rrow_ a6 nc k6 w.heap.size s.certs W (HS6.out.pure hW (Nat.le_refl _)) (by omega) (fun z hz => by have := HC6.out z hz; omega))
                  have hq : ft.length + 6 + (rowL s.certs).length + 1 ≤ 1048576 := by
                    have h1 := congrArg (fun b : ByteArray => b.data.toList.length) HF.out
                    simp at h1
                    have := HPLn.out
                    omega
                  have HQ2 := Lib.hid hq
                  clear hcz hq
                  go_upto_if 113 with (go_at_call 32; refine (HRow.out _ HO5.out.low).mono ?_; rintro e w7 ⟨rfl, hk⟩; subst hk)
                  have hb : decide (1048576 < (ft.length : Int) + 6 + ((rowL s.certs).length : Int) + 1) = false := by
                    rw [decide_eq_false_iff_not]
                    have := HQ2.out
                    omega
                  rw [hb]
                  clear hb
                  go_wp2
                  go_ret2
                  rw [HF.out]
                  exact ⟨rfl, HO5.out.low⟩

set_option maxHeartbeats 1000000 in
theorem rprint_no (v0 v1 v5 v6 : Value) (s : Sc) (w : World) (h : ScR w v0 v1 v5 v6 s) (hc : checkV s = false) (h0 : s.pats.length ≤ 100000) (h1 : s.parts.length ≤ 100000) (h5 : s.edits.length ≤ 100000) (h6 : s.certs.length ≤ 100000) :
    Calls Tryd.prog 14 #[scV v0 v1 v5 v6 s] w fun e w' => e = .returned (.tuple #[.string ⟨#[]⟩, .int .i64 2]) ∧ Pure' w w' := by
  have hch := fun W (hW : Pure' w W) => rcheck_ v0 v1 v5 v6 s W (h.pure hW) h0 h1 h5 h6
  rw [hc] at hch
  obtain ⟨a0, k0, rfl, _⟩ := h.p0
  obtain ⟨a1, k1, rfl, _⟩ := h.p1
  obtain ⟨a5, k5, rfl, _⟩ := h.p5
  obtain ⟨a6, k6, rfl, _⟩ := h.p6
  unfold scV at hch ⊢
  generalize s.pats.length = np at *
  generalize s.parts.length = nq at *
  generalize s.edits.length = ne at *
  generalize s.certs.length = nc at *
  have HCh := Lib.hid hch
  have HP := Lib.hid ((Keeps.refl (fun _ => False) w).alloc (.cells #[.slice a0 np k0, .slice a1 nq k1, .int .i64 s.table, .bool s.skip, .int .i64 s.every, .slice a5 ne k5, .slice a6 nc k6] 35))
  have HB := Lib.hid (Blk.new w 35 #[.slice a0 np k0, .slice a1 nq k1, .int .i64 s.table, .bool s.skip, .int .i64 s.every, .slice a5 ne k5, .slice a6 nc k6])
  clear hch hc h
  go_enter Tryd.func14, Tryd.ntmps14
  go_wp2_with ((with_reducible refine at_op ⟨some 9, _, _, _, _, _⟩ ?_); refine wpList_load_row rfl 35 (.tmp 1) rfl w.heap.size rfl 35 #[.slice a0 np k0, .slice a1 nq k1, .int .i64 s.table, .bool s.skip, .int .i64 s.every, .slice a5 ne k5, .slice a6 nc k6] (0, 0) _ HB.out Tryd.underlying35 rfl (by kernel_rfl) ?_; go_wp2_with fail)
  refine (HCh.out _ HP.out).mono ?_
  rintro e w1 ⟨rfl, hk⟩
  have HK1 := Lib.hid (HP.out.then_ hk)
  clear hk
  go_wp2
  go_ret2
  exact ⟨rfl, HK1.out⟩

end Go.Proofs.YtjcjmjnajhkdaaaDoor
