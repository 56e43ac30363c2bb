/- Whether a record holds is as the document says, walked; no condition. -/
import Derived.Test.YtkbdfnmeomkpjaaGreatClmN
namespace Go.Proofs.YtkbdfnmeomkpjaaGreat
open Go.RowKit
set_option linter.unusedVariables false
set_option linter.unusedSimpArgs false
set_option maxRecDepth 100000

theorem and7 (x : Int) : ∃ m : Nat, m ≤ 7 ∧ bits .and .i64 x 7 = (m : Int) := by
  have h : (BitVec.ofInt 64 x &&& BitVec.ofInt 64 7).toNat ≤ 7 := by
    rw [BitVec.toNat_and]
    exact Nat.le_trans Nat.and_le_right (by decide)
  refine ⟨_, h, ?_⟩
  show IntKind.i64.wrap ((BitVec.ofInt 64 x &&& BitVec.ofInt 64 7).toNat : Int) = _
  rw [IntKind.wrap_i64]
  omega
theorem lst_self (a1 a2 : Option Addr) (n1 n2 c1 c2 B1 B2 : Nat) (X : List Int) (w : World) (h1 : Sees w B1 1 a1 n1 (X.map (Value.int .i64))) (h2 : Sees w B2 1 a2 n2 (X.map (Value.int .i64))) (hn : n1 ≤ 1000) (hn2 : n2 ≤ 1000) :
    Calls Tryz.prog 22 #[.slice a1 n1 c1, .slice a2 n2 c2] w fun e w' => e = .returned (.bool true) ∧ Pure' w w' :=
  (lst_same a1 a2 n1 n2 c1 c2 B1 B2 X X w h1 h2 (by omega) (by omega)).mono fun e w' he => ⟨by rw [he.1, decide_eq_true rfl], lst_dn he.2⟩
set_option maxHeartbeats 32000000 in
theorem holds_row (w : World) (A : Option Addr) (m c : Nat) (l0 : List ByteArray) (s0 : ByteArray) (more : Int) (k0 n0 q0 : Int) (A4 : Option Addr) (m4 c4 : Nat) (zs : List Int) (h0 : m ≤ c ∧ m ≤ maxLen ∧ Sees w w.heap.size 1 A m (l0.map Value.string) ∧ ∀ s ∈ l0, s.size ≤ maxLen) (h1 : s0.size ≤ maxLen) (hmo : -9223372036854775808 ≤ more ∧ more ≤ 9223372036854775807)
    (hkk : -9223372036854775808 ≤ k0 ∧ k0 ≤ 9223372036854775807) (hnn : -9223372036854775808 ≤ n0 ∧ n0 ≤ 9223372036854775807) (hqq : -9223372036854775808 ≤ q0 ∧ q0 ≤ 9223372036854775807)
    (h3 : m4 ≤ maxLen ∧ Sees w w.heap.size 1 A4 m4 (zs.map (Value.int .i64)) ∧ ∀ z ∈ zs, -9223372036854775808 ≤ z ∧ z ≤ 9223372036854775807) :
    Calls Tryz.prog 4 #[.slice A m c, .string s0, .int .i64 more, .agg #[.int .i64 k0, .int .i64 n0, .int .i64 q0, .slice A4 m4 c4]] w fun e w' => e = .returned (.bool true) ∧ Pure' w w' := by
  obtain ⟨sl, hsl⟩ : ∃ sl, s0.data.toList = sl := ⟨_, rfl⟩
  have hs0 : s0 = ⟨sl.toArray⟩ := by rw [← hsl]
  subst hs0
  clear hsl
  have hbs : (⟨sl.toArray⟩ : ByteArray).size = sl.length := Lib.size_eq _
  obtain ⟨sn, hsn⟩ : ∃ sn, sl.length = sn := ⟨_, rfl⟩
  have HSN := Lib.hid hsn
  rw [hsn] at hbs
  rw [hbs] at h1
  clear hsn
  obtain ⟨_, hm, hse, hsz⟩ := h0
  obtain ⟨hm4, hz4, _⟩ := h3
  have hll : l0.length = m := by have := hse.1; simpa using this
  have HK0 := Lib.hid (show Pure' w (w.alloc (.cells #[.int .i64 k0, .int .i64 n0, .int .i64 q0, .slice A4 m4 c4] 25)) from (Keeps.refl _ w).alloc _)
  have HBR := Lib.hid (show Blk (w.alloc (.cells #[.int .i64 k0, .int .i64 n0, .int .i64 q0, .slice A4 m4 c4] 25)) w.heap.size 25 #[.int .i64 k0, .int .i64 n0, .int .i64 q0, .slice A4 m4 c4] from Blk.newAt rfl)
  have HFEW := Lib.hid (fun (W : World) (hW : Pure' w W) => few_ A m c w.heap.size l0 W (hse.pure hW (Nat.le_refl _)) 8 12 (by decide) (by decide) hm hsz)
  have HAW := Lib.hid awake36_
  have HSE := Lib.hid hse
  have HZ4 := Lib.hid hz4
  have HLL := Lib.hid hll
  clear hse hsz hll hz4
  go_enter Tryz.func4, Tryz.ntmps4
  go_wp2_with fail
  generalize (w.alloc (.cells #[.int .i64 k0, .int .i64 n0, .int .i64 q0, .slice A4 m4 c4] 25)) = W0 at *
  obtain ⟨br, hbr⟩ : ∃ b, w.heap.size = b := ⟨_, rfl⟩
  have HBRE := Lib.hid hbr
  rw [hbr] at HBR ⊢
  clear hbr
  refine (HFEW.out W0 HK0.out).mono ?_
  rintro e w1 ⟨⟨b0, rfl, hb0⟩, rfl⟩
  have r3 := HBR.out.cell 3
  cases b0 with
  | false =>
    clear hb0
    go_wp2_with fail
    refine (HAW.out _).mono ?_
    rintro e w2 ⟨rfl, hk⟩
    have HK := Lib.hid (HK0.out.trans hk (fun _ _ hf => hf))
    clear hk
    go_wp2_with fail
    go_ret
    exact ⟨rfl, HK.out⟩
  | true =>
    obtain ⟨hf1, hf2⟩ := hb0.1 rfl
    have hm12 : m ≤ 8 := by rw [← HLL.out]; omega
    have HF2 := Lib.hid hf2
    clear hb0 hf1 hf2
    by_cases hs60 : 60 < sn
    · have hs60i : (60 : Int) < (sn : Int) := by omega
      go_wp2_with fail
      refine (HAW.out _).mono ?_
      rintro e w2 ⟨rfl, hk⟩
      have HK := Lib.hid (HK0.out.trans hk (fun _ _ hf => hf))
      clear hk
      go_wp2_with fail
      go_ret
      exact ⟨rfl, HK.out⟩
    have hs60i : ¬ (60 : Int) < (sn : Int) := by omega
    by_cases hm30 : 30 < m4
    · have hm30i : (30 : Int) < (m4 : Int) := by omega
      go_wp2_with fail
      refine (HAW.out _).mono ?_
      rintro e w2 ⟨rfl, hk⟩
      have HK := Lib.hid (HK0.out.trans hk (fun _ _ hf => hf))
      clear hk
      go_wp2_with fail
      go_ret
      exact ⟨rfl, HK.out⟩
    have hm30i : ¬ (30 : Int) < (m4 : Int) := by omega
    have HNR := Lib.hid (rnewE_ A m c w.heap.size l0 W0 (HSE.out.pure HK0.out (Nat.le_refl _)) HK0.out.size (by omega) (fun s hs => by have := HF2.out s hs; omega))
    go_wp2_with fail
    refine HNR.out.mono ?_
    rintro e w2 ⟨A2, c2, l2, er, rfl, hc2, hs2, hk⟩
    have HK2 := Lib.hid (HK0.out.trans hk (fun _ _ hf => hf))
    have HK02 := Lib.hid hk
    rcases hc2 with ⟨hok, rfl, hp2, ho2⟩ | ⟨hno, her, rfl⟩
    case inr =>
      have heri : (er != 0) = true := by simpa using her
      clear her hs2 hk hno
      go_wp2_with fail
      refine (HAW.out _).mono ?_
      rintro e w3 ⟨rfl, hk⟩
      have HK := Lib.hid (HK2.out.trans hk (fun _ _ hf => hf))
      clear hk
      go_wp2_with fail
      go_ret
      exact ⟨rfl, HK.out⟩
    have HOK := Lib.hid hok
    have HPO := Lib.hid (And.intro hp2 ho2)
    have HS2 := Lib.hid hs2
    have hl2 : l2.length ≤ 8 := by
      have h1 := hp2.length_eq
      rw [HLL.out] at h1
      omega
    obtain ⟨mo, hmo7, hmoe⟩ := and7 more
    have HMO := Lib.hid hmoe
    have HSI := Lib.hid (sight_ A m c w.heap.size l0 sl mo w2 hok (HSE.out.pure HK2.out (Nat.le_refl _)) HK2.out.size (by omega) (fun s hs => by have := HF2.out s hs; omega) (by rw [HSN.out]; omega) hmo7)
    have HBR2 := Lib.hid (HBR.out.keep hk (fun hf => hf))
    clear hok hp2 ho2 hs2 hk HNR r3 hmoe
    go_wp2_with fail
    rw [HMO.out]
    refine HSI.out.mono ?_
    rintro e w3 ⟨g, p, gr, x, lp, size, rfl, hsg, hsb, hp3, ho3, hk⟩
    have HK3 := Lib.hid hk
    have HBR3 := Lib.hid (HBR2.out.keep hk (fun hf => hf))
    have hbl := lst_lists (l := l0) (lp := lp) (lq := l2) (er := 0) (.inl ⟨HOK.out, rfl, hp3, ho3⟩) (.inl ⟨HOK.out, HPO.out.1, HPO.out.2⟩)
    have HLS := Lib.hid (fun (W : World) (hW : Pure' w3 W) => by
      have hs := HS2.out.pure (hk.trans hW (fun _ _ hf => hf)) (Nat.le_refl _)
      rw [strVs_bl, hbl] at hs
      exact hs)
    generalize l2.length = n2 at *
    have HWS := Lib.hid (fun (W : World) (hW : Pure' w3 W) => show w.heap.size ≤ W.heap.size by have := HK2.out.size; have := hk.size; have := hW.size; omega)
    have HW2 := Lib.hid (fun (W : World) (hW : Pure' w3 W) => show w2.heap.size ≤ W.heap.size by have := hk.size; have := hW.size; omega)
    have HZ0 := Lib.hid (fun (W : World) (hW : Pure' w3 W) => HZ4.out.pure (HK2.out.trans (hk.trans hW (fun _ _ hf => hf)) (fun _ _ hf => hf)) (Nat.le_refl _))
    have HTK := Lib.hid (show sl.take sn = sl from List.take_of_length_le (by rw [HSN.out]; exact Nat.le_refl _))
    have HAT0 := Lib.hid (fun (W : World) (hW : Pure' w3 W) => by
      have h := rat15_ A2 n2 c2 w2.heap.size (bl lp) sl sn W (HLS.out W hW) (HW2.out W hW) (by omega) (fun y hy => by have := hsb.len y hy; omega) (by rw [HSN.out]; omega) (by rw [HSN.out]; exact Nat.le_refl _)
      rw [HTK.out, ← idB_hits hsb.ne] at h
      exact h)
    have HHO0 := Lib.hid (fun (W : World) (hW : Pure' w3 W) => holds_ g p gr size x lp sl k0 n0 q0 A4 m4 c4 w.heap.size zs W (hsg.pure hW) hsb (HZ0.out W hW) (HWS.out W hW) (by omega))
    have HRH0 := Lib.hid (fun (W : World) (hW : Pure' w3 W) => by
      have h := rholds24_ A2 n2 c2 w2.heap.size lp sl sn k0 n0 q0 A4 m4 c4 w.heap.size zs W (HLS.out W hW) (HW2.out W hW) (HZ0.out W hW) (HWS.out W hW) (by omega) (by omega) (fun y hy => by have := hsb.len y hy; omega) hsb.ne (by have := hsb.m20; omega) (by rw [HSN.out]; omega) (by rw [HSN.out]; exact Nat.le_refl _) hnn.2
      rw [HTK.out] at h
      exact h)
    have HID0 := Lib.hid (fun (W : World) (hW : Pure' w3 W) => cids_ g p gr size x lp sl W (hsg.pure hW) hsb)
    have HMI0 := Lib.hid (fun (W : World) (hW : Pure' w3 W) => cmis_ g p gr size x lp sl A4 m4 c4 w.heap.size zs W (hsg.pure hW) hsb (HZ0.out W hW) (HWS.out W hW) (by omega))
    have HMA0 := Lib.hid (fun (W : World) (hW : Pure' w3 W) => cmade_ g p gr size x lp sl A4 m4 c4 w.heap.size zs W (hsg.pure hW) hsb (HZ0.out W hW) (HWS.out W hW) (by omega))
    have HIL := Lib.hid (show (idB lp sl).length ≤ 1000 by
      rw [idB_hits hsb.ne]
      unfold hitsL
      refine Nat.le_trans (List.length_filter_le _ _) ?_
      rw [List.length_range]
      have := hsb.bll
      omega)
    obtain ⟨ho, hho⟩ : ∃ b, hoB lp sl k0 n0 zs = b := ⟨_, rfl⟩
    rw [hho] at HHO0 HRH0
    obtain ⟨EI, hEI⟩ : ∃ E : List Int, (idB lp sl).map (fun (i : Nat) => (i : Int)) = E := ⟨_, rfl⟩
    rw [hEI] at HMI0 HMA0
    have HEI := Lib.hid hEI
    have HEL := Lib.hid (show EI.length ≤ 1000 by rw [← hEI, List.length_map]; exact HIL.out)
    have HZL := Lib.hid (show zs.length ≤ 1000 by have := HZ4.out.1; rw [List.length_map] at this; omega)
    obtain ⟨X, hX⟩ : ∃ X, minusL EI zs = X := ⟨_, rfl⟩
    obtain ⟨Y, hY⟩ : ∃ Y, minusL zs EI = Y := ⟨_, rfl⟩
    rw [hX] at HMI0
    rw [hY] at HMA0
    have HX := Lib.hid hX
    have HY := Lib.hid hY
    have HXL := Lib.hid (show X.length ≤ 1000 by rw [← hX]; exact Nat.le_trans (List.length_filter_le _ _) HEL.out)
    have HYL := Lib.hid (show Y.length ≤ 1000 by rw [← hY]; exact Nat.le_trans (List.length_filter_le _ _) HZL.out)
    clear hsg hsb hp3 ho3 hbl hk hho hEI hX hY
    unfold sgV at HHO0 HID0 HMI0 HMA0 ⊢
    unfold rcV at HHO0
    go_upto_region 7 with fail
    have HK4 := Lib.hid (show Pure' w3 (w3.alloc (.cells #[.pointer (some ⟨g, 0, none⟩), .pointer (some ⟨p, 0, none⟩)] 34)) from (Keeps.refl _ w3).alloc _)
    have HBS := Lib.hid (show Blk (w3.alloc (.cells #[.pointer (some ⟨g, 0, none⟩), .pointer (some ⟨p, 0, none⟩)] 34)) w3.heap.size 34 #[.pointer (some ⟨g, 0, none⟩), .pointer (some ⟨p, 0, none⟩)] from Blk.newAt rfl)
    have HB4 := Lib.hid (HBR3.out.alloc (.cells #[.pointer (some ⟨g, 0, none⟩), .pointer (some ⟨p, 0, none⟩)] 34))
    generalize (w3.alloc (.cells #[.pointer (some ⟨g, 0, none⟩), .pointer (some ⟨p, 0, none⟩)] 34)) = W4 at *
    generalize w3.heap.size = b11 at *
    have HSC := Lib.hid (fun (W : World) (hW : Pure' W4 W) => And.intro ((HBS.out.keep hW (fun hf => hf)).cell 0) ((HBS.out.keep hW (fun hf => hf)).cell 1))
    have HRC := Lib.hid (fun (W : World) (hW : Pure' W4 W) => And.intro ((HB4.out.keep hW (fun hf => hf)).cell 0) (And.intro ((HB4.out.keep hW (fun hf => hf)).cell 1) (And.intro ((HB4.out.keep hW (fun hf => hf)).cell 2) ((HB4.out.keep hW (fun hf => hf)).cell 3))))
    clear HSI HBR2 HBR3 HBR HB4 HBS
    by_cases hs0 : sn = 0
    · have HE0 := Lib.hid (show EI = [] by
        rw [← HEI.out, List.eq_nil_of_length_eq_zero (show sl.length = 0 by rw [HSN.out]; exact hs0)]
        rfl)
      have hsn0 : ¬ (0 : Int) < (sn : Int) := by omega
      clear hs0
      go_upto_region 12 with fail
      have HK45 := Lib.hid (show Pure' W4 (W4.alloc (.cells #[] 3)) from (Keeps.refl _ W4).alloc _)
      generalize (W4.alloc (.cells #[] 3)) = W5 at *
      obtain ⟨aI, haI⟩ : ∃ a : Option Addr, some ⟨W4.heap.size, 0, none⟩ = a := ⟨_, rfl⟩
      rw [haI]
      clear haI
      have HSI5 := Lib.hid (fun (W : World) (hW : Pure' W5 W) => show Sees W W5.heap.size 1 aI 0 (EI.map (Value.int .i64)) by rw [HE0.out]; exact Sees.nil _ _ _ _)
      have HSC5 := Lib.hid (fun (W : World) (hW : Pure' W5 W) => HSC.out W (HK45.out.trans hW (fun _ _ hf => hf)))
      have HRC5 := Lib.hid (fun (W : World) (hW : Pure' W5 W) => HRC.out W (HK45.out.trans hW (fun _ _ hf => hf)))
      have HK5 := Lib.hid (HK4.out.trans HK45.out (fun _ _ hf => hf))
      have HHO := Lib.hid (fun (W : World) (hW : Pure' W5 W) => HHO0.out W (HK5.out.trans hW (fun _ _ hf => hf)))
      have HRH := Lib.hid (fun (W : World) (hW : Pure' W5 W) => HRH0.out W (HK5.out.trans hW (fun _ _ hf => hf)))
      have HID := Lib.hid (fun (W : World) (hW : Pure' W5 W) => HID0.out W (HK5.out.trans hW (fun _ _ hf => hf)))
      have HMI := Lib.hid (fun (W : World) (hW : Pure' W5 W) => HMI0.out W (HK5.out.trans hW (fun _ _ hf => hf)))
      have HMA := Lib.hid (fun (W : World) (hW : Pure' W5 W) => HMA0.out W (HK5.out.trans hW (fun _ _ hf => hf)))
      have HRM := Lib.hid (fun (W : World) (hW : Pure' W5 W) => by
        have h := rmis36_ aI A4 0 m4 0 c4 W5.heap.size w.heap.size EI zs W (HSI5.out W hW) (HZ0.out W (HK5.out.trans hW (fun _ _ hf => hf))) hW.size (HWS.out W (HK5.out.trans hW (fun _ _ hf => hf))) (by omega) (by omega)
        rwa [HX.out] at h)
      have HRN := Lib.hid (fun (W : World) (hW : Pure' W5 W) => by
        have h := rmis36_ A4 aI m4 0 c4 0 w.heap.size W5.heap.size zs EI W (HZ0.out W (HK5.out.trans hW (fun _ _ hf => hf))) (HSI5.out W hW) (HWS.out W (HK5.out.trans hW (fun _ _ hf => hf))) hW.size (by omega) (by omega)
        rwa [HY.out] at h)
      refine wp_region_held_drew (S := (fun X => Pure' W5 X)) (by kernel_rfl) ((Keeps.refl _ W5).drew) (fun hHeld => ?_)
      have HH := Lib.hid hHeld
      clear hHeld
      refine wpAnyH_take (i := 0) (oi := ⟨some 56, .load 34 (.tmp 11), _, _, _, _⟩) (v := ?vv1) rfl (by kernel_rfl) (by kernel_rfl) (by kernel_rfl) (fun _ _ _ h => h) (Or.inl ⟨by rfl, ?hy1⟩) HH.out ?rr1
      case hy1 => intro W hSw; obtain ⟨s0, s1⟩ := HSC5.out W hSw; obtain ⟨y0, y1, y2, y3⟩ := HRC5.out W hSw; go_simp; try with_reducible rfl
      try simp only [Act.put, List.setIfInBounds_toArray, List.set_cons_zero, List.set_cons_succ]
      refine wpAnyH_take (i := 1) (oi := ⟨some 57, .load 25 (.tmp 7), _, _, _, _⟩) (v := ?vv2) rfl (by kernel_rfl) (by kernel_rfl) (by kernel_rfl) (fun _ _ _ h => h) (Or.inl ⟨by rfl, ?hy2⟩) HH.out ?rr2
      case hy2 => intro W hSw; obtain ⟨s0, s1⟩ := HSC5.out W hSw; obtain ⟨y0, y1, y2, y3⟩ := HRC5.out W hSw; go_simp; try with_reducible rfl
      try simp only [Act.put, List.setIfInBounds_toArray, List.set_cons_zero, List.set_cons_succ]
      refine wpAnyH_take (i := 3) (oi := ⟨some 59, .move (.tmp 9), _, _, _, _⟩) (v := ?vv3) rfl (by kernel_rfl) (by kernel_rfl) (by kernel_rfl) (fun _ _ _ h => h) (Or.inl ⟨by rfl, ?hy3⟩) HH.out ?rr3
      case hy3 => intro W hSw; go_simp; try with_reducible rfl
      try simp only [Act.put, List.setIfInBounds_toArray, List.set_cons_zero, List.set_cons_succ]
      refine wpAnyH_take (i := 4) (oi := ⟨some 60, .move (.tmp 1), _, _, _, _⟩) (v := ?vv4) rfl (by kernel_rfl) (by kernel_rfl) (by kernel_rfl) (fun _ _ _ h => h) (Or.inl ⟨by rfl, ?hy4⟩) HH.out ?rr4
      case hy4 => intro W hSw; go_simp; try with_reducible rfl
      try simp only [Act.put, List.setIfInBounds_toArray, List.set_cons_zero, List.set_cons_succ]
      refine wpAnyH_take (i := 5) (oi := ⟨some 61, .move (.tmp 1), _, _, _, _⟩) (v := ?vv5) rfl (by kernel_rfl) (by kernel_rfl) (by kernel_rfl) (fun _ _ _ h => h) (Or.inl ⟨by rfl, ?hy5⟩) HH.out ?rr5
      case hy5 => intro W hSw; go_simp; try with_reducible rfl
      try simp only [Act.put, List.setIfInBounds_toArray, List.set_cons_zero, List.set_cons_succ]
      refine wpAnyH_take (i := 6) (oi := ⟨some 62, .call { callee := .builtin .len, args := #[.tmp 61], argTypes := #[9] }, _, _, _, _⟩) (v := ?vv6) rfl (by kernel_rfl) (by kernel_rfl) (by kernel_rfl) (fun _ _ _ h => h) (Or.inl ⟨by rfl, ?hy6⟩) HH.out ?rr6
      case hy6 => intro W hSw; go_simp; try with_reducible rfl
      try simp only [Act.put, List.setIfInBounds_toArray, List.set_cons_zero, List.set_cons_succ]
      refine wpAnyH_take (i := 7) (oi := ⟨some 63, .load 25 (.tmp 7), _, _, _, _⟩) (v := ?vv7) rfl (by kernel_rfl) (by kernel_rfl) (by kernel_rfl) (fun _ _ _ h => h) (Or.inl ⟨by rfl, ?hy7⟩) HH.out ?rr7
      case hy7 => intro W hSw; obtain ⟨s0, s1⟩ := HSC5.out W hSw; obtain ⟨y0, y1, y2, y3⟩ := HRC5.out W hSw; go_simp; try with_reducible rfl
      try simp only [Act.put, List.setIfInBounds_toArray, List.set_cons_zero, List.set_cons_succ]
      refine wpAnyH_ready (rs := [2]) (by kernel_rfl) (by simp) ?_
      refine AllReadyH.cons (o := ⟨some 58, .call { callee := .value (.func 11), args := #[.tmp 56, .tmp 57], argTypes := #[34, 25] }, _, _, _, _⟩) rfl (fun K hK => ?_) AllReadyH.nil
      go_simp
      refine (HHO.out _ HH.out).mono ?_
      rintro e2 wB ⟨rfl, hkB⟩
      have HQ2 := Lib.hid (HH.out.trans hkB (fun _ _ hf => hf))
      clear hkB
      go_wp2_with fail
      refine hK.out _ _ (HQ2.out) (fun hHeld => ?_)
      have HH := Lib.hid hHeld
      clear hHeld hK K
      try simp only [Act.put, List.setIfInBounds_toArray, List.set_cons_zero, List.set_cons_succ]
      refine wpAnyH_ready (rs := [8]) (by kernel_rfl) (by simp) ?_
      refine AllReadyH.cons (o := ⟨some 64, .call { callee := .value (.func 21), args := #[.tmp 59, .tmp 60, .tmp 62, .tmp 63], argTypes := #[22, 9, 3, 25] }, _, _, _, _⟩) rfl (fun K hK => ?_) AllReadyH.nil
      go_simp
      refine (HRH.out _ HH.out).mono ?_
      rintro e2 wB ⟨rfl, hkB⟩
      have HQ8 := Lib.hid (HH.out.trans hkB (fun _ _ hf => hf))
      clear hkB
      go_wp2_with fail
      refine hK.out _ _ (HQ8.out) (fun hHeld => ?_)
      have HH := Lib.hid hHeld
      clear hHeld hK K
      try simp only [Act.put, List.setIfInBounds_toArray, List.set_cons_zero, List.set_cons_succ]
      refine wpAnyH_take (i := 9) (oi := ⟨some 65, .binOp .eql 4 (.tmp 58) (.tmp 64) 4, _, _, _, _⟩) (v := ?vv8) rfl (by kernel_rfl) (by kernel_rfl) (by kernel_rfl) (fun _ _ _ h => h) (Or.inl ⟨by rfl, ?hy8⟩) HH.out ?rr8
      case hy8 => intro W hSw; go_simp; try with_reducible rfl
      try simp only [Act.put, List.setIfInBounds_toArray, List.set_cons_zero, List.set_cons_succ]
      refine wpAnyH_take (i := 10) (oi := ⟨some 66, .move (.tmp 65), _, _, _, _⟩) (v := ?vv9) rfl (by kernel_rfl) (by kernel_rfl) (by kernel_rfl) (fun _ _ _ h => h) (Or.inl ⟨by rfl, ?hy9⟩) HH.out ?rr9
      case hy9 => intro W hSw; go_simp; try with_reducible rfl
      try simp only [Act.put, List.setIfInBounds_toArray, List.set_cons_zero, List.set_cons_succ]
      refine wpAnyH_take (i := 11) (oi := ⟨some 67, .load 34 (.tmp 11), _, _, _, _⟩) (v := ?vv10) rfl (by kernel_rfl) (by kernel_rfl) (by kernel_rfl) (fun _ _ _ h => h) (Or.inl ⟨by rfl, ?hy10⟩) HH.out ?rr10
      case hy10 => intro W hSw; obtain ⟨s0, s1⟩ := HSC5.out W hSw; obtain ⟨y0, y1, y2, y3⟩ := HRC5.out W hSw; go_simp; try with_reducible rfl
      try simp only [Act.put, List.setIfInBounds_toArray, List.set_cons_zero, List.set_cons_succ]
      refine wpAnyH_take (i := 13) (oi := ⟨some 69, .move (.tmp 13), _, _, _, _⟩) (v := ?vv11) rfl (by kernel_rfl) (by kernel_rfl) (by kernel_rfl) (fun _ _ _ h => h) (Or.inl ⟨by rfl, ?hy11⟩) HH.out ?rr11
      case hy11 => intro W hSw; go_simp; try with_reducible rfl
      try simp only [Act.put, List.setIfInBounds_toArray, List.set_cons_zero, List.set_cons_succ]
      refine wpAnyH_ready (rs := [12]) (by kernel_rfl) (by simp) ?_
      refine AllReadyH.cons (o := ⟨some 68, .call { callee := .value (.func 19), args := #[.tmp 67], argTypes := #[34] }, _, _, _, _⟩) rfl (fun K hK => ?_) AllReadyH.nil
      go_simp
      refine (HID.out _ HH.out).mono ?_
      rintro e2 wB ⟨a12, c12, rfl, hr, _, hkB⟩
      have HQ12 := Lib.hid (HH.out.trans hkB (fun _ _ hf => hf))
      have HM12 := Lib.hid (lst_self a12 aI (idB lp sl).length 0 c12 0 wB.heap.size W5.heap.size EI wB (by have h := hr.sees; rwa [show idVs (idB lp sl) = ((idB lp sl).map (fun (i : Nat) => (i : Int))).map (Value.int .i64) by simp [idVs], HEI.out] at h) (HSI5.out wB HQ12.out) HIL.out (by omega))
      clear hr hkB
      go_wp2_with fail
      refine hK.out _ _ (HQ12.out) (fun hHeld => ?_)
      have HH := Lib.hid hHeld
      clear hHeld hK K
      try simp only [Act.put, List.setIfInBounds_toArray, List.set_cons_zero, List.set_cons_succ]
      refine wpAnyH_ready (rs := [14]) (by kernel_rfl) (by simp) ?_
      refine AllReadyH.cons (o := ⟨some 70, .call { callee := .value (.func 22), args := #[.tmp 68, .tmp 69], argTypes := #[23, 23] }, _, _, _, _⟩) rfl (fun K hK => ?_) AllReadyH.nil
      go_simp
      refine (HM12.out).mono ?_
      rintro e2 wB ⟨rfl, hkB⟩
      have HQ14 := Lib.hid (HH.out.trans hkB (fun _ _ hf => hf))
      clear hkB
      go_wp2_with fail
      refine hK.out _ _ (HQ14.out) (fun hHeld => ?_)
      have HH := Lib.hid hHeld
      clear hHeld hK K
      try simp only [Act.put, List.setIfInBounds_toArray, List.set_cons_zero, List.set_cons_succ]
      refine wpAnyH_take (i := 15) (oi := ⟨some 71, .pick (.tmp 66) (.tmp 70) (.const (.bool false)), _, _, _, _⟩) (v := ?vv12) rfl (by kernel_rfl) (by kernel_rfl) (by kernel_rfl) (fun _ _ _ h => h) (Or.inl ⟨by rfl, ?hy12⟩) HH.out ?rr12
      case hy12 => intro W hSw; go_simp; try with_reducible rfl
      try simp only [Act.put, List.setIfInBounds_toArray, List.set_cons_zero, List.set_cons_succ]
      refine wpAnyH_take (i := 16) (oi := ⟨some 72, .move (.tmp 71), _, _, _, _⟩) (v := ?vv13) rfl (by kernel_rfl) (by kernel_rfl) (by kernel_rfl) (fun _ _ _ h => h) (Or.inl ⟨by rfl, ?hy13⟩) HH.out ?rr13
      case hy13 => intro W hSw; go_simp; try with_reducible rfl
      try simp only [Act.put, List.setIfInBounds_toArray, List.set_cons_zero, List.set_cons_succ]
      refine wpAnyH_take (i := 17) (oi := ⟨some 73, .load 34 (.tmp 11), _, _, _, _⟩) (v := ?vv14) rfl (by kernel_rfl) (by kernel_rfl) (by kernel_rfl) (fun _ _ _ h => h) (Or.inl ⟨by rfl, ?hy14⟩) HH.out ?rr14
      case hy14 => intro W hSw; obtain ⟨s0, s1⟩ := HSC5.out W hSw; obtain ⟨y0, y1, y2, y3⟩ := HRC5.out W hSw; go_simp; try with_reducible rfl
      try simp only [Act.put, List.setIfInBounds_toArray, List.set_cons_zero, List.set_cons_succ]
      refine wpAnyH_take (i := 18) (oi := ⟨some 74, .fieldAddr 25 (.tmp 7) 3, _, _, _, _⟩) (v := ?vv15) rfl (by kernel_rfl) (by kernel_rfl) (by kernel_rfl) (fun _ _ _ h => h) (Or.inl ⟨by rfl, ?hy15⟩) HH.out ?rr15
      case hy15 => intro W hSw; go_simp; try with_reducible rfl
      try simp only [Act.put, List.setIfInBounds_toArray, List.set_cons_zero, List.set_cons_succ]
      refine wpAnyH_take (i := 19) (oi := ⟨some 75, .load 23 (.tmp 74), _, _, _, _⟩) (v := ?vv16) rfl (by kernel_rfl) (by kernel_rfl) (by kernel_rfl) (fun _ _ _ h => h) (Or.inl ⟨by rfl, ?hy16⟩) HH.out ?rr16
      case hy16 => intro W hSw; obtain ⟨s0, s1⟩ := HSC5.out W hSw; obtain ⟨y0, y1, y2, y3⟩ := HRC5.out W hSw; go_simp; try with_reducible rfl
      try simp only [Act.put, List.setIfInBounds_toArray, List.set_cons_zero, List.set_cons_succ]
      refine wpAnyH_take (i := 21) (oi := ⟨some 77, .move (.tmp 13), _, _, _, _⟩) (v := ?vv17) rfl (by kernel_rfl) (by kernel_rfl) (by kernel_rfl) (fun _ _ _ h => h) (Or.inl ⟨by rfl, ?hy17⟩) HH.out ?rr17
      case hy17 => intro W hSw; go_simp; try with_reducible rfl
      try simp only [Act.put, List.setIfInBounds_toArray, List.set_cons_zero, List.set_cons_succ]
      refine wpAnyH_take (i := 22) (oi := ⟨some 78, .fieldAddr 25 (.tmp 7) 3, _, _, _, _⟩) (v := ?vv18) rfl (by kernel_rfl) (by kernel_rfl) (by kernel_rfl) (fun _ _ _ h => h) (Or.inl ⟨by rfl, ?hy18⟩) HH.out ?rr18
      case hy18 => intro W hSw; go_simp; try with_reducible rfl
      try simp only [Act.put, List.setIfInBounds_toArray, List.set_cons_zero, List.set_cons_succ]
      refine wpAnyH_take (i := 23) (oi := ⟨some 79, .load 23 (.tmp 78), _, _, _, _⟩) (v := ?vv19) rfl (by kernel_rfl) (by kernel_rfl) (by kernel_rfl) (fun _ _ _ h => h) (Or.inl ⟨by rfl, ?hy19⟩) HH.out ?rr19
      case hy19 => intro W hSw; obtain ⟨s0, s1⟩ := HSC5.out W hSw; obtain ⟨y0, y1, y2, y3⟩ := HRC5.out W hSw; go_simp; try with_reducible rfl
      try simp only [Act.put, List.setIfInBounds_toArray, List.set_cons_zero, List.set_cons_succ]
      refine wpAnyH_ready (rs := [20]) (by kernel_rfl) (by simp) ?_
      refine AllReadyH.cons (o := ⟨some 76, .call { callee := .value (.func 23), args := #[.tmp 73, .tmp 75], argTypes := #[34, 23] }, _, _, _, _⟩) rfl (fun K hK => ?_) AllReadyH.nil
      go_simp
      refine (HMI.out _ HH.out).mono ?_
      rintro e2 wB ⟨a20, c20, rfl, hr, _, hkB⟩
      have HQ20 := Lib.hid (HH.out.trans hkB (fun _ _ hf => hf))
      have HS20 := Lib.hid (fun (W : World) (hW : Pure' wB W) => hr.sees.pure hW (Nat.le_refl _))
      clear hr hkB
      go_wp2_with fail
      refine hK.out _ _ (HQ20.out) (fun hHeld => ?_)
      have HH := Lib.hid hHeld
      clear hHeld hK K
      try simp only [Act.put, List.setIfInBounds_toArray, List.set_cons_zero, List.set_cons_succ]
      refine wpAnyH_ready (rs := [24]) (by kernel_rfl) (by simp) ?_
      refine AllReadyH.cons (o := ⟨some 80, .call { callee := .value (.func 24), args := #[.tmp 77, .tmp 79], argTypes := #[23, 23] }, _, _, _, _⟩) rfl (fun K hK => ?_) AllReadyH.nil
      go_simp
      refine (HRM.out _ HH.out).mono ?_
      rintro e2 wB ⟨a24, c24, rfl, hr, _, hkB⟩
      have HQ24 := Lib.hid (HH.out.trans hkB (fun _ _ hf => hf))
      have HM24 := Lib.hid (lst_self a20 a24 X.length X.length c20 c24 _ _ X wB (HS20.out wB hkB) hr.sees HXL.out HXL.out)
      clear hr hkB
      go_wp2_with fail
      refine hK.out _ _ (HQ24.out) (fun hHeld => ?_)
      have HH := Lib.hid hHeld
      clear hHeld hK K
      try simp only [Act.put, List.setIfInBounds_toArray, List.set_cons_zero, List.set_cons_succ]
      refine wpAnyH_ready (rs := [25]) (by kernel_rfl) (by simp) ?_
      refine AllReadyH.cons (o := ⟨some 81, .call { callee := .value (.func 22), args := #[.tmp 76, .tmp 80], argTypes := #[23, 23] }, _, _, _, _⟩) rfl (fun K hK => ?_) AllReadyH.nil
      go_simp
      refine (HM24.out).mono ?_
      rintro e2 wB ⟨rfl, hkB⟩
      have HQ25 := Lib.hid (HH.out.trans hkB (fun _ _ hf => hf))
      clear hkB
      go_wp2_with fail
      refine hK.out _ _ (HQ25.out) (fun hHeld => ?_)
      have HH := Lib.hid hHeld
      clear hHeld hK K
      try simp only [Act.put, List.setIfInBounds_toArray, List.set_cons_zero, List.set_cons_succ]
      refine wpAnyH_take (i := 26) (oi := ⟨some 82, .pick (.tmp 72) (.tmp 81) (.const (.bool false)), _, _, _, _⟩) (v := ?vv20) rfl (by kernel_rfl) (by kernel_rfl) (by kernel_rfl) (fun _ _ _ h => h) (Or.inl ⟨by rfl, ?hy20⟩) HH.out ?rr20
      case hy20 => intro W hSw; go_simp; try with_reducible rfl
      try simp only [Act.put, List.setIfInBounds_toArray, List.set_cons_zero, List.set_cons_succ]
      refine wpAnyH_take (i := 27) (oi := ⟨some 83, .move (.tmp 82), _, _, _, _⟩) (v := ?vv21) rfl (by kernel_rfl) (by kernel_rfl) (by kernel_rfl) (fun _ _ _ h => h) (Or.inl ⟨by rfl, ?hy21⟩) HH.out ?rr21
      case hy21 => intro W hSw; go_simp; try with_reducible rfl
      try simp only [Act.put, List.setIfInBounds_toArray, List.set_cons_zero, List.set_cons_succ]
      refine wpAnyH_take (i := 28) (oi := ⟨some 84, .load 34 (.tmp 11), _, _, _, _⟩) (v := ?vv22) rfl (by kernel_rfl) (by kernel_rfl) (by kernel_rfl) (fun _ _ _ h => h) (Or.inl ⟨by rfl, ?hy22⟩) HH.out ?rr22
      case hy22 => intro W hSw; obtain ⟨s0, s1⟩ := HSC5.out W hSw; obtain ⟨y0, y1, y2, y3⟩ := HRC5.out W hSw; go_simp; try with_reducible rfl
      try simp only [Act.put, List.setIfInBounds_toArray, List.set_cons_zero, List.set_cons_succ]
      refine wpAnyH_take (i := 29) (oi := ⟨some 85, .fieldAddr 25 (.tmp 7) 3, _, _, _, _⟩) (v := ?vv23) rfl (by kernel_rfl) (by kernel_rfl) (by kernel_rfl) (fun _ _ _ h => h) (Or.inl ⟨by rfl, ?hy23⟩) HH.out ?rr23
      case hy23 => intro W hSw; go_simp; try with_reducible rfl
      try simp only [Act.put, List.setIfInBounds_toArray, List.set_cons_zero, List.set_cons_succ]
      refine wpAnyH_take (i := 30) (oi := ⟨some 86, .load 23 (.tmp 85), _, _, _, _⟩) (v := ?vv24) rfl (by kernel_rfl) (by kernel_rfl) (by kernel_rfl) (fun _ _ _ h => h) (Or.inl ⟨by rfl, ?hy24⟩) HH.out ?rr24
      case hy24 => intro W hSw; obtain ⟨s0, s1⟩ := HSC5.out W hSw; obtain ⟨y0, y1, y2, y3⟩ := HRC5.out W hSw; go_simp; try with_reducible rfl
      try simp only [Act.put, List.setIfInBounds_toArray, List.set_cons_zero, List.set_cons_succ]
      refine wpAnyH_take (i := 32) (oi := ⟨some 88, .fieldAddr 25 (.tmp 7) 3, _, _, _, _⟩) (v := ?vv25) rfl (by kernel_rfl) (by kernel_rfl) (by kernel_rfl) (fun _ _ _ h => h) (Or.inl ⟨by rfl, ?hy25⟩) HH.out ?rr25
      case hy25 => intro W hSw; go_simp; try with_reducible rfl
      try simp only [Act.put, List.setIfInBounds_toArray, List.set_cons_zero, List.set_cons_succ]
      refine wpAnyH_take (i := 33) (oi := ⟨some 89, .load 23 (.tmp 88), _, _, _, _⟩) (v := ?vv26) rfl (by kernel_rfl) (by kernel_rfl) (by kernel_rfl) (fun _ _ _ h => h) (Or.inl ⟨by rfl, ?hy26⟩) HH.out ?rr26
      case hy26 => intro W hSw; obtain ⟨s0, s1⟩ := HSC5.out W hSw; obtain ⟨y0, y1, y2, y3⟩ := HRC5.out W hSw; go_simp; try with_reducible rfl
      try simp only [Act.put, List.setIfInBounds_toArray, List.set_cons_zero, List.set_cons_succ]
      refine wpAnyH_take (i := 34) (oi := ⟨some 90, .move (.tmp 13), _, _, _, _⟩) (v := ?vv27) rfl (by kernel_rfl) (by kernel_rfl) (by kernel_rfl) (fun _ _ _ h => h) (Or.inl ⟨by rfl, ?hy27⟩) HH.out ?rr27
      case hy27 => intro W hSw; go_simp; try with_reducible rfl
      try simp only [Act.put, List.setIfInBounds_toArray, List.set_cons_zero, List.set_cons_succ]
      refine wpAnyH_ready (rs := [31]) (by kernel_rfl) (by simp) ?_
      refine AllReadyH.cons (o := ⟨some 87, .call { callee := .value (.func 25), args := #[.tmp 84, .tmp 86], argTypes := #[34, 23] }, _, _, _, _⟩) rfl (fun K hK => ?_) AllReadyH.nil
      go_simp
      refine (HMA.out _ HH.out).mono ?_
      rintro e2 wB ⟨a31, c31, rfl, hr, _, hkB⟩
      have HQ31 := Lib.hid (HH.out.trans hkB (fun _ _ hf => hf))
      have HS31 := Lib.hid (fun (W : World) (hW : Pure' wB W) => hr.sees.pure hW (Nat.le_refl _))
      clear hr hkB
      go_wp2_with fail
      refine hK.out _ _ (HQ31.out) (fun hHeld => ?_)
      have HH := Lib.hid hHeld
      clear hHeld hK K
      try simp only [Act.put, List.setIfInBounds_toArray, List.set_cons_zero, List.set_cons_succ]
      refine wpAnyH_ready (rs := [35]) (by kernel_rfl) (by simp) ?_
      refine AllReadyH.cons (o := ⟨some 91, .call { callee := .value (.func 24), args := #[.tmp 89, .tmp 90], argTypes := #[23, 23] }, _, _, _, _⟩) rfl (fun K hK => ?_) AllReadyH.nil
      go_simp
      refine (HRN.out _ HH.out).mono ?_
      rintro e2 wB ⟨a35, c35, rfl, hr, _, hkB⟩
      have HQ35 := Lib.hid (HH.out.trans hkB (fun _ _ hf => hf))
      have HM35 := Lib.hid (lst_self a31 a35 Y.length Y.length c31 c35 _ _ Y wB (HS31.out wB hkB) hr.sees HYL.out HYL.out)
      clear hr hkB
      go_wp2_with fail
      refine hK.out _ _ (HQ35.out) (fun hHeld => ?_)
      have HH := Lib.hid hHeld
      clear hHeld hK K
      try simp only [Act.put, List.setIfInBounds_toArray, List.set_cons_zero, List.set_cons_succ]
      refine wpAnyH_ready (rs := [36]) (by kernel_rfl) (by simp) ?_
      refine AllReadyH.cons (o := ⟨some 92, .call { callee := .value (.func 22), args := #[.tmp 87, .tmp 91], argTypes := #[23, 23] }, _, _, _, _⟩) rfl (fun K hK => ?_) AllReadyH.nil
      go_simp
      refine (HM35.out).mono ?_
      rintro e2 wB ⟨rfl, hkB⟩
      have HQ36 := Lib.hid (HH.out.trans hkB (fun _ _ hf => hf))
      clear hkB
      go_wp2_with fail
      refine hK.out _ _ (HQ36.out) (fun hHeld => ?_)
      have HH := Lib.hid hHeld
      clear hHeld hK K
      try simp only [Act.put, List.setIfInBounds_toArray, List.set_cons_zero, List.set_cons_succ]
      refine wpAnyH_take (i := 37) (oi := ⟨some 93, .pick (.tmp 83) (.tmp 92) (.const (.bool false)), _, _, _, _⟩) (v := ?vv28) rfl (by kernel_rfl) (by kernel_rfl) (by kernel_rfl) (fun _ _ _ h => h) (Or.inl ⟨by rfl, ?hy28⟩) HH.out ?rr28
      case hy28 => intro W hSw; go_simp; try with_reducible rfl
      try simp only [Act.put, List.setIfInBounds_toArray, List.set_cons_zero, List.set_cons_succ]
      refine wpAnyH_take (i := 38) (oi := ⟨some 94, .move (.tmp 93), _, _, _, _⟩) (v := ?vv29) rfl (by kernel_rfl) (by kernel_rfl) (by kernel_rfl) (fun _ _ _ h => h) (Or.inl ⟨by rfl, ?hy29⟩) HH.out ?rr29
      case hy29 => intro W hSw; go_simp; try with_reducible rfl
      try simp only [Act.put, List.setIfInBounds_toArray, List.set_cons_zero, List.set_cons_succ]
      refine wpAnyH_ready (rs := [39]) (by kernel_rfl) (by simp) ?_
      refine AllReadyH.cons (o := ⟨some 95, .call { callee := .value (.func 8), args := #[], argTypes := #[] }, _, _, _, _⟩) rfl (fun K hK => ?_) AllReadyH.nil
      go_simp
      refine (HAW.out _).mono ?_
      rintro e2 wB ⟨rfl, hkB⟩
      have HQ39 := Lib.hid (HH.out.trans hkB (fun _ _ hf => hf))
      clear hkB
      go_wp2_with fail
      refine hK.out _ _ (HQ39.out) (fun hHeld => ?_)
      have HH := Lib.hid hHeld
      clear hHeld hK K
      try simp only [Act.put, List.setIfInBounds_toArray, List.set_cons_zero, List.set_cons_succ]
      refine wpAnyH_take (i := 40) (oi := ⟨some 96, .pick (.tmp 94) (.tmp 95) (.const (.bool false)), _, _, _, _⟩) (v := ?vv30) rfl (by kernel_rfl) (by kernel_rfl) (by kernel_rfl) (fun _ _ _ h => h) (Or.inl ⟨by rfl, ?hy30⟩) HH.out ?rr30
      case hy30 => intro W hSw; go_simp; try with_reducible rfl
      try simp only [Act.put, List.setIfInBounds_toArray, List.set_cons_zero, List.set_cons_succ]
      refine wpAnyH_take (i := 41) (oi := ⟨some 8, .assign (.tmp 96), _, _, _, _⟩) (v := ?vv31) rfl (by kernel_rfl) (by kernel_rfl) (by kernel_rfl) (fun _ _ _ h => h) (Or.inl ⟨by rfl, ?hy31⟩) HH.out ?rr31
      case hy31 => intro W hSw; go_simp; try with_reducible rfl
      try simp only [Act.put, List.setIfInBounds_toArray, List.set_cons_zero, List.set_cons_succ]
      refine wpAnyH_done (by kernel_rfl) ?_ _
      go_wp2_with fail
      go_ret
      exact ⟨rfl, HK2.out.trans (HK3.out.trans (HK5.out.trans HQ39.out (fun _ _ hf => hf)) (fun _ _ hf => hf)) (fun _ _ hf => hf)⟩
    · have hsn0 : (0 : Int) < (sn : Int) := by omega
      clear hs0
      go_wp2_with fail
      refine (HAT0.out _ (HK4.out.trans ((Keeps.refl _ W4).alloc _) (fun _ _ hf => hf))).mono ?_
      rintro e W5 ⟨aI, cI, rfl, hr, _, hk⟩
      have HK45 := Lib.hid (((Keeps.refl (fun _ => False) W4).alloc _).trans hk (fun _ _ hf => hf))
      have hs5 := hr.sees
      rw [show idVs (idB lp sl) = ((idB lp sl).map (fun (i : Nat) => (i : Int))).map (Value.int .i64) by simp [idVs], HEI.out] at hs5
      have hil := HIL.out
      obtain ⟨nI, hnI⟩ : ∃ n, (idB lp sl).length = n := ⟨_, rfl⟩
      rw [hnI] at hs5 hil ⊢
      have HSI5 := Lib.hid (fun (W : World) (hW : Pure' W5 W) => hs5.pure hW (Nat.le_refl _))
      clear hr hk hs5 hnI
      go_upto_region 12 with fail
      have HSC5 := Lib.hid (fun (W : World) (hW : Pure' W5 W) => HSC.out W (HK45.out.trans hW (fun _ _ hf => hf)))
      have HRC5 := Lib.hid (fun (W : World) (hW : Pure' W5 W) => HRC.out W (HK45.out.trans hW (fun _ _ hf => hf)))
      have HK5 := Lib.hid (HK4.out.trans HK45.out (fun _ _ hf => hf))
      have HHO := Lib.hid (fun (W : World) (hW : Pure' W5 W) => HHO0.out W (HK5.out.trans hW (fun _ _ hf => hf)))
      have HRH := Lib.hid (fun (W : World) (hW : Pure' W5 W) => HRH0.out W (HK5.out.trans hW (fun _ _ hf => hf)))
      have HID := Lib.hid (fun (W : World) (hW : Pure' W5 W) => HID0.out W (HK5.out.trans hW (fun _ _ hf => hf)))
      have HMI := Lib.hid (fun (W : World) (hW : Pure' W5 W) => HMI0.out W (HK5.out.trans hW (fun _ _ hf => hf)))
      have HMA := Lib.hid (fun (W : World) (hW : Pure' W5 W) => HMA0.out W (HK5.out.trans hW (fun _ _ hf => hf)))
      have HRM := Lib.hid (fun (W : World) (hW : Pure' W5 W) => by
        have h := rmis36_ aI A4 nI m4 cI c4 W5.heap.size w.heap.size EI zs W (HSI5.out W hW) (HZ0.out W (HK5.out.trans hW (fun _ _ hf => hf))) hW.size (HWS.out W (HK5.out.trans hW (fun _ _ hf => hf))) (by omega) (by omega)
        rwa [HX.out] at h)
      have HRN := Lib.hid (fun (W : World) (hW : Pure' W5 W) => by
        have h := rmis36_ A4 aI m4 nI c4 cI w.heap.size W5.heap.size zs EI W (HZ0.out W (HK5.out.trans hW (fun _ _ hf => hf))) (HSI5.out W hW) (HWS.out W (HK5.out.trans hW (fun _ _ hf => hf))) hW.size (by omega) (by omega)
        rwa [HY.out] at h)
      refine wp_region_held_drew (S := (fun X => Pure' W5 X)) (by kernel_rfl) ((Keeps.refl _ W5).drew) (fun hHeld => ?_)
      have HH := Lib.hid hHeld
      clear hHeld
      refine wpAnyH_take (i := 0) (oi := ⟨some 56, .load 34 (.tmp 11), _, _, _, _⟩) (v := ?vv32) rfl (by kernel_rfl) (by kernel_rfl) (by kernel_rfl) (fun _ _ _ h => h) (Or.inl ⟨by rfl, ?hy32⟩) HH.out ?rr32
      case hy32 => intro W hSw; obtain ⟨s0, s1⟩ := HSC5.out W hSw; obtain ⟨y0, y1, y2, y3⟩ := HRC5.out W hSw; go_simp; try with_reducible rfl
      try simp only [Act.put, List.setIfInBounds_toArray, List.set_cons_zero, List.set_cons_succ]
      refine wpAnyH_take (i := 1) (oi := ⟨some 57, .load 25 (.tmp 7), _, _, _, _⟩) (v := ?vv33) rfl (by kernel_rfl) (by kernel_rfl) (by kernel_rfl) (fun _ _ _ h => h) (Or.inl ⟨by rfl, ?hy33⟩) HH.out ?rr33
      case hy33 => intro W hSw; obtain ⟨s0, s1⟩ := HSC5.out W hSw; obtain ⟨y0, y1, y2, y3⟩ := HRC5.out W hSw; go_simp; try with_reducible rfl
      try simp only [Act.put, List.setIfInBounds_toArray, List.set_cons_zero, List.set_cons_succ]
      refine wpAnyH_take (i := 3) (oi := ⟨some 59, .move (.tmp 9), _, _, _, _⟩) (v := ?vv34) rfl (by kernel_rfl) (by kernel_rfl) (by kernel_rfl) (fun _ _ _ h => h) (Or.inl ⟨by rfl, ?hy34⟩) HH.out ?rr34
      case hy34 => intro W hSw; go_simp; try with_reducible rfl
      try simp only [Act.put, List.setIfInBounds_toArray, List.set_cons_zero, List.set_cons_succ]
      refine wpAnyH_take (i := 4) (oi := ⟨some 60, .move (.tmp 1), _, _, _, _⟩) (v := ?vv35) rfl (by kernel_rfl) (by kernel_rfl) (by kernel_rfl) (fun _ _ _ h => h) (Or.inl ⟨by rfl, ?hy35⟩) HH.out ?rr35
      case hy35 => intro W hSw; go_simp; try with_reducible rfl
      try simp only [Act.put, List.setIfInBounds_toArray, List.set_cons_zero, List.set_cons_succ]
      refine wpAnyH_take (i := 5) (oi := ⟨some 61, .move (.tmp 1), _, _, _, _⟩) (v := ?vv36) rfl (by kernel_rfl) (by kernel_rfl) (by kernel_rfl) (fun _ _ _ h => h) (Or.inl ⟨by rfl, ?hy36⟩) HH.out ?rr36
      case hy36 => intro W hSw; go_simp; try with_reducible rfl
      try simp only [Act.put, List.setIfInBounds_toArray, List.set_cons_zero, List.set_cons_succ]
      refine wpAnyH_take (i := 6) (oi := ⟨some 62, .call { callee := .builtin .len, args := #[.tmp 61], argTypes := #[9] }, _, _, _, _⟩) (v := ?vv37) rfl (by kernel_rfl) (by kernel_rfl) (by kernel_rfl) (fun _ _ _ h => h) (Or.inl ⟨by rfl, ?hy37⟩) HH.out ?rr37
      case hy37 => intro W hSw; go_simp; try with_reducible rfl
      try simp only [Act.put, List.setIfInBounds_toArray, List.set_cons_zero, List.set_cons_succ]
      refine wpAnyH_take (i := 7) (oi := ⟨some 63, .load 25 (.tmp 7), _, _, _, _⟩) (v := ?vv38) rfl (by kernel_rfl) (by kernel_rfl) (by kernel_rfl) (fun _ _ _ h => h) (Or.inl ⟨by rfl, ?hy38⟩) HH.out ?rr38
      case hy38 => intro W hSw; obtain ⟨s0, s1⟩ := HSC5.out W hSw; obtain ⟨y0, y1, y2, y3⟩ := HRC5.out W hSw; go_simp; try with_reducible rfl
      try simp only [Act.put, List.setIfInBounds_toArray, List.set_cons_zero, List.set_cons_succ]
      refine wpAnyH_ready (rs := [2]) (by kernel_rfl) (by simp) ?_
      refine AllReadyH.cons (o := ⟨some 58, .call { callee := .value (.func 11), args := #[.tmp 56, .tmp 57], argTypes := #[34, 25] }, _, _, _, _⟩) rfl (fun K hK => ?_) AllReadyH.nil
      go_simp
      refine (HHO.out _ HH.out).mono ?_
      rintro e2 wB ⟨rfl, hkB⟩
      have HQ2 := Lib.hid (HH.out.trans hkB (fun _ _ hf => hf))
      clear hkB
      go_wp2_with fail
      refine hK.out _ _ (HQ2.out) (fun hHeld => ?_)
      have HH := Lib.hid hHeld
      clear hHeld hK K
      try simp only [Act.put, List.setIfInBounds_toArray, List.set_cons_zero, List.set_cons_succ]
      refine wpAnyH_ready (rs := [8]) (by kernel_rfl) (by simp) ?_
      refine AllReadyH.cons (o := ⟨some 64, .call { callee := .value (.func 21), args := #[.tmp 59, .tmp 60, .tmp 62, .tmp 63], argTypes := #[22, 9, 3, 25] }, _, _, _, _⟩) rfl (fun K hK => ?_) AllReadyH.nil
      go_simp
      refine (HRH.out _ HH.out).mono ?_
      rintro e2 wB ⟨rfl, hkB⟩
      have HQ8 := Lib.hid (HH.out.trans hkB (fun _ _ hf => hf))
      clear hkB
      go_wp2_with fail
      refine hK.out _ _ (HQ8.out) (fun hHeld => ?_)
      have HH := Lib.hid hHeld
      clear hHeld hK K
      try simp only [Act.put, List.setIfInBounds_toArray, List.set_cons_zero, List.set_cons_succ]
      refine wpAnyH_take (i := 9) (oi := ⟨some 65, .binOp .eql 4 (.tmp 58) (.tmp 64) 4, _, _, _, _⟩) (v := ?vv39) rfl (by kernel_rfl) (by kernel_rfl) (by kernel_rfl) (fun _ _ _ h => h) (Or.inl ⟨by rfl, ?hy39⟩) HH.out ?rr39
      case hy39 => intro W hSw; go_simp; try with_reducible rfl
      try simp only [Act.put, List.setIfInBounds_toArray, List.set_cons_zero, List.set_cons_succ]
      refine wpAnyH_take (i := 10) (oi := ⟨some 66, .move (.tmp 65), _, _, _, _⟩) (v := ?vv40) rfl (by kernel_rfl) (by kernel_rfl) (by kernel_rfl) (fun _ _ _ h => h) (Or.inl ⟨by rfl, ?hy40⟩) HH.out ?rr40
      case hy40 => intro W hSw; go_simp; try with_reducible rfl
      try simp only [Act.put, List.setIfInBounds_toArray, List.set_cons_zero, List.set_cons_succ]
      refine wpAnyH_take (i := 11) (oi := ⟨some 67, .load 34 (.tmp 11), _, _, _, _⟩) (v := ?vv41) rfl (by kernel_rfl) (by kernel_rfl) (by kernel_rfl) (fun _ _ _ h => h) (Or.inl ⟨by rfl, ?hy41⟩) HH.out ?rr41
      case hy41 => intro W hSw; obtain ⟨s0, s1⟩ := HSC5.out W hSw; obtain ⟨y0, y1, y2, y3⟩ := HRC5.out W hSw; go_simp; try with_reducible rfl
      try simp only [Act.put, List.setIfInBounds_toArray, List.set_cons_zero, List.set_cons_succ]
      refine wpAnyH_take (i := 13) (oi := ⟨some 69, .move (.tmp 13), _, _, _, _⟩) (v := ?vv42) rfl (by kernel_rfl) (by kernel_rfl) (by kernel_rfl) (fun _ _ _ h => h) (Or.inl ⟨by rfl, ?hy42⟩) HH.out ?rr42
      case hy42 => intro W hSw; go_simp; try with_reducible rfl
      try simp only [Act.put, List.setIfInBounds_toArray, List.set_cons_zero, List.set_cons_succ]
      refine wpAnyH_ready (rs := [12]) (by kernel_rfl) (by simp) ?_
      refine AllReadyH.cons (o := ⟨some 68, .call { callee := .value (.func 19), args := #[.tmp 67], argTypes := #[34] }, _, _, _, _⟩) rfl (fun K hK => ?_) AllReadyH.nil
      go_simp
      refine (HID.out _ HH.out).mono ?_
      rintro e2 wB ⟨a12, c12, rfl, hr, _, hkB⟩
      have HQ12 := Lib.hid (HH.out.trans hkB (fun _ _ hf => hf))
      have HM12 := Lib.hid (lst_self a12 aI (idB lp sl).length nI c12 cI wB.heap.size W5.heap.size EI wB (by have h := hr.sees; rwa [show idVs (idB lp sl) = ((idB lp sl).map (fun (i : Nat) => (i : Int))).map (Value.int .i64) by simp [idVs], HEI.out] at h) (HSI5.out wB HQ12.out) HIL.out (by omega))
      clear hr hkB
      go_wp2_with fail
      refine hK.out _ _ (HQ12.out) (fun hHeld => ?_)
      have HH := Lib.hid hHeld
      clear hHeld hK K
      try simp only [Act.put, List.setIfInBounds_toArray, List.set_cons_zero, List.set_cons_succ]
      refine wpAnyH_ready (rs := [14]) (by kernel_rfl) (by simp) ?_
      refine AllReadyH.cons (o := ⟨some 70, .call { callee := .value (.func 22), args := #[.tmp 68, .tmp 69], argTypes := #[23, 23] }, _, _, _, _⟩) rfl (fun K hK => ?_) AllReadyH.nil
      go_simp
      refine (HM12.out).mono ?_
      rintro e2 wB ⟨rfl, hkB⟩
      have HQ14 := Lib.hid (HH.out.trans hkB (fun _ _ hf => hf))
      clear hkB
      go_wp2_with fail
      refine hK.out _ _ (HQ14.out) (fun hHeld => ?_)
      have HH := Lib.hid hHeld
      clear hHeld hK K
      try simp only [Act.put, List.setIfInBounds_toArray, List.set_cons_zero, List.set_cons_succ]
      refine wpAnyH_take (i := 15) (oi := ⟨some 71, .pick (.tmp 66) (.tmp 70) (.const (.bool false)), _, _, _, _⟩) (v := ?vv43) rfl (by kernel_rfl) (by kernel_rfl) (by kernel_rfl) (fun _ _ _ h => h) (Or.inl ⟨by rfl, ?hy43⟩) HH.out ?rr43
      case hy43 => intro W hSw; go_simp; try with_reducible rfl
      try simp only [Act.put, List.setIfInBounds_toArray, List.set_cons_zero, List.set_cons_succ]
      refine wpAnyH_take (i := 16) (oi := ⟨some 72, .move (.tmp 71), _, _, _, _⟩) (v := ?vv44) rfl (by kernel_rfl) (by kernel_rfl) (by kernel_rfl) (fun _ _ _ h => h) (Or.inl ⟨by rfl, ?hy44⟩) HH.out ?rr44
      case hy44 => intro W hSw; go_simp; try with_reducible rfl
      try simp only [Act.put, List.setIfInBounds_toArray, List.set_cons_zero, List.set_cons_succ]
      refine wpAnyH_take (i := 17) (oi := ⟨some 73, .load 34 (.tmp 11), _, _, _, _⟩) (v := ?vv45) rfl (by kernel_rfl) (by kernel_rfl) (by kernel_rfl) (fun _ _ _ h => h) (Or.inl ⟨by rfl, ?hy45⟩) HH.out ?rr45
      case hy45 => intro W hSw; obtain ⟨s0, s1⟩ := HSC5.out W hSw; obtain ⟨y0, y1, y2, y3⟩ := HRC5.out W hSw; go_simp; try with_reducible rfl
      try simp only [Act.put, List.setIfInBounds_toArray, List.set_cons_zero, List.set_cons_succ]
      refine wpAnyH_take (i := 18) (oi := ⟨some 74, .fieldAddr 25 (.tmp 7) 3, _, _, _, _⟩) (v := ?vv46) rfl (by kernel_rfl) (by kernel_rfl) (by kernel_rfl) (fun _ _ _ h => h) (Or.inl ⟨by rfl, ?hy46⟩) HH.out ?rr46
      case hy46 => intro W hSw; go_simp; try with_reducible rfl
      try simp only [Act.put, List.setIfInBounds_toArray, List.set_cons_zero, List.set_cons_succ]
      refine wpAnyH_take (i := 19) (oi := ⟨some 75, .load 23 (.tmp 74), _, _, _, _⟩) (v := ?vv47) rfl (by kernel_rfl) (by kernel_rfl) (by kernel_rfl) (fun _ _ _ h => h) (Or.inl ⟨by rfl, ?hy47⟩) HH.out ?rr47
      case hy47 => intro W hSw; obtain ⟨s0, s1⟩ := HSC5.out W hSw; obtain ⟨y0, y1, y2, y3⟩ := HRC5.out W hSw; go_simp; try with_reducible rfl
      try simp only [Act.put, List.setIfInBounds_toArray, List.set_cons_zero, List.set_cons_succ]
      refine wpAnyH_take (i := 21) (oi := ⟨some 77, .move (.tmp 13), _, _, _, _⟩) (v := ?vv48) rfl (by kernel_rfl) (by kernel_rfl) (by kernel_rfl) (fun _ _ _ h => h) (Or.inl ⟨by rfl, ?hy48⟩) HH.out ?rr48
      case hy48 => intro W hSw; go_simp; try with_reducible rfl
      try simp only [Act.put, List.setIfInBounds_toArray, List.set_cons_zero, List.set_cons_succ]
      refine wpAnyH_take (i := 22) (oi := ⟨some 78, .fieldAddr 25 (.tmp 7) 3, _, _, _, _⟩) (v := ?vv49) rfl (by kernel_rfl) (by kernel_rfl) (by kernel_rfl) (fun _ _ _ h => h) (Or.inl ⟨by rfl, ?hy49⟩) HH.out ?rr49
      case hy49 => intro W hSw; go_simp; try with_reducible rfl
      try simp only [Act.put, List.setIfInBounds_toArray, List.set_cons_zero, List.set_cons_succ]
      refine wpAnyH_take (i := 23) (oi := ⟨some 79, .load 23 (.tmp 78), _, _, _, _⟩) (v := ?vv50) rfl (by kernel_rfl) (by kernel_rfl) (by kernel_rfl) (fun _ _ _ h => h) (Or.inl ⟨by rfl, ?hy50⟩) HH.out ?rr50
      case hy50 => intro W hSw; obtain ⟨s0, s1⟩ := HSC5.out W hSw; obtain ⟨y0, y1, y2, y3⟩ := HRC5.out W hSw; go_simp; try with_reducible rfl
      try simp only [Act.put, List.setIfInBounds_toArray, List.set_cons_zero, List.set_cons_succ]
      refine wpAnyH_ready (rs := [20]) (by kernel_rfl) (by simp) ?_
      refine AllReadyH.cons (o := ⟨some 76, .call { callee := .value (.func 23), args := #[.tmp 73, .tmp 75], argTypes := #[34, 23] }, _, _, _, _⟩) rfl (fun K hK => ?_) AllReadyH.nil
      go_simp
      refine (HMI.out _ HH.out).mono ?_
      rintro e2 wB ⟨a20, c20, rfl, hr, _, hkB⟩
      have HQ20 := Lib.hid (HH.out.trans hkB (fun _ _ hf => hf))
      have HS20 := Lib.hid (fun (W : World) (hW : Pure' wB W) => hr.sees.pure hW (Nat.le_refl _))
      clear hr hkB
      go_wp2_with fail
      refine hK.out _ _ (HQ20.out) (fun hHeld => ?_)
      have HH := Lib.hid hHeld
      clear hHeld hK K
      try simp only [Act.put, List.setIfInBounds_toArray, List.set_cons_zero, List.set_cons_succ]
      refine wpAnyH_ready (rs := [24]) (by kernel_rfl) (by simp) ?_
      refine AllReadyH.cons (o := ⟨some 80, .call { callee := .value (.func 24), args := #[.tmp 77, .tmp 79], argTypes := #[23, 23] }, _, _, _, _⟩) rfl (fun K hK => ?_) AllReadyH.nil
      go_simp
      refine (HRM.out _ HH.out).mono ?_
      rintro e2 wB ⟨a24, c24, rfl, hr, _, hkB⟩
      have HQ24 := Lib.hid (HH.out.trans hkB (fun _ _ hf => hf))
      have HM24 := Lib.hid (lst_self a20 a24 X.length X.length c20 c24 _ _ X wB (HS20.out wB hkB) hr.sees HXL.out HXL.out)
      clear hr hkB
      go_wp2_with fail
      refine hK.out _ _ (HQ24.out) (fun hHeld => ?_)
      have HH := Lib.hid hHeld
      clear hHeld hK K
      try simp only [Act.put, List.setIfInBounds_toArray, List.set_cons_zero, List.set_cons_succ]
      refine wpAnyH_ready (rs := [25]) (by kernel_rfl) (by simp) ?_
      refine AllReadyH.cons (o := ⟨some 81, .call { callee := .value (.func 22), args := #[.tmp 76, .tmp 80], argTypes := #[23, 23] }, _, _, _, _⟩) rfl (fun K hK => ?_) AllReadyH.nil
      go_simp
      refine (HM24.out).mono ?_
      rintro e2 wB ⟨rfl, hkB⟩
      have HQ25 := Lib.hid (HH.out.trans hkB (fun _ _ hf => hf))
      clear hkB
      go_wp2_with fail
      refine hK.out _ _ (HQ25.out) (fun hHeld => ?_)
      have HH := Lib.hid hHeld
      clear hHeld hK K
      try simp only [Act.put, List.setIfInBounds_toArray, List.set_cons_zero, List.set_cons_succ]
      refine wpAnyH_take (i := 26) (oi := ⟨some 82, .pick (.tmp 72) (.tmp 81) (.const (.bool false)), _, _, _, _⟩) (v := ?vv51) rfl (by kernel_rfl) (by kernel_rfl) (by kernel_rfl) (fun _ _ _ h => h) (Or.inl ⟨by rfl, ?hy51⟩) HH.out ?rr51
      case hy51 => intro W hSw; go_simp; try with_reducible rfl
      try simp only [Act.put, List.setIfInBounds_toArray, List.set_cons_zero, List.set_cons_succ]
      refine wpAnyH_take (i := 27) (oi := ⟨some 83, .move (.tmp 82), _, _, _, _⟩) (v := ?vv52) rfl (by kernel_rfl) (by kernel_rfl) (by kernel_rfl) (fun _ _ _ h => h) (Or.inl ⟨by rfl, ?hy52⟩) HH.out ?rr52
      case hy52 => intro W hSw; go_simp; try with_reducible rfl
      try simp only [Act.put, List.setIfInBounds_toArray, List.set_cons_zero, List.set_cons_succ]
      refine wpAnyH_take (i := 28) (oi := ⟨some 84, .load 34 (.tmp 11), _, _, _, _⟩) (v := ?vv53) rfl (by kernel_rfl) (by kernel_rfl) (by kernel_rfl) (fun _ _ _ h => h) (Or.inl ⟨by rfl, ?hy53⟩) HH.out ?rr53
      case hy53 => intro W hSw; obtain ⟨s0, s1⟩ := HSC5.out W hSw; obtain ⟨y0, y1, y2, y3⟩ := HRC5.out W hSw; go_simp; try with_reducible rfl
      try simp only [Act.put, List.setIfInBounds_toArray, List.set_cons_zero, List.set_cons_succ]
      refine wpAnyH_take (i := 29) (oi := ⟨some 85, .fieldAddr 25 (.tmp 7) 3, _, _, _, _⟩) (v := ?vv54) rfl (by kernel_rfl) (by kernel_rfl) (by kernel_rfl) (fun _ _ _ h => h) (Or.inl ⟨by rfl, ?hy54⟩) HH.out ?rr54
      case hy54 => intro W hSw; go_simp; try with_reducible rfl
      try simp only [Act.put, List.setIfInBounds_toArray, List.set_cons_zero, List.set_cons_succ]
      refine wpAnyH_take (i := 30) (oi := ⟨some 86, .load 23 (.tmp 85), _, _, _, _⟩) (v := ?vv55) rfl (by kernel_rfl) (by kernel_rfl) (by kernel_rfl) (fun _ _ _ h => h) (Or.inl ⟨by rfl, ?hy55⟩) HH.out ?rr55
      case hy55 => intro W hSw; obtain ⟨s0, s1⟩ := HSC5.out W hSw; obtain ⟨y0, y1, y2, y3⟩ := HRC5.out W hSw; go_simp; try with_reducible rfl
      try simp only [Act.put, List.setIfInBounds_toArray, List.set_cons_zero, List.set_cons_succ]
      refine wpAnyH_take (i := 32) (oi := ⟨some 88, .fieldAddr 25 (.tmp 7) 3, _, _, _, _⟩) (v := ?vv56) rfl (by kernel_rfl) (by kernel_rfl) (by kernel_rfl) (fun _ _ _ h => h) (Or.inl ⟨by rfl, ?hy56⟩) HH.out ?rr56
      case hy56 => intro W hSw; go_simp; try with_reducible rfl
      try simp only [Act.put, List.setIfInBounds_toArray, List.set_cons_zero, List.set_cons_succ]
      refine wpAnyH_take (i := 33) (oi := ⟨some 89, .load 23 (.tmp 88), _, _, _, _⟩) (v := ?vv57) rfl (by kernel_rfl) (by kernel_rfl) (by kernel_rfl) (fun _ _ _ h => h) (Or.inl ⟨by rfl, ?hy57⟩) HH.out ?rr57
      case hy57 => intro W hSw; obtain ⟨s0, s1⟩ := HSC5.out W hSw; obtain ⟨y0, y1, y2, y3⟩ := HRC5.out W hSw; go_simp; try with_reducible rfl
      try simp only [Act.put, List.setIfInBounds_toArray, List.set_cons_zero, List.set_cons_succ]
      refine wpAnyH_take (i := 34) (oi := ⟨some 90, .move (.tmp 13), _, _, _, _⟩) (v := ?vv58) rfl (by kernel_rfl) (by kernel_rfl) (by kernel_rfl) (fun _ _ _ h => h) (Or.inl ⟨by rfl, ?hy58⟩) HH.out ?rr58
      case hy58 => intro W hSw; go_simp; try with_reducible rfl
      try simp only [Act.put, List.setIfInBounds_toArray, List.set_cons_zero, List.set_cons_succ]
      refine wpAnyH_ready (rs := [31]) (by kernel_rfl) (by simp) ?_
      refine AllReadyH.cons (o := ⟨some 87, .call { callee := .value (.func 25), args := #[.tmp 84, .tmp 86], argTypes := #[34, 23] }, _, _, _, _⟩) rfl (fun K hK => ?_) AllReadyH.nil
      go_simp
      refine (HMA.out _ HH.out).mono ?_
      rintro e2 wB ⟨a31, c31, rfl, hr, _, hkB⟩
      have HQ31 := Lib.hid (HH.out.trans hkB (fun _ _ hf => hf))
      have HS31 := Lib.hid (fun (W : World) (hW : Pure' wB W) => hr.sees.pure hW (Nat.le_refl _))
      clear hr hkB
      go_wp2_with fail
      refine hK.out _ _ (HQ31.out) (fun hHeld => ?_)
      have HH := Lib.hid hHeld
      clear hHeld hK K
      try simp only [Act.put, List.setIfInBounds_toArray, List.set_cons_zero, List.set_cons_succ]
      refine wpAnyH_ready (rs := [35]) (by kernel_rfl) (by simp) ?_
      refine AllReadyH.cons (o := ⟨some 91, .call { callee := .value (.func 24), args := #[.tmp 89, .tmp 90], argTypes := #[23, 23] }, _, _, _, _⟩) rfl (fun K hK => ?_) AllReadyH.nil
      go_simp
      refine (HRN.out _ HH.out).mono ?_
      rintro e2 wB ⟨a35, c35, rfl, hr, _, hkB⟩
      have HQ35 := Lib.hid (HH.out.trans hkB (fun _ _ hf => hf))
      have HM35 := Lib.hid (lst_self a31 a35 Y.length Y.length c31 c35 _ _ Y wB (HS31.out wB hkB) hr.sees HYL.out HYL.out)
      clear hr hkB
      go_wp2_with fail
      refine hK.out _ _ (HQ35.out) (fun hHeld => ?_)
      have HH := Lib.hid hHeld
      clear hHeld hK K
      try simp only [Act.put, List.setIfInBounds_toArray, List.set_cons_zero, List.set_cons_succ]
      refine wpAnyH_ready (rs := [36]) (by kernel_rfl) (by simp) ?_
      refine AllReadyH.cons (o := ⟨some 92, .call { callee := .value (.func 22), args := #[.tmp 87, .tmp 91], argTypes := #[23, 23] }, _, _, _, _⟩) rfl (fun K hK => ?_) AllReadyH.nil
      go_simp
      refine (HM35.out).mono ?_
      rintro e2 wB ⟨rfl, hkB⟩
      have HQ36 := Lib.hid (HH.out.trans hkB (fun _ _ hf => hf))
      clear hkB
      go_wp2_with fail
      refine hK.out _ _ (HQ36.out) (fun hHeld => ?_)
      have HH := Lib.hid hHeld
      clear hHeld hK K
      try simp only [Act.put, List.setIfInBounds_toArray, List.set_cons_zero, List.set_cons_succ]
      refine wpAnyH_take (i := 37) (oi := ⟨some 93, .pick (.tmp 83) (.tmp 92) (.const (.bool false)), _, _, _, _⟩) (v := ?vv59) rfl (by kernel_rfl) (by kernel_rfl) (by kernel_rfl) (fun _ _ _ h => h) (Or.inl ⟨by rfl, ?hy59⟩) HH.out ?rr59
      case hy59 => intro W hSw; go_simp; try with_reducible rfl
      try simp only [Act.put, List.setIfInBounds_toArray, List.set_cons_zero, List.set_cons_succ]
      refine wpAnyH_take (i := 38) (oi := ⟨some 94, .move (.tmp 93), _, _, _, _⟩) (v := ?vv60) rfl (by kernel_rfl) (by kernel_rfl) (by kernel_rfl) (fun _ _ _ h => h) (Or.inl ⟨by rfl, ?hy60⟩) HH.out ?rr60
      case hy60 => intro W hSw; go_simp; try with_reducible rfl
      try simp only [Act.put, List.setIfInBounds_toArray, List.set_cons_zero, List.set_cons_succ]
      refine wpAnyH_ready (rs := [39]) (by kernel_rfl) (by simp) ?_
      refine AllReadyH.cons (o := ⟨some 95, .call { callee := .value (.func 8), args := #[], argTypes := #[] }, _, _, _, _⟩) rfl (fun K hK => ?_) AllReadyH.nil
      go_simp
      refine (HAW.out _).mono ?_
      rintro e2 wB ⟨rfl, hkB⟩
      have HQ39 := Lib.hid (HH.out.trans hkB (fun _ _ hf => hf))
      clear hkB
      go_wp2_with fail
      refine hK.out _ _ (HQ39.out) (fun hHeld => ?_)
      have HH := Lib.hid hHeld
      clear hHeld hK K
      try simp only [Act.put, List.setIfInBounds_toArray, List.set_cons_zero, List.set_cons_succ]
      refine wpAnyH_take (i := 40) (oi := ⟨some 96, .pick (.tmp 94) (.tmp 95) (.const (.bool false)), _, _, _, _⟩) (v := ?vv61) rfl (by kernel_rfl) (by kernel_rfl) (by kernel_rfl) (fun _ _ _ h => h) (Or.inl ⟨by rfl, ?hy61⟩) HH.out ?rr61
      case hy61 => intro W hSw; go_simp; try with_reducible rfl
      try simp only [Act.put, List.setIfInBounds_toArray, List.set_cons_zero, List.set_cons_succ]
      refine wpAnyH_take (i := 41) (oi := ⟨some 8, .assign (.tmp 96), _, _, _, _⟩) (v := ?vv62) rfl (by kernel_rfl) (by kernel_rfl) (by kernel_rfl) (fun _ _ _ h => h) (Or.inl ⟨by rfl, ?hy62⟩) HH.out ?rr62
      case hy62 => intro W hSw; go_simp; try with_reducible rfl
      try simp only [Act.put, List.setIfInBounds_toArray, List.set_cons_zero, List.set_cons_succ]
      refine wpAnyH_done (by kernel_rfl) ?_ _
      go_wp2_with fail
      go_ret
      exact ⟨rfl, HK2.out.trans (HK3.out.trans (HK5.out.trans HQ39.out (fun _ _ hf => hf)) (fun _ _ hf => hf)) (fun _ _ hf => hf)⟩
end Go.Proofs.YtkbdfnmeomkpjaaGreat
