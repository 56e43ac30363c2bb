/- What the scanner finds holds, walked; no condition. -/
import Derived.Test.YtkbdfnmeomkpjaaGreatClmK
namespace Go.Proofs.YtkbdfnmeomkpjaaGreat
open Go.RowKit
set_option linter.unusedVariables false
set_option linter.unusedSimpArgs false
set_option maxRecDepth 100000

set_option maxHeartbeats 8000000 in
theorem finds_row (w : World) (A : Option Addr) (m c : Nat) (l0 : List ByteArray) (s0 : ByteArray) (skip : Bool) (k0 n0 q0 : Int) (A4 : Option Addr) (m4 c4 : Nat) (zs : List Int) (h0 : m ≤ c ∧ m ≤ maxLen ∧ Sees w w.heap.size 1 A m (l0.map Value.string) ∧ ∀ s ∈ l0, s.size ≤ maxLen) (h1 : s0.size ≤ maxLen)
    (hkk : -9223372036854775808 ≤ k0 ∧ k0 ≤ 9223372036854775807) (hnn : -9223372036854775808 ≤ n0 ∧ n0 ≤ 9223372036854775807) (hqq : -9223372036854775808 ≤ q0 ∧ q0 ≤ 9223372036854775807)
    (h3 : m4 ≤ maxLen ∧ Sees w w.heap.size 1 A4 m4 (zs.map (Value.int .i64)) ∧ ∀ z ∈ zs, -9223372036854775808 ≤ z ∧ z ≤ 9223372036854775807) :
    Calls Tryz.prog 3 #[.slice A m c, .string s0, .bool skip, .agg #[.int .i64 k0, .int .i64 n0, .int .i64 q0, .slice A4 m4 c4]] w fun e w' => e = .returned (.bool true) ∧ Pure' w w' := by
  obtain ⟨sl, hsl⟩ : ∃ sl, s0.data.toList = sl := ⟨_, rfl⟩
  have hs0 : s0 = ⟨sl.toArray⟩ := by rw [← hsl]
  subst hs0
  clear hsl
  have hbs : (⟨sl.toArray⟩ : ByteArray).size = sl.length := Lib.size_eq _
  obtain ⟨sn, hsn⟩ : ∃ sn, sl.length = sn := ⟨_, rfl⟩
  have HSN := Lib.hid hsn
  rw [hsn] at hbs
  rw [hbs] at h1
  clear hsn
  obtain ⟨_, hm, hse, hsz⟩ := h0
  obtain ⟨hm4, hz4, _⟩ := h3
  have hll : l0.length = m := by have := hse.1; simpa using this
  have HK0 := Lib.hid (show Pure' w (w.alloc (.cells #[.int .i64 k0, .int .i64 n0, .int .i64 q0, .slice A4 m4 c4] 25)) from (Keeps.refl _ w).alloc _)
  have HBR := Lib.hid (show Blk (w.alloc (.cells #[.int .i64 k0, .int .i64 n0, .int .i64 q0, .slice A4 m4 c4] 25)) w.heap.size 25 #[.int .i64 k0, .int .i64 n0, .int .i64 q0, .slice A4 m4 c4] from Blk.newAt rfl)
  have HFEW := Lib.hid (fun (W : World) (hW : Pure' w W) => few_ A m c w.heap.size l0 W (hse.pure hW (Nat.le_refl _)) 8 12 (by decide) (by decide) hm hsz)
  have HAW := Lib.hid awake36_
  have HSE := Lib.hid hse
  have HZ4 := Lib.hid hz4
  have HLL := Lib.hid hll
  clear hse hsz hll hz4
  go_enter Tryz.func3, Tryz.ntmps3
  go_wp2_with fail
  generalize (w.alloc (.cells #[.int .i64 k0, .int .i64 n0, .int .i64 q0, .slice A4 m4 c4] 25)) = W0 at *
  obtain ⟨br, hbr⟩ : ∃ b, w.heap.size = b := ⟨_, rfl⟩
  have HBRE := Lib.hid hbr
  rw [hbr] at HBR ⊢
  clear hbr
  refine (HFEW.out W0 HK0.out).mono ?_
  rintro e w1 ⟨⟨b0, rfl, hb0⟩, rfl⟩
  have r3 := HBR.out.cell 3
  cases b0 with
  | false =>
    clear hb0
    go_wp2_with fail
    refine (HAW.out _).mono ?_
    rintro e w2 ⟨rfl, hk⟩
    have HK := Lib.hid (HK0.out.trans hk (fun _ _ hf => hf))
    clear hk
    go_wp2_with fail
    go_ret
    exact ⟨rfl, HK.out⟩
  | true =>
    obtain ⟨hf1, hf2⟩ := hb0.1 rfl
    have hm12 : m ≤ 8 := by rw [← HLL.out]; omega
    have HF2 := Lib.hid hf2
    clear hb0 hf1 hf2
    by_cases hs60 : 60 < sn
    · have hs60i : (60 : Int) < (sn : Int) := by omega
      go_wp2_with fail
      refine (HAW.out _).mono ?_
      rintro e w2 ⟨rfl, hk⟩
      have HK := Lib.hid (HK0.out.trans hk (fun _ _ hf => hf))
      clear hk
      go_wp2_with fail
      go_ret
      exact ⟨rfl, HK.out⟩
    have hs60i : ¬ (60 : Int) < (sn : Int) := by omega
    by_cases hm30 : 30 < m4
    · have hm30i : (30 : Int) < (m4 : Int) := by omega
      go_wp2_with fail
      refine (HAW.out _).mono ?_
      rintro e w2 ⟨rfl, hk⟩
      have HK := Lib.hid (HK0.out.trans hk (fun _ _ hf => hf))
      clear hk
      go_wp2_with fail
      go_ret
      exact ⟨rfl, HK.out⟩
    have hm30i : ¬ (30 : Int) < (m4 : Int) := by omega
    have HNR := Lib.hid (rnewE_ A m c w.heap.size l0 W0 (HSE.out.pure HK0.out (Nat.le_refl _)) HK0.out.size (by omega) (fun s hs => by have := HF2.out s hs; omega))
    go_wp2_with fail
    refine HNR.out.mono ?_
    rintro e w2 ⟨A2, c2, l2, er, rfl, hc2, hs2, hk⟩
    have HK2 := Lib.hid (HK0.out.trans hk (fun _ _ hf => hf))
    have HK02 := Lib.hid hk
    rcases hc2 with ⟨hok, rfl, hp2, ho2⟩ | ⟨hno, her, rfl⟩
    case inr =>
      have heri : (er != 0) = true := by simpa using her
      clear her hs2 hk hno
      go_wp2_with fail
      refine (HAW.out _).mono ?_
      rintro e w3 ⟨rfl, hk⟩
      have HK := Lib.hid (HK2.out.trans hk (fun _ _ hf => hf))
      clear hk
      go_wp2_with fail
      go_ret
      exact ⟨rfl, HK.out⟩
    have HOK := Lib.hid hok
    have HPO := Lib.hid (And.intro hp2 ho2)
    have HS2 := Lib.hid hs2
    have hl2 : l2.length ≤ 8 := by
      have h1 := hp2.length_eq
      rw [HLL.out] at h1
      omega
    have HL2 := Lib.hid hl2
    have HSI := Lib.hid (fun (W : World) (hW : Pure' w W) (i : Nat) => sight_ A m c w.heap.size l0 (sl.take i) 0 W hok (HSE.out.pure hW (Nat.le_refl _)) hW.size (by omega) (fun s hs => by have := HF2.out s hs; omega) (by rw [List.length_take, HSN.out]; omega) (by decide))
    have HBR2 := Lib.hid (HBR.out.keep hk (fun hf => hf))
    generalize l2.length = n2 at *
    clear hok hp2 ho2 hs2 hk HNR r3 hl2
    go_wp2_with fail
    go_loopg [11, 12, 13] sn (fun gh v11 v12 v13 wr => ∃ i : Nat, i + gh = sn + 1 ∧ 1 ≤ i ∧ v11 = .int .i64 (i : Int) ∧ RowKit.Hid (Pure' w2 wr))
    case atStart => exact ⟨1, by omega, by omega, rfl, Lib.hid (Keeps.refl _ _)⟩
    case round =>
      obtain ⟨i, hig, hi1, rfl, HP⟩ := hrel
      cases gk with
      | zero =>
        obtain rfl : i = sn + 1 := by omega
        have hii : ¬ ((sn + 1 : Nat) : Int) ≤ (sn : Int) := by omega
        have HKR := Lib.hid (HK2.out.trans HP.out (fun _ _ hf => hf))
        have HNW := Lib.hid (new_ A m c w.heap.size l0 wr (HSE.out.pure HKR.out (Nat.le_refl _)) HKR.out.size (by omega) (fun s hs => by have := HF2.out s hs; omega))
        go_wp2_with fail
        refine HNW.out.mono ?_
        rintro e w5 ⟨x, er, lp, rfl, hc, hset, hk⟩
        rcases hc with ⟨_, rfl, hp, ho⟩ | ⟨hno, _⟩
        case inr => exact absurd HOK.out hno
        have hord := lst_ord (l := l0) (lp := lp) (.inl ⟨HOK.out, hp, ho⟩)
        have hfew := lst_few (l := l0) (lp := lp) (N := 12) (M := 20) (.inl hp) (by rw [HLL.out]; omega) (fun s hs => by have := HF2.out s hs; omega)
        have HNG := Lib.hid (fun (W : World) (hW : Pure' w5 W) => newGuard_ x lp W (hset.pure hW) hfew.1 hfew.2 hord.2)
        have HK5 := Lib.hid (HKR.out.trans hk (fun _ _ hf => hf))
        have HBR5 := Lib.hid (HBR2.out.keep (HP.out.trans hk (fun _ _ hf => hf)) (fun hf => hf))
        have HPN := Lib.hid (Pn.pnew_ok 20 w5 (by decide) (by decide))
        clear hp ho hset hk hord hfew HNW
        go_wp2_with fail
        refine HPN.out.mono ?_
        rintro e w6 ⟨rfl, hw6⟩
        have hpm0 := Pn.PMine.made w5 20 (by decide) (by decide)
        rw [show (((20 : Nat)) : Int) = 20 from rfl, ← hw6] at hpm0
        obtain ⟨p, hp⟩ : ∃ p, w5.heap.size + 1 = p := ⟨_, rfl⟩
        rw [hp] at hpm0 ⊢
        obtain ⟨gr, hgr⟩ : ∃ gr, w5.heap.size = gr := ⟨_, rfl⟩
        rw [hgr] at hpm0
        have HPM0 := Lib.hid hpm0
        have HOF := Lib.hid (Pn.offer_yes p _ _ ⟨sl.toArray⟩ w6 hpm0.blk (by rw [Pn.str_empty]; rfl))
        clear hpm0 hw6 hp hgr HPN
        go_wp2_with fail
        refine HOF.out.mono ?_
        rintro e w7 ⟨rfl, hw7⟩
        have hpm1 := HPM0.out.setP (i := 1) (u := .string ⟨sl.toArray⟩) (rest' := sl) (closed' := false) rfl
        rw [← hw7] at hpm1
        have HTO := Lib.hid (Pn.to_pane w5 w7 p gr (sn : Int) [] sl false 20 hpm1 (by simp; rw [HSN.out]; omega))
        clear hpm1 hw7 HOF
        go_wp2_with fail
        refine HTO.out.mono ?_
        rintro e w8 ⟨rfl, hpm2, _⟩
        generalize decide ((sn : Int) - ((([] : List UInt8).length : Nat) : Int) ≤ ((sl.length : Nat) : Int)) = dd
        have HK58 := Lib.hid hpm2.p
        have HRC := Lib.hid (fun (W : World) (hW : Pure' w8 W) => by
          have hb := HBR5.out.keep (hpm2.p.trans hW (fun _ _ hf => hf)) (fun hf => hf)
          exact And.intro (hb.cell 0) (And.intro (hb.cell 1) (And.intro (hb.cell 2) (hb.cell 3))))
        have HNG := Lib.hid (fun (W : World) (hW : Pure' w8 W) => HNG.out W (HK58.out.trans hW (fun _ _ hf => hf)))
        clear hpm2 HTO HPM0
        go_upto_region 17 with fail
        refine wp_region_held_drew (S := (fun X => Pure' w8 X)) (by kernel_rfl) ((Keeps.refl _ w8).drew) (fun hHeld => ?_)
        have HH := Lib.hid hHeld
        clear hHeld
        refine wpAnyH_take (i := 0) (oi := ⟨some 92, .move (.tmp 16), _, _, _, _⟩) (v := ?vv11) rfl (by kernel_rfl) (by kernel_rfl) (by kernel_rfl) (fun _ _ _ h => h) (Or.inl ⟨by rfl, ?hy11⟩) HH.out ?rr11
        case hy11 => intro W hSw; go_simp; try with_reducible rfl
        try simp only [Act.put, List.setIfInBounds_toArray, List.set_cons_zero, List.set_cons_succ]
        refine wpAnyH_take (i := 2) (oi := ⟨some 94, .load 25 (.tmp 7), _, _, _, _⟩) (v := ?vv12) rfl (by kernel_rfl) (by kernel_rfl) (by kernel_rfl) (fun _ _ _ h => h) (Or.inl ⟨by rfl, ?hy12⟩) HH.out ?rr12
        case hy12 => intro W hSw; obtain ⟨y0, y1, y2, y3⟩ := HRC.out W hSw; go_simp; try with_reducible rfl
        try simp only [Act.put, List.setIfInBounds_toArray, List.set_cons_zero, List.set_cons_succ]
        refine wpAnyH_ready (rs := [1]) (by kernel_rfl) (by simp) ?_
        refine AllReadyH.cons (o := ⟨some 93, .call { callee := .value (.func 17), args := #[.const (.pointer none), .tmp 92], argTypes := #[31, 32] }, _, _, _, _⟩) rfl (fun K hK => ?_) AllReadyH.nil
        go_simp
        refine (cof_ _ _ _).mono ?_
        rintro e2 wB ⟨rfl, hkB⟩
        have HQ1 := Lib.hid (HH.out.trans hkB (fun _ _ hf => hf))
        clear hkB
        go_wp2_with fail
        refine hK.out _ _ (HQ1.out) (fun hHeld => ?_)
        have HH := Lib.hid hHeld
        clear hHeld hK K
        try simp only [Act.put, List.setIfInBounds_toArray, List.set_cons_zero, List.set_cons_succ]
        refine wpAnyH_ready (rs := [3]) (by kernel_rfl) (by simp) ?_
        refine AllReadyH.cons (o := ⟨some 95, .call { callee := .value (.func 11), args := #[.tmp 93, .tmp 94], argTypes := #[34, 25] }, _, _, _, _⟩) rfl (fun K hK => ?_) AllReadyH.nil
        go_simp
        refine (hnil_ _ _ _ _ _ _ _ _ _ (.inl rfl)).mono ?_
        rintro e2 wB ⟨rfl, hkB⟩
        have HQ3 := Lib.hid (HH.out.trans hkB (fun _ _ hf => hf))
        clear hkB
        go_wp2_with fail
        refine hK.out _ _ (HQ3.out) (fun hHeld => ?_)
        have HH := Lib.hid hHeld
        clear hHeld hK K
        try simp only [Act.put, List.setIfInBounds_toArray, List.set_cons_zero, List.set_cons_succ]
        refine wpAnyH_take (i := 4) (oi := ⟨some 96, .unOp .not 4 (.tmp 95), _, _, _, _⟩) (v := ?vv13) rfl (by kernel_rfl) (by kernel_rfl) (by kernel_rfl) (fun _ _ _ h => h) (Or.inl ⟨by rfl, ?hy13⟩) HH.out ?rr13
        case hy13 => intro W hSw; go_simp; try with_reducible rfl
        try simp only [Act.put, List.setIfInBounds_toArray, List.set_cons_zero, List.set_cons_succ]
        refine wpAnyH_take (i := 5) (oi := ⟨some 97, .move (.tmp 96), _, _, _, _⟩) (v := ?vv14) rfl (by kernel_rfl) (by kernel_rfl) (by kernel_rfl) (fun _ _ _ h => h) (Or.inl ⟨by rfl, ?hy14⟩) HH.out ?rr14
        case hy14 => intro W hSw; go_simp; try with_reducible rfl
        try simp only [Act.put, List.setIfInBounds_toArray, List.set_cons_zero, List.set_cons_succ]
        refine wpAnyH_take (i := 6) (oi := ⟨some 98, .move (.tmp 14), _, _, _, _⟩) (v := ?vv15) rfl (by kernel_rfl) (by kernel_rfl) (by kernel_rfl) (fun _ _ _ h => h) (Or.inl ⟨by rfl, ?hy15⟩) HH.out ?rr15
        case hy15 => intro W hSw; go_simp; try with_reducible rfl
        try simp only [Act.put, List.setIfInBounds_toArray, List.set_cons_zero, List.set_cons_succ]
        refine wpAnyH_take (i := 9) (oi := ⟨some 101, .load 25 (.tmp 7), _, _, _, _⟩) (v := ?vv16) rfl (by kernel_rfl) (by kernel_rfl) (by kernel_rfl) (fun _ _ _ h => h) (Or.inl ⟨by rfl, ?hy16⟩) HH.out ?rr16
        case hy16 => intro W hSw; obtain ⟨y0, y1, y2, y3⟩ := HRC.out W hSw; go_simp; try with_reducible rfl
        try simp only [Act.put, List.setIfInBounds_toArray, List.set_cons_zero, List.set_cons_succ]
        refine wpAnyH_ready (rs := [7]) (by kernel_rfl) (by simp) ?_
        refine AllReadyH.cons (o := ⟨some 99, .call { callee := .value (.func 18), args := #[.tmp 98], argTypes := #[39] }, _, _, _, _⟩) rfl (fun K hK => ?_) AllReadyH.nil
        go_simp
        refine (HNG.out _ HH.out).mono ?_
        rintro e2 wB ⟨g7, rfl, _, _, hkB⟩
        have HQ7 := Lib.hid (HH.out.trans hkB (fun _ _ hf => hf))
        clear hkB
        go_wp2_with fail
        refine hK.out _ _ (HQ7.out) (fun hHeld => ?_)
        have HH := Lib.hid hHeld
        clear hHeld hK K
        try simp only [Act.put, List.setIfInBounds_toArray, List.set_cons_zero, List.set_cons_succ]
        refine wpAnyH_ready (rs := [8]) (by kernel_rfl) (by simp) ?_
        refine AllReadyH.cons (o := ⟨some 100, .call { callee := .value (.func 17), args := #[.tmp 99, .const (.pointer none)], argTypes := #[31, 32] }, _, _, _, _⟩) rfl (fun K hK => ?_) AllReadyH.nil
        go_simp
        refine (cof_ _ _ _).mono ?_
        rintro e2 wB ⟨rfl, hkB⟩
        have HQ8 := Lib.hid (HH.out.trans hkB (fun _ _ hf => hf))
        clear hkB
        go_wp2_with fail
        refine hK.out _ _ (HQ8.out) (fun hHeld => ?_)
        have HH := Lib.hid hHeld
        clear hHeld hK K
        try simp only [Act.put, List.setIfInBounds_toArray, List.set_cons_zero, List.set_cons_succ]
        refine wpAnyH_ready (rs := [10]) (by kernel_rfl) (by simp) ?_
        refine AllReadyH.cons (o := ⟨some 102, .call { callee := .value (.func 11), args := #[.tmp 100, .tmp 101], argTypes := #[34, 25] }, _, _, _, _⟩) rfl (fun K hK => ?_) AllReadyH.nil
        go_simp
        refine (hnil_ _ _ _ _ _ _ _ _ _ (.inr rfl)).mono ?_
        rintro e2 wB ⟨rfl, hkB⟩
        have HQ10 := Lib.hid (HH.out.trans hkB (fun _ _ hf => hf))
        clear hkB
        go_wp2_with fail
        refine hK.out _ _ (HQ10.out) (fun hHeld => ?_)
        have HH := Lib.hid hHeld
        clear hHeld hK K
        try simp only [Act.put, List.setIfInBounds_toArray, List.set_cons_zero, List.set_cons_succ]
        refine wpAnyH_take (i := 11) (oi := ⟨some 103, .unOp .not 4 (.tmp 102), _, _, _, _⟩) (v := ?vv17) rfl (by kernel_rfl) (by kernel_rfl) (by kernel_rfl) (fun _ _ _ h => h) (Or.inl ⟨by rfl, ?hy17⟩) HH.out ?rr17
        case hy17 => intro W hSw; go_simp; try with_reducible rfl
        try simp only [Act.put, List.setIfInBounds_toArray, List.set_cons_zero, List.set_cons_succ]
        refine wpAnyH_take (i := 12) (oi := ⟨some 104, .pick (.tmp 97) (.tmp 103) (.const (.bool false)), _, _, _, _⟩) (v := ?vv18) rfl (by kernel_rfl) (by kernel_rfl) (by kernel_rfl) (fun _ _ _ h => h) (Or.inl ⟨by rfl, ?hy18⟩) HH.out ?rr18
        case hy18 => intro W hSw; go_simp; try with_reducible rfl
        try simp only [Act.put, List.setIfInBounds_toArray, List.set_cons_zero, List.set_cons_succ]
        refine wpAnyH_take (i := 13) (oi := ⟨some 105, .move (.tmp 104), _, _, _, _⟩) (v := ?vv19) rfl (by kernel_rfl) (by kernel_rfl) (by kernel_rfl) (fun _ _ _ h => h) (Or.inl ⟨by rfl, ?hy19⟩) HH.out ?rr19
        case hy19 => intro W hSw; go_simp; try with_reducible rfl
        try simp only [Act.put, List.setIfInBounds_toArray, List.set_cons_zero, List.set_cons_succ]
        refine wpAnyH_ready (rs := [14]) (by kernel_rfl) (by simp) ?_
        refine AllReadyH.cons (o := ⟨some 106, .call { callee := .value (.func 17), args := #[.const (.pointer none), .const (.pointer none)], argTypes := #[31, 32] }, _, _, _, _⟩) rfl (fun K hK => ?_) AllReadyH.nil
        go_simp
        refine (cof_ _ _ _).mono ?_
        rintro e2 wB ⟨rfl, hkB⟩
        have HQ14 := Lib.hid (HH.out.trans hkB (fun _ _ hf => hf))
        clear hkB
        go_wp2_with fail
        refine hK.out _ _ (HQ14.out) (fun hHeld => ?_)
        have HH := Lib.hid hHeld
        clear hHeld hK K
        try simp only [Act.put, List.setIfInBounds_toArray, List.set_cons_zero, List.set_cons_succ]
        refine wpAnyH_ready (rs := [15]) (by kernel_rfl) (by simp) ?_
        refine AllReadyH.cons (o := ⟨some 107, .call { callee := .value (.func 19), args := #[.tmp 106], argTypes := #[34] }, _, _, _, _⟩) rfl (fun K hK => ?_) AllReadyH.nil
        go_simp
        refine (inil_ _).mono ?_
        rintro e2 wB ⟨rfl, hkB⟩
        have HQ15 := Lib.hid (HH.out.trans hkB (fun _ _ hf => hf))
        clear hkB
        go_wp2_with fail
        refine hK.out _ _ (HQ15.out) (fun hHeld => ?_)
        have HH := Lib.hid hHeld
        clear hHeld hK K
        try simp only [Act.put, List.setIfInBounds_toArray, List.set_cons_zero, List.set_cons_succ]
        refine wpAnyH_take (i := 16) (oi := ⟨some 108, .call { callee := .builtin .len, args := #[.tmp 107], argTypes := #[23] }, _, _, _, _⟩) (v := ?vv20) rfl (by kernel_rfl) (by kernel_rfl) (by kernel_rfl) (fun _ _ _ h => h) (Or.inl ⟨by rfl, ?hy20⟩) HH.out ?rr20
        case hy20 => intro W hSw; go_simp; try with_reducible rfl
        try simp only [Act.put, List.setIfInBounds_toArray, List.set_cons_zero, List.set_cons_succ]
        refine wpAnyH_take (i := 17) (oi := ⟨some 109, .binOp .eql 3 (.tmp 108) (.const (.int .i64 0)) 3, _, _, _, _⟩) (v := ?vv21) rfl (by kernel_rfl) (by kernel_rfl) (by kernel_rfl) (fun _ _ _ h => h) (Or.inl ⟨by rfl, ?hy21⟩) HH.out ?rr21
        case hy21 => intro W hSw; go_simp; try with_reducible rfl
        try simp only [Act.put, List.setIfInBounds_toArray, List.set_cons_zero, List.set_cons_succ]
        refine wpAnyH_take (i := 18) (oi := ⟨some 110, .pick (.tmp 105) (.tmp 109) (.const (.bool false)), _, _, _, _⟩) (v := ?vv22) rfl (by kernel_rfl) (by kernel_rfl) (by kernel_rfl) (fun _ _ _ h => h) (Or.inl ⟨by rfl, ?hy22⟩) HH.out ?rr22
        case hy22 => intro W hSw; go_simp; try with_reducible rfl
        try simp only [Act.put, List.setIfInBounds_toArray, List.set_cons_zero, List.set_cons_succ]
        refine wpAnyH_take (i := 19) (oi := ⟨some 111, .move (.tmp 110), _, _, _, _⟩) (v := ?vv23) rfl (by kernel_rfl) (by kernel_rfl) (by kernel_rfl) (fun _ _ _ h => h) (Or.inl ⟨by rfl, ?hy23⟩) HH.out ?rr23
        case hy23 => intro W hSw; go_simp; try with_reducible rfl
        try simp only [Act.put, List.setIfInBounds_toArray, List.set_cons_zero, List.set_cons_succ]
        refine wpAnyH_ready (rs := [20]) (by kernel_rfl) (by simp) ?_
        refine AllReadyH.cons (o := ⟨some 112, .call { callee := .value (.func 8), args := #[], argTypes := #[] }, _, _, _, _⟩) rfl (fun K hK => ?_) AllReadyH.nil
        go_simp
        refine (HAW.out _).mono ?_
        rintro e2 wB ⟨rfl, hkB⟩
        have HQ20 := Lib.hid (HH.out.trans hkB (fun _ _ hf => hf))
        clear hkB
        go_wp2_with fail
        refine hK.out _ _ (HQ20.out) (fun hHeld => ?_)
        have HH := Lib.hid hHeld
        clear hHeld hK K
        try simp only [Act.put, List.setIfInBounds_toArray, List.set_cons_zero, List.set_cons_succ]
        refine wpAnyH_take (i := 21) (oi := ⟨some 113, .pick (.tmp 111) (.tmp 112) (.const (.bool false)), _, _, _, _⟩) (v := ?vv24) rfl (by kernel_rfl) (by kernel_rfl) (by kernel_rfl) (fun _ _ _ h => h) (Or.inl ⟨by rfl, ?hy24⟩) HH.out ?rr24
        case hy24 => intro W hSw; go_simp; try with_reducible rfl
        try simp only [Act.put, List.setIfInBounds_toArray, List.set_cons_zero, List.set_cons_succ]
        refine wpAnyH_take (i := 22) (oi := ⟨some 8, .assign (.tmp 113), _, _, _, _⟩) (v := ?vv25) rfl (by kernel_rfl) (by kernel_rfl) (by kernel_rfl) (fun _ _ _ h => h) (Or.inl ⟨by rfl, ?hy25⟩) HH.out ?rr25
        case hy25 => intro W hSw; go_simp; try with_reducible rfl
        try simp only [Act.put, List.setIfInBounds_toArray, List.set_cons_zero, List.set_cons_succ]
        refine wpAnyH_done (by kernel_rfl) ?_ _
        go_wp2_with fail
        go_ret
        exact ⟨rfl, HK5.out.trans (HK58.out.trans HQ20.out (fun _ _ hf => hf)) (fun _ _ hf => hf)⟩
      | succ g3 =>
        have hii : (i : Int) ≤ (sn : Int) := by omega
        have hi0 : (0 : Int) ≤ (i : Int) := by omega
        go_wp2_with fail
        have hsx : (⟨sl.toArray⟩ : ByteArray).extract 0 i = ⟨(sl.take i).toArray⟩ := bytes_eq (by simp)
        rw [hsx]
        clear hsx
        refine (HSI.out wr (HK2.out.trans HP.out (fun _ _ hf => hf)) i).mono ?_
        rintro e w3 ⟨g, p, gr, x, lp, size, rfl, hsg, hsb, hp3, ho3, hk⟩
        have HK3 := Lib.hid (HP.out.trans hk (fun _ _ hf => hf))
        have hbl := lst_lists (l := l0) (lp := lp) (lq := l2) (er := 0) (.inl ⟨HOK.out, rfl, hp3, ho3⟩) (.inl ⟨HOK.out, HPO.out.1, HPO.out.2⟩)
        have HOF0 := Lib.hid (fun (W : World) (hW : Pure' w3 W) => by
          have hs := HS2.out.pure (HK3.out.trans hW (fun _ _ hf => hf)) (Nat.le_refl _)
          rw [strVs_bl, hbl] at hs
          exact rof24_ A2 n2 c2 w2.heap.size lp sl i skip W hs (by have := HK3.out.size; have := hW.size; omega) (by have := HL2.out; omega) (fun y hy => by have := hsb.len y hy; omega) hsb.ne (by have := hsb.m20; omega) (by rw [HSN.out]; omega) hi1 (by rw [HSN.out]; omega))
        have HHD0 := Lib.hid (fun (kind n r : Int) (a4 : Option Addr) (cp4 : Nat) (E : List Nat) (W : World) (hW : Pure' w3 W) (hr : Row W 3 1 (.slice a4 E.length cp4) E.length (idVs E)) (hl : E.length ≤ 1000) (hho : hoB lp (sl.take i) kind n (E.map (fun (i : Nat) => (i : Int))) = true) => by
          have h1 := holds_ g p gr size x lp (sl.take i) kind n r a4 E.length cp4 W.heap.size (E.map (fun (i : Nat) => (i : Int))) W (hsg.pure hW) hsb (by
            have h := hr.sees
            rwa [show idVs E = (E.map (fun (i : Nat) => (i : Int))).map (Value.int .i64) by simp [idVs]] at h) (Nat.le_refl _) hl
          rw [hho] at h1
          exact h1)
        clear hsg hsb hp3 ho3 hbl hk
        unfold sgV
        go_upto_region 10 with fail
        have HK4 := Lib.hid (show Pure' w3 (w3.alloc (.cells #[.pointer (some ⟨g, 0, none⟩), .pointer (some ⟨p, 0, none⟩)] 34)) from (Keeps.refl _ w3).alloc _)
        have HBS := Lib.hid (show Blk (w3.alloc (.cells #[.pointer (some ⟨g, 0, none⟩), .pointer (some ⟨p, 0, none⟩)] 34)) w3.heap.size 34 #[.pointer (some ⟨g, 0, none⟩), .pointer (some ⟨p, 0, none⟩)] from Blk.newAt rfl)
        generalize (w3.alloc (.cells #[.pointer (some ⟨g, 0, none⟩), .pointer (some ⟨p, 0, none⟩)] 34)) = W4 at *
        generalize w3.heap.size = b12 at *
        have HSC := Lib.hid (fun (W : World) (hW : Pure' W4 W) => And.intro ((HBS.out.keep hW (fun hf => hf)).cell 0) ((HBS.out.keep hW (fun hf => hf)).cell 1))
        have HOF := Lib.hid (fun (W : World) (hW : Pure' W4 W) => HOF0.out W (HK4.out.trans hW (fun _ _ hf => hf)))
        have HHD := Lib.hid (fun (kind n r : Int) (a4 : Option Addr) (cp4 : Nat) (E : List Nat) (W : World) (hW : Pure' W4 W) => HHD0.out kind n r a4 cp4 E W (HK4.out.trans hW (fun _ _ hf => hf)))
        clear HOF0 HHD0
        refine wp_region_held_drew (S := (fun X => Pure' W4 X)) (by kernel_rfl) ((Keeps.refl _ W4).drew) (fun hHeld => ?_)
        have HH := Lib.hid hHeld
        clear hHeld
        refine wpAnyH_take (i := 0) (oi := ⟨some 55, .move (.tmp 13), _, _, _, _⟩) (v := ?vv1) rfl (by kernel_rfl) (by kernel_rfl) (by kernel_rfl) (fun _ _ _ h => h) (Or.inl ⟨by rfl, ?hy1⟩) HH.out ?rr1
        case hy1 => intro W hSw; go_simp; try with_reducible rfl
        try simp only [Act.put, List.setIfInBounds_toArray, List.set_cons_zero, List.set_cons_succ]
        refine wpAnyH_take (i := 1) (oi := ⟨some 56, .unOp .not 4 (.tmp 55), _, _, _, _⟩) (v := ?vv2) rfl (by kernel_rfl) (by kernel_rfl) (by kernel_rfl) (fun _ _ _ h => h) (Or.inl ⟨by rfl, ?hy2⟩) HH.out ?rr2
        case hy2 => intro W hSw; go_simp; try with_reducible rfl
        try simp only [Act.put, List.setIfInBounds_toArray, List.set_cons_zero, List.set_cons_succ]
        refine wpAnyH_take (i := 2) (oi := ⟨some 57, .move (.tmp 56), _, _, _, _⟩) (v := ?vv3) rfl (by kernel_rfl) (by kernel_rfl) (by kernel_rfl) (fun _ _ _ h => h) (Or.inl ⟨by rfl, ?hy3⟩) HH.out ?rr3
        case hy3 => intro W hSw; go_simp; try with_reducible rfl
        try simp only [Act.put, List.setIfInBounds_toArray, List.set_cons_zero, List.set_cons_succ]
        refine wpAnyH_take (i := 3) (oi := ⟨some 58, .load 34 (.tmp 12), _, _, _, _⟩) (v := ?vv4) rfl (by kernel_rfl) (by kernel_rfl) (by kernel_rfl) (fun _ _ _ h => h) (Or.inl ⟨by rfl, ?hy4⟩) HH.out ?rr4
        case hy4 => intro W hSw; obtain ⟨y0, y1⟩ := HSC.out W hSw; go_simp; try with_reducible rfl
        try simp only [Act.put, List.setIfInBounds_toArray, List.set_cons_zero, List.set_cons_succ]
        refine wpAnyH_take (i := 4) (oi := ⟨some 59, .move (.tmp 9), _, _, _, _⟩) (v := ?vv5) rfl (by kernel_rfl) (by kernel_rfl) (by kernel_rfl) (fun _ _ _ h => h) (Or.inl ⟨by rfl, ?hy5⟩) HH.out ?rr5
        case hy5 => intro W hSw; go_simp; try with_reducible rfl
        try simp only [Act.put, List.setIfInBounds_toArray, List.set_cons_zero, List.set_cons_succ]
        refine wpAnyH_take (i := 5) (oi := ⟨some 60, .move (.tmp 1), _, _, _, _⟩) (v := ?vv6) rfl (by kernel_rfl) (by kernel_rfl) (by kernel_rfl) (fun _ _ _ h => h) (Or.inl ⟨by rfl, ?hy6⟩) HH.out ?rr6
        case hy6 => intro W hSw; go_simp; try with_reducible rfl
        try simp only [Act.put, List.setIfInBounds_toArray, List.set_cons_zero, List.set_cons_succ]
        refine wpAnyH_take (i := 6) (oi := ⟨some 61, .move (.tmp 11), _, _, _, _⟩) (v := ?vv7) rfl (by kernel_rfl) (by kernel_rfl) (by kernel_rfl) (fun _ _ _ h => h) (Or.inl ⟨by rfl, ?hy7⟩) HH.out ?rr7
        case hy7 => intro W hSw; go_simp; try with_reducible rfl
        try simp only [Act.put, List.setIfInBounds_toArray, List.set_cons_zero, List.set_cons_succ]
        refine wpAnyH_take (i := 7) (oi := ⟨some 62, .move (.tmp 2), _, _, _, _⟩) (v := ?vv8) rfl (by kernel_rfl) (by kernel_rfl) (by kernel_rfl) (fun _ _ _ h => h) (Or.inl ⟨by rfl, ?hy8⟩) HH.out ?rr8
        case hy8 => intro W hSw; go_simp; try with_reducible rfl
        try simp only [Act.put, List.setIfInBounds_toArray, List.set_cons_zero, List.set_cons_succ]
        refine wpAnyH_ready (rs := [8]) (by kernel_rfl) (by simp) ?_
        refine AllReadyH.cons (o := ⟨some 63, .call { callee := .value (.func 12), args := #[.tmp 59, .tmp 60, .tmp 61, .tmp 62], argTypes := #[22, 9, 3, 4] }, _, _, _, _⟩) rfl (fun K hK => ?_) AllReadyH.nil
        go_simp
        refine (HOF.out _ HH.out).mono ?_
        rintro e2 wB ⟨kind, n, r, a4, cp4, E, rfl, hr4, hl4, ho4, hk4⟩
        unfold rcV
        have HQ8 := Lib.hid (HH.out.trans hk4 (fun _ _ hf => hf))
        have HHO := Lib.hid (HHD.out kind n r a4 cp4 E wB HQ8.out hr4 hl4 ho4)
        unfold sgV rcV at HHO
        generalize E.length = en at *
        clear hr4 hl4 ho4 hk4
        go_wp2_with fail
        refine hK.out _ _ (HQ8.out) (fun hHeld => ?_)
        have HH := Lib.hid hHeld
        clear hHeld hK K
        try simp only [Act.put, List.setIfInBounds_toArray, List.set_cons_zero, List.set_cons_succ]
        refine wpAnyH_ready (rs := [9]) (by kernel_rfl) (by simp) ?_
        refine AllReadyH.cons (o := ⟨some 64, .call { callee := .value (.func 11), args := #[.tmp 58, .tmp 63], argTypes := #[34, 25] }, _, _, _, _⟩) rfl (fun K hK => ?_) AllReadyH.nil
        go_simp
        refine (HHO.out).mono ?_
        rintro e2 wB ⟨rfl, hkB⟩
        have HQ9 := Lib.hid (HH.out.trans hkB (fun _ _ hf => hf))
        clear hkB
        go_wp2_with fail
        refine hK.out _ _ (HQ9.out) (fun hHeld => ?_)
        have HH := Lib.hid hHeld
        clear hHeld hK K
        try simp only [Act.put, List.setIfInBounds_toArray, List.set_cons_zero, List.set_cons_succ]
        refine wpAnyH_take (i := 10) (oi := ⟨some 65, .unOp .not 4 (.tmp 64), _, _, _, _⟩) (v := ?vv9) rfl (by kernel_rfl) (by kernel_rfl) (by kernel_rfl) (fun _ _ _ h => h) (Or.inl ⟨by rfl, ?hy9⟩) HH.out ?rr9
        case hy9 => intro W hSw; go_simp; try with_reducible rfl
        try simp only [Act.put, List.setIfInBounds_toArray, List.set_cons_zero, List.set_cons_succ]
        refine wpAnyH_take (i := 11) (oi := ⟨some 66, .pick (.tmp 57) (.const (.bool true)) (.tmp 65), _, _, _, _⟩) (v := ?vv10) rfl (by kernel_rfl) (by kernel_rfl) (by kernel_rfl) (fun _ _ _ h => h) (Or.inl ⟨by rfl, ?hy10⟩) HH.out ?rr10
        case hy10 => intro W hSw; go_simp; try with_reducible rfl
        try simp only [Act.put, List.setIfInBounds_toArray, List.set_cons_zero, List.set_cons_succ]
        refine wpAnyH_done (by kernel_rfl) ?_ _
        go_wp2_with fail
        go_roundg g3
        case measure => omega
        case rel => exact ⟨i + 1, by omega, by omega, by go_num, Lib.hid (HK3.out.trans (HK4.out.trans HQ9.out (fun _ _ hf => hf)) (fun _ _ hf => hf))⟩
end Go.Proofs.YtkbdfnmeomkpjaaGreat
