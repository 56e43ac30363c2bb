/- Gone through from the root, any text leads to the longest state with which it ends; no condition. -/
import Derived.Test.YtkbdfnmeomkpjaaLnkV
namespace Go.Proofs.Ytkbdfnmeomkpjaa
open Go.RowKit
set_option linter.unusedVariables false
set_option linter.unusedSimpArgs false
set_option maxRecDepth 100000

set_option maxHeartbeats 4000000 in
theorem reads_row (w : World) (A : Option Addr) (m c : Nat) (l0 : List ByteArray) (s0 : ByteArray) (h0 : m ≤ c ∧ m ≤ maxLen ∧ Sees w w.heap.size 1 A m (l0.map Value.string) ∧ ∀ s ∈ l0, s.size ≤ maxLen) (h2 : s0.size ≤ maxLen) :
    Calls Try.prog 5 #[.slice A m c, .string s0] w fun e w' => e = .returned (.bool true) ∧ Pure' w w' := by
  obtain ⟨sl, hsl⟩ : ∃ sl, s0.data.toList = sl := ⟨_, rfl⟩
  have hs0 : s0 = ⟨sl.toArray⟩ := by rw [← hsl]
  subst hs0
  clear hsl
  have hbs : (⟨sl.toArray⟩ : ByteArray).size = sl.length := Lib.size_eq _
  obtain ⟨sn, hsn⟩ : ∃ sn, sl.length = sn := ⟨_, rfl⟩
  have HSN := Lib.hid hsn
  rw [hsn] at hbs
  rw [hbs] at h2
  clear hsn
  obtain ⟨_, hm, hse, hsz⟩ := h0
  have hll : l0.length = m := by have := hse.1; simpa using this
  have HFEW := Lib.hid (few_ A m c w.heap.size l0 w hse 8 12 (by decide) (by decide) hm hsz)
  have HAW := Lib.hid awake_
  have HSE := Lib.hid hse
  have HLL := Lib.hid hll
  clear hse hsz hll
  go_enter Try.func5, Try.ntmps5
  go_wp2_with fail
  refine HFEW.out.mono ?_
  rintro e w1 ⟨⟨b0, rfl, hb0⟩, rfl⟩
  cases b0 with
  | false =>
    clear hb0
    go_wp2_with fail
    refine (HAW.out _).mono ?_
    rintro e w2 ⟨rfl, hk⟩
    have HK := Lib.hid hk
    clear hk
    go_wp2
    go_ret
    exact ⟨rfl, HK.out⟩
  | true =>
    obtain ⟨hf1, hf2⟩ := hb0.1 rfl
    by_cases h60 : 60 < sn
    · have h60i : (60 : Int) < (sn : Int) := by omega
      clear hb0 hf1 hf2
      go_wp2_with fail
      refine (HAW.out _).mono ?_
      rintro e w2 ⟨rfl, hk⟩
      have HK := Lib.hid hk
      clear hk
      go_wp2
      go_ret
      exact ⟨rfl, HK.out⟩
    have h60i : ¬ (60 : Int) < (sn : Int) := by omega
    have hm12 : m ≤ 12 := by rw [← HLL.out]; omega
    have hf3 : ∀ s ∈ l0, s.size ≤ 20 := fun s hs => by have := hf2 s hs; omega
    have HNEW := Lib.hid (new_ A m c _ l0 w HSE.out (Nat.le_refl _) hm12 hf3)
    have HRN := Lib.hid (fun (W : World) (hW : Pure' w W) => rnew_ A m c _ l0 W (HSE.out.pure hW (Nat.le_refl _)) hW.size hm12 hf3)
    have HF3 := Lib.hid hf3
    clear hb0 hf2 hf3
    go_wp2_with fail
    refine HNEW.out.mono ?_
    rintro e w1 ⟨x, er, lp, rfl, hc, hset, hk⟩
    have HC := Lib.hid hc
    have HSET := Lib.hid hset
    have HK1 := Lib.hid hk
    clear hc hset hk HNEW
    go_wp2_with fail
    refine (HRN.out _ HK1.out).mono ?_
    rintro e w2 ⟨A2, c2, lq, er2, rfl, hc2, hs2, hk⟩
    have hsame := same_lists HC.out hc2
    have hc1 : (OkL l0 ∧ lp.Perm l0 ∧ InOrd lp) ∨ lp = [] := by
      rcases HC.out with ⟨a1, _, a2, a3⟩ | ⟨_, a, _⟩
      · exact .inl ⟨a1, a2, a3⟩
      · exact .inr a
    have hord := new_ord hc1
    have hfew := new_few (l := l0) (lp := lp) (N := 12) (M := 20) (by rcases hc1 with a | a; exact .inl a.2.1; exact .inr a) (by rw [HLL.out]; exact hm12) HF3.out
    have HLK := Lib.hid (newLink_ x lp w2 (HSET.out.pure hk) hfew.1 hfew.2 hord.1 hord.2)
    have hs3 : Sees w2 w2.heap.size 1 A2 lq.length (strVs (bl lp)) := by rw [← hsame, ← strVs_bl]; exact hs2
    have hlq : lq.length = (bl lp).length := by rw [← hsame, bl_len]
    have hlb : (bl lp).length ≤ 12 := by rw [bl_len]; exact hfew.1
    obtain ⟨lqn, hlqn⟩ : ∃ k, lq.length = k := ⟨_, rfl⟩
    rw [hlqn] at hs3 hlq ⊢
    have HLQ := Lib.hid hlq
    have HS2 := Lib.hid hs3
    have hlq12 : lqn ≤ 12 := by omega
    have HLP := Lib.hid hfew.2
    have HK2 := Lib.hid (HK1.out.trans hk (fun _ _ hf => hf))
    generalize bl lp = l at *
    clear hc1 hord hfew hk HSET HC HRN hsame hs2 hs3 hlq hlqn hc2 hlb
    go_wp2_with fail
    refine HLK.out.mono ?_
    rintro e w3 ⟨g, tg, b, cap, fb, ob, S, F, O, rfl, hlk, hf, ho, _, hk2⟩
    have HLI := Lib.hid (show LkI w3 g tg b cap fb ob l S F O from ⟨hlk, hf, ho⟩)
    have HK3 := Lib.hid (HK2.out.trans hk2 (fun _ _ hf => hf))
    have HST := Lib.hid hlk.ti.sts
    have HS3 := Lib.hid ((HS2.out.pure hk2 (Nat.le_refl _)).more hk2.size)
    have hn241 := hlk.ti.few
    have hnl := HLI.out.len
    obtain ⟨n, hn⟩ : ∃ n, S.length = n := ⟨_, rfl⟩
    have HN := Lib.hid hn
    rw [hn] at hn241 hnl
    have HNL := Lib.hid hnl
    have HRS := Lib.hid (rstates_ A2 lqn c2 _ l w3 HS3.out (Nat.le_refl _) hlq12 HLP.out)
    have HSH := Lib.hid (fun (t : Nat) (p : List UInt8) (hp : (statesL l)[t]? = some p) => st_short HST.out HLP.out hp)
    rw [← hnl] at HRS
    clear hlk hf ho hk2 hn hnl HLK HK1 HK2 HS2
    go_wp2_with fail
    refine HRS.out.mono ?_
    rintro e w4 ⟨A3, c3, rfl, hsw⟩
    have hk34 := hsw.pure
    have HSL := Lib.hid (show Sees w4 w4.heap.size 1 A3 n (strVs (statesL l)) from by have hr := hsw.row; rw [← HNL.out] at hr; exact hr.sees)
    have HK4 := Lib.hid (HK3.out.trans hk34 (fun _ _ hf => hf))
    have HLI4 := Lib.hid (HLI.out.pure hk34)
    have HS4 := Lib.hid ((HS3.out.pure hk34 (Nat.le_refl _)).more hk34.size)
    have HTR := Lib.hid (fun (W : World) (hW : Pure' w4 W) => ltrie_ g tg b cap fb ob l S F O W (HLI4.out.pure hW).lk)
    have HLEN := Lib.hid (fun (W : World) (hW : Pure' w4 W) => tlen_ tg b cap S.length W (HLI4.out.pure hW).lk.ti.tr.box)
    rw [HN.out] at HLEN
    clear hsw hk34 HRS HS3 HLI
    have HX := Lib.hid (fun (k : Nat) => show (⟨sl.toArray⟩ : ByteArray).extract 0 k = ⟨(sl.take k).toArray⟩ from bytes_eq (by simp [ByteArray.extract, ByteArray.copySlice]))
    go_wp2
    go_loopg [11, 12] sn (fun gh v11 v12 wr => ∃ (i : Nat) (q : List UInt8), i + gh = sn ∧ v12 = .int .i64 (i : Int) ∧ v11 = .int .i64 ((lsuf (statesL l) (sl.take i) : Nat) : Int) ∧ RowKit.Hid (Pure' w4 wr))
    case atStart => exact ⟨0, [], by omega, rfl, by rw [List.take_zero, lsuf_in HST.out HST.out.zero]; rfl, Lib.hid (Keeps.refl _ _)⟩
    case round =>
      obtain ⟨i, _, hig, rfl, rfl, HW⟩ := hrel
      cases gk with
      | zero =>
        obtain rfl : i = sn := by omega
        generalize lsuf (statesL l) (sl.take i) = t0 at *
        go_wp2_with fail
        refine (HAW.out _).mono ?_
        rintro e w7 ⟨rfl, hk⟩
        have HK7 := Lib.hid ((HK4.out.trans HW.out (fun _ _ hf => hf)).trans hk (fun _ _ hf => hf))
        clear hk
        go_wp2
        go_ret
        exact ⟨rfl, HK7.out⟩
      | succ g3 =>
        have hii : (i : Int) < (sn : Int) := by omega
        have hisl : i < sl.length := by rw [HSN.out]; omega
        obtain ⟨ch, hci, hch, hga⟩ := at_c hisl
        have hnext : sl.take (i + 1) = sl.take i ++ [ch] := by rw [List.take_add_one, hch]; rfl
        obtain ⟨p, hp⟩ : ∃ p, (statesL l)[lsuf (statesL l) (sl.take i)]? = some p := ⟨_, (lsuf_spec HST.out (sl.take i)).choose_spec.1⟩
        have hst : lsuf (statesL l) (p ++ [ch]) = lsuf (statesL l) (sl.take (i + 1)) := by rw [hnext]; exact (lsuf_step HST.out ch hp).symm
        obtain ⟨t1, ht1⟩ : ∃ t, lsuf (statesL l) (sl.take (i + 1)) = t := ⟨_, rfl⟩
        obtain ⟨q, hq⟩ : ∃ q, (statesL l)[t1]? = some q := ⟨_, by rw [← ht1]; exact (lsuf_spec HST.out (sl.take (i + 1))).choose_spec.1⟩
        have hhh : hitsI l q = hitsI l (sl.take (i + 1)) := by
          have := hits_same HST.out (p := sl.take (i + 1)) (q := q) (by rw [ht1]; exact hq)
          exact congrArg (List.map (fun (i : Nat) => (i : Int))) this
        obtain ⟨t0, ht0⟩ : ∃ t, lsuf (statesL l) (sl.take i) = t := ⟨_, rfl⟩
        rw [ht0] at hp
        rw [ht1] at hst
        rw [ht0]
        obtain ⟨hz, hhz⟩ : ∃ q, hitsI l (sl.take (i + 1)) = q := ⟨_, rfl⟩
        obtain ⟨hn, hhn⟩ : ∃ q, hz.length = q := ⟨_, rfl⟩
        have hhb : hn ≤ 12 := by rw [← hhn, ← hhz]; unfold hitsI; rw [List.length_map]; refine Nat.le_trans (List.length_filter_le _ _) ?_; rw [List.length_range, ← HLQ.out]; exact hlq12
        have hpl := HSH.out t0 p hp
        have hql := HSH.out t1 q hq
        have htl : (sl.take (i + 1)).length = i + 1 := by rw [List.length_take]; omega
        have cST := fun (W : World) (hW : Pure' w4 W) => step_ g tg b cap fb ob l S F O t0 p ch W (HLI4.out.pure hW) hp
        have cLO := fun (W : World) (hW : Pure' w4 W) => longest_ A3 n c3 _ l _ (sl.take (i + 1)) (i + 1) W (HSL.out.pure hW (Nat.le_refl _)) (by omega) HST.out (by omega) (by omega)
        have cHI := fun (W : World) (hW : Pure' w4 W) => hits_ g tg b cap fb ob l S F O t1 q W (HLI4.out.pure hW) hq (by omega)
        have cRHI := fun (W : World) (hW : Pure' w4 W) => rhits_ A2 lqn c2 _ l (sl.take (i + 1)) W (HS4.out.pure hW (Nat.le_refl _)) hW.size (by omega) (by omega) (fun x hx => by have := HLP.out x hx; omega)
        have hlo : (sl.take (i + 1)).drop ((sl.take (i + 1)).length - (i + 1)) = sl.take (i + 1) := by rw [htl, Nat.sub_self]; rfl
        rw [hst] at cST
        rw [hlo, ht1] at cLO
        rw [hhh, hhz, hhn] at cHI
        rw [hhz, hhn] at cRHI
        have hcast : ((i + 1 : Nat) : Int) = (i : Int) + 1 := by omega
        rw [hcast] at cLO
        have cST := fun (W : World) (hW : Pure' w4 W) => (cST W hW).mono fun e w' h => show _ ∧ Pure' W w' from ⟨h.1, drewn_pure h.2⟩
        have cST := Lib.hid cST
        have cLO := Lib.hid cLO
        have cHI := Lib.hid cHI
        have cRHI := Lib.hid cRHI
        have HHN := Lib.hid hhn
        have HT1 := Lib.hid (show ∃ y, lsuf (statesL l) y = t1 ∧ y = sl.take (i + 1) from ⟨_, ht1, rfl⟩)
        have hxt := HX.out (i + 1)
        clear hp hq hst hhh hhz hhn hch hnext ht1 ht0 htl hlo hcast hpl hql
        obtain ⟨sx, hsx0⟩ : ∃ sx, sl.take (i + 1) = sx := ⟨_, rfl⟩
        rw [hsx0] at cLO cRHI hxt
        clear hsx0
        go_wp2_with fail
        refine (cST.out _ HW.out).mono ?_
        rintro e w5 ⟨rfl, hk5⟩
        have HW5 := Lib.hid (HW.out.trans hk5 (fun _ _ hf => hf))
        clear hk5
        go_upto_region 12 with fail
        have hsx : (⟨sl.toArray⟩ : ByteArray).extract 0 (i + 1) = ⟨sx.toArray⟩ := hxt
        have hw1 : IntKind.i64.wrap ((i : Int) + 1) = (i : Int) + 1 := by rw [IntKind.wrap_i64]; omega
        have hw2 : (0 : Int) ≤ (i : Int) + 1 := by omega
        have hw3 : (i : Int) + 1 ≤ (sn : Int) := by omega
        have hw4 : ((i : Int) + 1).toNat = i + 1 := by omega
        refine wp_region_held_drew (S := (fun W => Pure' w5 W)) (by kernel_rfl) ((Keeps.refl _ w5).drew) (fun hHeld => ?_)
        have HH := Lib.hid hHeld
        clear hHeld
        refine wpAnyH_take (i := 0) (oi := ⟨some 48, .move (.tmp 11), _, _, _, _⟩) (v := ?vv1) rfl (by kernel_rfl) (by kernel_rfl) (by kernel_rfl) (fun _ _ _ h => h) (Or.inl ⟨by rfl, ?hy1⟩) HH.out ?rr1
        case hy1 => intro W hSw; go_simp; try with_reducible rfl
        try simp only [Act.put, List.setIfInBounds_toArray, List.set_cons_zero, List.set_cons_succ]
        refine wpAnyH_take (i := 1) (oi := ⟨some 49, .move (.tmp 10), _, _, _, _⟩) (v := ?vv2) rfl (by kernel_rfl) (by kernel_rfl) (by kernel_rfl) (fun _ _ _ h => h) (Or.inl ⟨by rfl, ?hy2⟩) HH.out ?rr2
        case hy2 => intro W hSw; go_simp; try with_reducible rfl
        try simp only [Act.put, List.setIfInBounds_toArray, List.set_cons_zero, List.set_cons_succ]
        refine wpAnyH_take (i := 2) (oi := ⟨some 50, .move (.tmp 1), _, _, _, _⟩) (v := ?vv3) rfl (by kernel_rfl) (by kernel_rfl) (by kernel_rfl) (fun _ _ _ h => h) (Or.inl ⟨by rfl, ?hy3⟩) HH.out ?rr3
        case hy3 => intro W hSw; go_simp; try with_reducible rfl
        try simp only [Act.put, List.setIfInBounds_toArray, List.set_cons_zero, List.set_cons_succ]
        refine wpAnyH_take (i := 3) (oi := ⟨some 51, .move (.tmp 12), _, _, _, _⟩) (v := ?vv4) rfl (by kernel_rfl) (by kernel_rfl) (by kernel_rfl) (fun _ _ _ h => h) (Or.inl ⟨by rfl, ?hy4⟩) HH.out ?rr4
        case hy4 => intro W hSw; go_simp; try with_reducible rfl
        try simp only [Act.put, List.setIfInBounds_toArray, List.set_cons_zero, List.set_cons_succ]
        refine wpAnyH_take (i := 4) (oi := ⟨some 52, .binOp .add 3 (.tmp 51) (.const (.int .i64 1)) 3, _, _, _, _⟩) (v := ?vv5) rfl (by kernel_rfl) (by kernel_rfl) (by kernel_rfl) (fun _ _ _ h => h) (Or.inl ⟨by rfl, ?hy5⟩) HH.out ?rr5
        case hy5 => intro W hSw; go_simp; try with_reducible rfl
        try simp only [Act.put, List.setIfInBounds_toArray, List.set_cons_zero, List.set_cons_succ]
        refine wpAnyH_take (i := 5) (oi := ⟨some 53, .slice 9 (.tmp 50) none (some (.tmp 52)) none, _, _, _, _⟩) (v := ?vv6) rfl (by kernel_rfl) (by kernel_rfl) (by kernel_rfl) (fun _ _ _ h => h) (Or.inl ⟨by rfl, ?hy6⟩) HH.out ?rr6
        case hy6 => intro W hSw; go_simp; try with_reducible rfl
        try simp only [Act.put, List.setIfInBounds_toArray, List.set_cons_zero, List.set_cons_succ]
        refine wpAnyH_take (i := 6) (oi := ⟨some 54, .move (.tmp 12), _, _, _, _⟩) (v := ?vv7) rfl (by kernel_rfl) (by kernel_rfl) (by kernel_rfl) (fun _ _ _ h => h) (Or.inl ⟨by rfl, ?hy7⟩) HH.out ?rr7
        case hy7 => intro W hSw; go_simp; try with_reducible rfl
        try simp only [Act.put, List.setIfInBounds_toArray, List.set_cons_zero, List.set_cons_succ]
        refine wpAnyH_take (i := 7) (oi := ⟨some 55, .binOp .add 3 (.tmp 54) (.const (.int .i64 1)) 3, _, _, _, _⟩) (v := ?vv8) rfl (by kernel_rfl) (by kernel_rfl) (by kernel_rfl) (fun _ _ _ h => h) (Or.inl ⟨by rfl, ?hy8⟩) HH.out ?rr8
        case hy8 => intro W hSw; go_simp; try with_reducible rfl
        try simp only [Act.put, List.setIfInBounds_toArray, List.set_cons_zero, List.set_cons_succ]
        refine wpAnyH_ready (rs := [8]) (by kernel_rfl) (by simp) ?_
        refine AllReadyH.cons (o := ⟨some 56, .call { callee := .value (.func 33), args := #[.tmp 49, .tmp 53, .tmp 55], argTypes := #[22, 9, 3] }, _, _, _, _⟩) rfl (fun K hK => ?_) AllReadyH.nil
        go_simp
        go_at_call 33
        refine (cLO.out _ (HW5.out.trans HH.out (fun _ _ hf => hf))).mono ?_
        rintro e wB ⟨rfl, rfl⟩
        go_wp2_with fail
        refine hK.out _ _ (HH.out) (fun hHeld => ?_)
        have HH := Lib.hid hHeld
        clear hHeld hK K
        try simp only [Act.put, List.setIfInBounds_toArray, List.set_cons_zero, List.set_cons_succ]
        refine wpAnyH_take (i := 9) (oi := ⟨some 57, .binOp .neq 3 (.tmp 48) (.tmp 56) 3, _, _, _, _⟩) (v := ?vv9) rfl (by kernel_rfl) (by kernel_rfl) (by kernel_rfl) (fun _ _ _ h => h) (Or.inl ⟨by rfl, ?hy9⟩) HH.out ?rr9
        case hy9 => intro W hSw; go_simp; try with_reducible rfl
        try simp only [Act.put, List.setIfInBounds_toArray, List.set_cons_zero, List.set_cons_succ]
        refine wpAnyH_take (i := 10) (oi := ⟨some 58, .move (.tmp 57), _, _, _, _⟩) (v := ?vv10) rfl (by kernel_rfl) (by kernel_rfl) (by kernel_rfl) (fun _ _ _ h => h) (Or.inl ⟨by rfl, ?hy10⟩) HH.out ?rr10
        case hy10 => intro W hSw; go_simp; try with_reducible rfl
        try simp only [Act.put, List.setIfInBounds_toArray, List.set_cons_zero, List.set_cons_succ]
        refine wpAnyH_take (i := 11) (oi := ⟨some 59, .move (.tmp 9), _, _, _, _⟩) (v := ?vv11) rfl (by kernel_rfl) (by kernel_rfl) (by kernel_rfl) (fun _ _ _ h => h) (Or.inl ⟨by rfl, ?hy11⟩) HH.out ?rr11
        case hy11 => intro W hSw; go_simp; try with_reducible rfl
        try simp only [Act.put, List.setIfInBounds_toArray, List.set_cons_zero, List.set_cons_succ]
        refine wpAnyH_take (i := 12) (oi := ⟨some 60, .move (.tmp 11), _, _, _, _⟩) (v := ?vv12) rfl (by kernel_rfl) (by kernel_rfl) (by kernel_rfl) (fun _ _ _ h => h) (Or.inl ⟨by rfl, ?hy12⟩) HH.out ?rr12
        case hy12 => intro W hSw; go_simp; try with_reducible rfl
        try simp only [Act.put, List.setIfInBounds_toArray, List.set_cons_zero, List.set_cons_succ]
        refine wpAnyH_take (i := 14) (oi := ⟨some 62, .move (.tmp 7), _, _, _, _⟩) (v := ?vv13) rfl (by kernel_rfl) (by kernel_rfl) (by kernel_rfl) (fun _ _ _ h => h) (Or.inl ⟨by rfl, ?hy13⟩) HH.out ?rr13
        case hy13 => intro W hSw; go_simp; try with_reducible rfl
        try simp only [Act.put, List.setIfInBounds_toArray, List.set_cons_zero, List.set_cons_succ]
        refine wpAnyH_take (i := 15) (oi := ⟨some 63, .move (.tmp 1), _, _, _, _⟩) (v := ?vv14) rfl (by kernel_rfl) (by kernel_rfl) (by kernel_rfl) (fun _ _ _ h => h) (Or.inl ⟨by rfl, ?hy14⟩) HH.out ?rr14
        case hy14 => intro W hSw; go_simp; try with_reducible rfl
        try simp only [Act.put, List.setIfInBounds_toArray, List.set_cons_zero, List.set_cons_succ]
        refine wpAnyH_take (i := 16) (oi := ⟨some 64, .move (.tmp 12), _, _, _, _⟩) (v := ?vv15) rfl (by kernel_rfl) (by kernel_rfl) (by kernel_rfl) (fun _ _ _ h => h) (Or.inl ⟨by rfl, ?hy15⟩) HH.out ?rr15
        case hy15 => intro W hSw; go_simp; try with_reducible rfl
        try simp only [Act.put, List.setIfInBounds_toArray, List.set_cons_zero, List.set_cons_succ]
        refine wpAnyH_take (i := 17) (oi := ⟨some 65, .binOp .add 3 (.tmp 64) (.const (.int .i64 1)) 3, _, _, _, _⟩) (v := ?vv16) rfl (by kernel_rfl) (by kernel_rfl) (by kernel_rfl) (fun _ _ _ h => h) (Or.inl ⟨by rfl, ?hy16⟩) HH.out ?rr16
        case hy16 => intro W hSw; go_simp; try with_reducible rfl
        try simp only [Act.put, List.setIfInBounds_toArray, List.set_cons_zero, List.set_cons_succ]
        refine wpAnyH_take (i := 18) (oi := ⟨some 66, .slice 9 (.tmp 63) none (some (.tmp 65)) none, _, _, _, _⟩) (v := ?vv17) rfl (by kernel_rfl) (by kernel_rfl) (by kernel_rfl) (fun _ _ _ h => h) (Or.inl ⟨by rfl, ?hy17⟩) HH.out ?rr17
        case hy17 => intro W hSw; go_simp; try with_reducible rfl
        try simp only [Act.put, List.setIfInBounds_toArray, List.set_cons_zero, List.set_cons_succ]
        refine wpAnyH_ready (rs := [13]) (by kernel_rfl) (by simp) ?_
        refine AllReadyH.cons (o := ⟨some 61, .call { callee := .value (.func 34), args := #[.tmp 59, .tmp 60], argTypes := #[49, 3] }, _, _, _, _⟩) rfl (fun K hK => ?_) AllReadyH.nil
        go_simp
        go_at_call 34
        refine (cHI.out _ (HW5.out.trans HH.out (fun _ _ hf => hf))).mono ?_
        rintro e wC ⟨A43, c43, rfl, hnm⟩
        have HN43 := Lib.hid hnm
        clear hnm
        go_wp2_with fail
        refine hK.out _ _ (HH.out.trans HN43.out.pure (fun _ _ hf => hf)) (fun hHeld => ?_)
        have HH := Lib.hid hHeld
        clear hHeld hK K
        try simp only [Act.put, List.setIfInBounds_toArray, List.set_cons_zero, List.set_cons_succ]
        refine wpAnyH_ready (rs := [19]) (by kernel_rfl) (by simp) ?_
        refine AllReadyH.cons (o := ⟨some 67, .call { callee := .value (.func 35), args := #[.tmp 62, .tmp 66], argTypes := #[22, 9] }, _, _, _, _⟩) rfl (fun K hK => ?_) AllReadyH.nil
        go_simp
        go_at_call 35
        refine (cRHI.out _ (HW5.out.trans HH.out (fun _ _ hf => hf))).mono ?_
        rintro e wD ⟨A49, c49, rfl, hnm⟩
        have HN49 := Lib.hid hnm
        clear hnm
        go_wp2_with fail
        refine hK.out _ _ (HH.out.trans HN49.out.pure (fun _ _ hf => hf)) (fun hHeld => ?_)
        have HH := Lib.hid hHeld
        clear hHeld hK K
        try simp only [Act.put, List.setIfInBounds_toArray, List.set_cons_zero, List.set_cons_succ]
        refine wpAnyH_ready (rs := [20]) (by kernel_rfl) (by simp) ?_
        refine AllReadyH.cons (o := ⟨some 68, .call { callee := .value (.func 21), args := #[.tmp 61, .tmp 67], argTypes := #[41, 41] }, _, _, _, _⟩) rfl (fun K hK => ?_) AllReadyH.nil
        go_simp
        go_at_call 21
        refine (rsame_ A43 A49 hn c43 c49 _ _ hz _ (by have := HN43.out.row.keep HN49.out.pure (fun _ _ hf => hf); rw [HHN.out] at this; exact this.sees) (by have := HN49.out.row; rw [HHN.out] at this; exact this.sees) (by omega)).mono ?_
        rintro e wE ⟨rfl, hk50⟩
        have HK50 := Lib.hid (drewn_pure hk50)
        clear hk50
        go_wp2_with fail
        refine hK.out _ _ (HH.out.trans HK50.out (fun _ _ hf => hf)) (fun hHeld => ?_)
        have HH := Lib.hid hHeld
        clear hHeld hK K
        try simp only [Act.put, List.setIfInBounds_toArray, List.set_cons_zero, List.set_cons_succ]
        refine wpAnyH_take (i := 21) (oi := ⟨some 69, .unOp .not 4 (.tmp 68), _, _, _, _⟩) (v := ?vv18) rfl (by kernel_rfl) (by kernel_rfl) (by kernel_rfl) (fun _ _ _ h => h) (Or.inl ⟨by rfl, ?hy18⟩) HH.out ?rr18
        case hy18 => intro W hSw; go_simp; try with_reducible rfl
        try simp only [Act.put, List.setIfInBounds_toArray, List.set_cons_zero, List.set_cons_succ]
        refine wpAnyH_take (i := 22) (oi := ⟨some 70, .pick (.tmp 58) (.const (.bool true)) (.tmp 69), _, _, _, _⟩) (v := ?vv19) rfl (by kernel_rfl) (by kernel_rfl) (by kernel_rfl) (fun _ _ _ h => h) (Or.inl ⟨by rfl, ?hy19⟩) HH.out ?rr19
        case hy19 => intro W hSw; go_simp; try with_reducible rfl
        try simp only [Act.put, List.setIfInBounds_toArray, List.set_cons_zero, List.set_cons_succ]
        refine wpAnyH_done (by kernel_rfl) ?_ _
        go_wp2
        go_roundg g3
        case measure => omega
        case rel => exact ⟨i + 1, [], by omega, by go_num, by obtain ⟨y, e1, e2⟩ := HT1.out; rw [e2] at e1; rw [e1], Lib.hid (HW5.out.trans HH.out (fun _ _ hf => hf))⟩

end Go.Proofs.Ytkbdfnmeomkpjaa
