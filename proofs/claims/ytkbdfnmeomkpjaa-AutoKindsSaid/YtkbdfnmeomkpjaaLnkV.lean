/- Falls, ways and hits of every state agree with the reference's; no condition. -/
import Derived.Test.YtkbdfnmeomkpjaaRefG
namespace Go.Proofs.Ytkbdfnmeomkpjaa
open Go.RowKit
set_option linter.unusedVariables false
set_option linter.unusedSimpArgs false
set_option maxRecDepth 100000

/-- Both lists of a set are one. -/
theorem same_lists {l lp lq : List ByteArray} {er : Int} (h : (OkL l ∧ er = 0 ∧ lp.Perm l ∧ InOrd lp) ∨ (¬ OkL l ∧ lp = [] ∧ er ≠ 0)) (h' : (OkL l ∧ lq.Perm l ∧ InOrd lq) ∨ (¬ OkL l ∧ lq = [])) : bl lq = bl lp := by
  rcases h with ⟨a1, _, a2, a3⟩ | ⟨a1, rfl, _⟩
  · rcases h' with ⟨_, b2, b3⟩ | ⟨b1, _⟩
    · have o1 := (new_ord (l := l) (lp := lp) (.inl ⟨a1, a2, a3⟩)).1
      have o2 := (new_ord (l := l) (lp := lq) (.inl ⟨a1, b2, b3⟩)).1
      have hp : (bl lq).Perm (bl lp) := (b2.trans a2.symm).map _
      exact hp.eq_of_pairwise (le := fun a b => a < b) (fun a b _ _ h1 h2 => absurd h2 (lt_as h1)) o2 o1
    · exact absurd a1 b1
  · rcases h' with ⟨b1, _⟩ | ⟨_, rfl⟩
    · exact absurd b1 a1
    · rfl
theorem drewn_pure {w w' : World} (h : ∃ k, w' = w.drewN k) : Pure' w w' := by
  obtain ⟨k, rfl⟩ := h
  exact (Keeps.refl _ w).drewN k
theorem bl_len (lp : List ByteArray) : (bl lp).length = lp.length := by simp [bl]
theorem st_short {l : List (List UInt8)} {M : Nat} (hs : Sts l (statesL l)) (hll : ∀ y ∈ l, y.length ≤ M) {t : Nat} {p : List UInt8} (hp : (statesL l)[t]? = some p) : p.length ≤ M := by
  rcases (hs.mem p).1 (List.mem_of_getElem? hp) with rfl | ⟨x, hx, hpx⟩
  · exact Nat.zero_le _
  · exact Nat.le_trans hpx.length_le (hll x hx)

set_option maxHeartbeats 4000000 in
theorem tells_row (w : World) (A : Option Addr) (m c : Nat) (l0 : List ByteArray) (c0 : Int) (h0 : m ≤ c ∧ m ≤ maxLen ∧ Sees w w.heap.size 1 A m (l0.map Value.string) ∧ ∀ s ∈ l0, s.size ≤ maxLen) (h2 : 0 ≤ c0 ∧ c0 ≤ 255) :
    Calls Try.prog 6 #[.slice A m c, .int .u8 c0] w fun e w' => e = .returned (.bool true) ∧ Pure' w w' := by
  obtain ⟨ch, rfl⟩ : ∃ ch : UInt8, (ch.toNat : Int) = c0 := ⟨UInt8.ofNat c0.toNat, by simp [UInt8.toNat_ofNat]; omega⟩
  obtain ⟨_, hm, hse, hsz⟩ := h0
  have hll : l0.length = m := by have := hse.1; simpa using this
  have HFEW := Lib.hid (few_ A m c w.heap.size l0 w hse 8 12 (by decide) (by decide) hm hsz)
  have HAW := Lib.hid awake_
  have HSE := Lib.hid hse
  have HLL := Lib.hid hll
  clear hse hsz hll h2
  go_enter Try.func6, Try.ntmps6
  go_wp2_with fail
  refine HFEW.out.mono ?_
  rintro e w1 ⟨⟨b0, rfl, hb0⟩, rfl⟩
  cases b0 with
  | false =>
    clear hb0
    go_wp2_with fail
    refine (HAW.out _).mono ?_
    rintro e w2 ⟨rfl, hk⟩
    have HK := Lib.hid hk
    clear hk
    go_wp2
    go_ret
    exact ⟨rfl, HK.out⟩
  | true =>
    obtain ⟨hf1, hf2⟩ := hb0.1 rfl
    have hm12 : m ≤ 12 := by rw [← HLL.out]; omega
    have hf3 : ∀ s ∈ l0, s.size ≤ 20 := fun s hs => by have := hf2 s hs; omega
    have HNEW := Lib.hid (new_ A m c _ l0 w HSE.out (Nat.le_refl _) hm12 hf3)
    have HRN := Lib.hid (fun (W : World) (hW : Pure' w W) => rnew_ A m c _ l0 W (HSE.out.pure hW (Nat.le_refl _)) hW.size hm12 hf3)
    have HF3 := Lib.hid hf3
    clear hb0 hf2 hf3
    go_wp2_with fail
    refine HNEW.out.mono ?_
    rintro e w1 ⟨x, er, lp, rfl, hc, hset, hk⟩
    have HC := Lib.hid hc
    have HSET := Lib.hid hset
    have HK1 := Lib.hid hk
    clear hc hset hk HNEW
    go_wp2_with fail
    refine (HRN.out _ HK1.out).mono ?_
    rintro e w2 ⟨A2, c2, lq, er2, rfl, hc2, hs2, hk⟩
    have hsame := same_lists HC.out hc2
    have hc1 : (OkL l0 ∧ lp.Perm l0 ∧ InOrd lp) ∨ lp = [] := by
      rcases HC.out with ⟨a1, _, a2, a3⟩ | ⟨_, a, _⟩
      · exact .inl ⟨a1, a2, a3⟩
      · exact .inr a
    have hord := new_ord hc1
    have hfew := new_few (l := l0) (lp := lp) (N := 12) (M := 20) (by rcases hc1 with a | a; exact .inl a.2.1; exact .inr a) (by rw [HLL.out]; exact hm12) HF3.out
    have HLK := Lib.hid (newLink_ x lp w2 (HSET.out.pure hk) hfew.1 hfew.2 hord.1 hord.2)
    have hs3 : Sees w2 w2.heap.size 1 A2 lq.length (strVs (bl lp)) := by rw [← hsame, ← strVs_bl]; exact hs2
    have hlq : lq.length = (bl lp).length := by rw [← hsame, bl_len]
    have hlb : (bl lp).length ≤ 12 := by rw [bl_len]; exact hfew.1
    obtain ⟨lqn, hlqn⟩ : ∃ k, lq.length = k := ⟨_, rfl⟩
    rw [hlqn] at hs3 hlq ⊢
    have HLQ := Lib.hid hlq
    have HS2 := Lib.hid hs3
    have hlq12 : lqn ≤ 12 := by omega
    have HLP := Lib.hid hfew.2
    have HK2 := Lib.hid (HK1.out.trans hk (fun _ _ hf => hf))
    generalize bl lp = l at *
    clear hc1 hord hfew hk HSET HC HRN hsame hs2 hs3 hlq hlqn hc2 hlb
    go_wp2_with fail
    refine HLK.out.mono ?_
    rintro e w3 ⟨g, tg, b, cap, fb, ob, S, F, O, rfl, hlk, hf, ho, _, hk2⟩
    have HLI := Lib.hid (show LkI w3 g tg b cap fb ob l S F O from ⟨hlk, hf, ho⟩)
    have HK3 := Lib.hid (HK2.out.trans hk2 (fun _ _ hf => hf))
    have HST := Lib.hid hlk.ti.sts
    have HS3 := Lib.hid ((HS2.out.pure hk2 (Nat.le_refl _)).more hk2.size)
    have hn241 := hlk.ti.few
    have hnl := HLI.out.len
    obtain ⟨n, hn⟩ : ∃ n, S.length = n := ⟨_, rfl⟩
    have HN := Lib.hid hn
    rw [hn] at hn241 hnl
    have HNL := Lib.hid hnl
    have HRS := Lib.hid (rstates_ A2 lqn c2 _ l w3 HS3.out (Nat.le_refl _) hlq12 HLP.out)
    have HSH := Lib.hid (fun (t : Nat) (p : List UInt8) (hp : (statesL l)[t]? = some p) => st_short HST.out HLP.out hp)
    rw [← hnl] at HRS
    clear hlk hf ho hk2 hn hnl HLK HK1 HK2 HS2
    go_wp2_with fail
    refine HRS.out.mono ?_
    rintro e w4 ⟨A3, c3, rfl, hsw⟩
    have hk34 := hsw.pure
    have HSL := Lib.hid (show Sees w4 w4.heap.size 1 A3 n (strVs (statesL l)) from by have hr := hsw.row; rw [← HNL.out] at hr; exact hr.sees)
    have HK4 := Lib.hid (HK3.out.trans hk34 (fun _ _ hf => hf))
    have HLI4 := Lib.hid (HLI.out.pure hk34)
    have HS4 := Lib.hid ((HS3.out.pure hk34 (Nat.le_refl _)).more hk34.size)
    have HTR := Lib.hid (fun (W : World) (hW : Pure' w4 W) => ltrie_ g tg b cap fb ob l S F O W (HLI4.out.pure hW).lk)
    have HLEN := Lib.hid (fun (W : World) (hW : Pure' w4 W) => tlen_ tg b cap S.length W (HLI4.out.pure hW).lk.ti.tr.box)
    rw [HN.out] at HLEN
    clear hsw hk34 HRS HS3 HLI
    go_wp2
    go_loopg [11, 12, 13, 14] n (fun gh v11 v12 v13 v14 wr => ∃ i : Nat, i + gh = n ∧ v11 = .int .i64 (i : Int) ∧ RowKit.Hid (Pure' w4 wr))
    case atStart => exact ⟨0, by omega, rfl, Lib.hid (Keeps.refl _ _)⟩
    case round =>
      obtain ⟨i, hig, rfl, HW⟩ := hrel
      cases gk with
      | zero =>
        obtain rfl : i = n := by omega
        go_wp2_with fail
        refine (HTR.out _ HW.out).mono ?_
        rintro e w5 ⟨rfl, rfl⟩
        go_wp2_with fail
        refine (HLEN.out _ HW.out).mono ?_
        rintro e w6 ⟨rfl, rfl⟩
        go_wp2_with fail
        refine (HAW.out _).mono ?_
        rintro e w7 ⟨rfl, hk⟩
        have HK7 := Lib.hid ((HK4.out.trans HW.out (fun _ _ hf => hf)).trans hk (fun _ _ hf => hf))
        clear hk
        go_wp2
        go_ret
        exact ⟨rfl, HK7.out⟩
      | succ g3 =>
        have hii : (i : Int) < (n : Int) := by omega
        obtain ⟨p, hp⟩ : ∃ p, (statesL l)[i]? = some p := ⟨_, List.getElem?_eq_getElem (by rw [← HNL.out]; omega)⟩
        have hpl := HSH.out i p hp
        have HP := Lib.hid hp
        have hcell := fun (W : World) (hW : Pure' w4 W) => word_at (HSL.out.pure hW (Nat.le_refl _)) (show i < n by omega)
        obtain ⟨ad, x9, rfl, hx9, _⟩ := hcell wr HW.out
        obtain rfl : x9 = p := by rw [hp] at hx9; exact (Option.some.inj hx9).symm
        have HX := Lib.hid (fun (W : World) (hW : Pure' w4 W) => show W.cell? (ad.add i) = some (.string ⟨x9.toArray⟩) by
          obtain ⟨ad', x', e1, e2, e3⟩ := hcell W hW
          cases e1
          rw [hp] at e2
          cases e2
          exact e3)
        clear hcell hx9
        obtain ⟨f1, hf1⟩ : ∃ q, lsuf (statesL l) x9.tail = q := ⟨_, rfl⟩
        obtain ⟨f2, hf2⟩ : ∃ q, lsuf (statesL l) (x9 ++ [ch]) = q := ⟨_, rfl⟩
        obtain ⟨f3, hf3⟩ : ∃ q, osuf l (statesL l) x9.tail = q := ⟨_, rfl⟩
        obtain ⟨hz, hhz⟩ : ∃ q, hitsI l x9 = q := ⟨_, rfl⟩
        obtain ⟨hn, hhn⟩ : ∃ q, hz.length = q := ⟨_, rfl⟩
        have hhb : hn ≤ 12 := by rw [← hhn, ← hhz]; unfold hitsI; rw [List.length_map]; refine Nat.le_trans (List.length_filter_le _ _) ?_; rw [List.length_range, ← HLQ.out]; exact hlq12
        have cFA := fun (W : World) (hW : Pure' w4 W) => fail_ g tg b cap fb ob l S F O i x9 W (HLI4.out.pure hW) hp
        have cRFA := fun (W : World) (hW : Pure' w4 W) => rfail_ (some ad) n c3 _ l _ i x9 W (HSL.out.pure hW (Nat.le_refl _)) (by omega) HST.out hp (by omega)
        have cOU := fun (W : World) (hW : Pure' w4 W) => out_ g tg b cap fb ob l S F O i x9 W (HLI4.out.pure hW) hp
        have cROU := fun (W : World) (hW : Pure' w4 W) => rout_ (some ad) A2 n lqn c3 c2 _ _ l _ i x9 W (HSL.out.pure hW (Nat.le_refl _)) (HS4.out.pure hW (Nat.le_refl _)) (by omega) (by omega) HST.out hp (by omega)
        have cST := fun (W : World) (hW : Pure' w4 W) => step_ g tg b cap fb ob l S F O i x9 ch W (HLI4.out.pure hW) hp
        have cRST := fun (W : World) (hW : Pure' w4 W) => rstep_ (some ad) n c3 _ l _ i x9 ch W (HSL.out.pure hW (Nat.le_refl _)) hW.size (by omega) HST.out hp (by omega)
        have cHI := fun (W : World) (hW : Pure' w4 W) => hits_ g tg b cap fb ob l S F O i x9 W (HLI4.out.pure hW) hp (by omega)
        have cRHI := fun (W : World) (hW : Pure' w4 W) => rhits_ A2 lqn c2 _ l x9 W (HS4.out.pure hW (Nat.le_refl _)) hW.size (by omega) (by omega) (fun x hx => by have := HLP.out x hx; omega)
        rw [hf1] at cFA cRFA
        rw [hf2] at cST cRST
        rw [hf3] at cOU cROU
        rw [hhz, hhn] at cHI cRHI
        have cRFA := fun (W : World) (hW : Pure' w4 W) => (cRFA W hW).mono fun e w' h => show _ ∧ Pure' W w' from ⟨h.1, drewn_pure h.2⟩
        have cST := fun (W : World) (hW : Pure' w4 W) => (cST W hW).mono fun e w' h => show _ ∧ Pure' W w' from ⟨h.1, drewn_pure h.2⟩
        have cFA := Lib.hid cFA
        have cRFA := Lib.hid cRFA
        have cOU := Lib.hid cOU
        have cROU := Lib.hid cROU
        have cST := Lib.hid cST
        have cRST := Lib.hid cRST
        have cHI := Lib.hid cHI
        have cRHI := Lib.hid cRHI
        have HHN := Lib.hid hhn
        clear hp hf1 hf2 hf3 hhz hhn
        go_wp2_with fail
        refine (cOU.out _ HW.out).mono ?_
        rintro e w5 ⟨hcase, rfl⟩
        rcases hcase with ⟨rfl, ho⟩ | ⟨k, rfl, ho⟩
        · subst ho
          go_wp2_with fail
          refine (cROU.out _ HW.out).mono ?_
          rintro e w6 ⟨rfl, rfl⟩
          go_upto_region 12 with fail
          refine wp_region_held_drew (S := (fun W => Pure' w6 W)) (by kernel_rfl) ((Keeps.refl _ w6).drew) (fun hHeld => ?_)
          have HH := Lib.hid hHeld
          clear hHeld
          refine wpAnyH_take (i := 0) (oi := ⟨some 49, .move (.tmp 9), _, _, _, _⟩) (v := ?vv1) rfl (by kernel_rfl) (by kernel_rfl) (by kernel_rfl) (fun _ _ _ h => h) (Or.inl ⟨by rfl, ?hy1⟩) HH.out ?rr1
          case hy1 => intro W hSw; go_simp; try with_reducible rfl
          try simp only [Act.put, List.setIfInBounds_toArray, List.set_cons_zero, List.set_cons_succ]
          refine wpAnyH_take (i := 1) (oi := ⟨some 50, .move (.tmp 11), _, _, _, _⟩) (v := ?vv2) rfl (by kernel_rfl) (by kernel_rfl) (by kernel_rfl) (fun _ _ _ h => h) (Or.inl ⟨by rfl, ?hy2⟩) HH.out ?rr2
          case hy2 => intro W hSw; go_simp; try with_reducible rfl
          try simp only [Act.put, List.setIfInBounds_toArray, List.set_cons_zero, List.set_cons_succ]
          refine wpAnyH_take (i := 3) (oi := ⟨some 52, .move (.tmp 10), _, _, _, _⟩) (v := ?vv3) rfl (by kernel_rfl) (by kernel_rfl) (by kernel_rfl) (fun _ _ _ h => h) (Or.inl ⟨by rfl, ?hy3⟩) HH.out ?rr3
          case hy3 => intro W hSw; go_simp; try with_reducible rfl
          try simp only [Act.put, List.setIfInBounds_toArray, List.set_cons_zero, List.set_cons_succ]
          refine wpAnyH_take (i := 4) (oi := ⟨some 53, .move (.tmp 11), _, _, _, _⟩) (v := ?vv4) rfl (by kernel_rfl) (by kernel_rfl) (by kernel_rfl) (fun _ _ _ h => h) (Or.inl ⟨by rfl, ?hy4⟩) HH.out ?rr4
          case hy4 => intro W hSw; go_simp; try with_reducible rfl
          try simp only [Act.put, List.setIfInBounds_toArray, List.set_cons_zero, List.set_cons_succ]
          refine wpAnyH_ready (rs := [2]) (by kernel_rfl) (by simp) ?_
          refine AllReadyH.cons (o := ⟨some 51, .call { callee := .value (.func 38), args := #[.tmp 49, .tmp 50], argTypes := #[49, 3] }, _, _, _, _⟩) rfl (fun K hK => ?_) AllReadyH.nil
          go_simp
          go_at_call 38
          refine (cFA.out _ (HW.out.trans HH.out (fun _ _ hf => hf))).mono ?_
          rintro e wB ⟨rfl, rfl⟩
          go_wp2_with fail
          refine hK.out _ _ (HH.out) (fun hHeld => ?_)
          have HH := Lib.hid hHeld
          clear hHeld hK K
          try simp only [Act.put, List.setIfInBounds_toArray, List.set_cons_zero, List.set_cons_succ]
          refine wpAnyH_ready (rs := [5]) (by kernel_rfl) (by simp) ?_
          refine AllReadyH.cons (o := ⟨some 54, .call { callee := .value (.func 39), args := #[.tmp 52, .tmp 53], argTypes := #[22, 3] }, _, _, _, _⟩) rfl (fun K hK => ?_) AllReadyH.nil
          go_simp
          go_at_call 39
          refine (cRFA.out _ (HW.out.trans HH.out (fun _ _ hf => hf))).mono ?_
          rintro e wB ⟨rfl, hk5⟩
          have HK5 := Lib.hid hk5
          clear hk5
          go_wp2_with fail
          refine hK.out _ _ (HH.out.trans HK5.out (fun _ _ hf => hf)) (fun hHeld => ?_)
          have HH := Lib.hid hHeld
          clear hHeld hK K
          try simp only [Act.put, List.setIfInBounds_toArray, List.set_cons_zero, List.set_cons_succ]
          refine wpAnyH_take (i := 6) (oi := ⟨some 55, .binOp .neq 3 (.tmp 51) (.tmp 54) 3, _, _, _, _⟩) (v := ?vv5) rfl (by kernel_rfl) (by kernel_rfl) (by kernel_rfl) (fun _ _ _ h => h) (Or.inl ⟨by rfl, ?hy5⟩) HH.out ?rr5
          case hy5 => intro W hSw; go_simp; try with_reducible rfl
          try simp only [Act.put, List.setIfInBounds_toArray, List.set_cons_zero, List.set_cons_succ]
          refine wpAnyH_take (i := 7) (oi := ⟨some 56, .move (.tmp 55), _, _, _, _⟩) (v := ?vv6) rfl (by kernel_rfl) (by kernel_rfl) (by kernel_rfl) (fun _ _ _ h => h) (Or.inl ⟨by rfl, ?hy6⟩) HH.out ?rr6
          case hy6 => intro W hSw; go_simp; try with_reducible rfl
          try simp only [Act.put, List.setIfInBounds_toArray, List.set_cons_zero, List.set_cons_succ]
          refine wpAnyH_take (i := 8) (oi := ⟨some 57, .move (.tmp 13), _, _, _, _⟩) (v := ?vv7) rfl (by kernel_rfl) (by kernel_rfl) (by kernel_rfl) (fun _ _ _ h => h) (Or.inl ⟨by rfl, ?hy7⟩) HH.out ?rr7
          case hy7 => intro W hSw; go_simp; try with_reducible rfl
          try simp only [Act.put, List.setIfInBounds_toArray, List.set_cons_zero, List.set_cons_succ]
          refine wpAnyH_take (i := 9) (oi := ⟨some 58, .move (.tmp 14), _, _, _, _⟩) (v := ?vv8) rfl (by kernel_rfl) (by kernel_rfl) (by kernel_rfl) (fun _ _ _ h => h) (Or.inl ⟨by rfl, ?hy8⟩) HH.out ?rr8
          case hy8 => intro W hSw; go_simp; try with_reducible rfl
          try simp only [Act.put, List.setIfInBounds_toArray, List.set_cons_zero, List.set_cons_succ]
          refine wpAnyH_take (i := 10) (oi := ⟨some 59, .binOp .geq 3 (.tmp 58) (.const (.int .i64 0)) 3, _, _, _, _⟩) (v := ?vv9) rfl (by kernel_rfl) (by kernel_rfl) (by kernel_rfl) (fun _ _ _ h => h) (Or.inl ⟨by rfl, ?hy9⟩) HH.out ?rr9
          case hy9 => intro W hSw; go_simp; try with_reducible rfl
          try simp only [Act.put, List.setIfInBounds_toArray, List.set_cons_zero, List.set_cons_succ]
          refine wpAnyH_take (i := 11) (oi := ⟨some 60, .binOp .neq 4 (.tmp 57) (.tmp 59) 4, _, _, _, _⟩) (v := ?vv10) rfl (by kernel_rfl) (by kernel_rfl) (by kernel_rfl) (fun _ _ _ h => h) (Or.inl ⟨by rfl, ?hy10⟩) HH.out ?rr10
          case hy10 => intro W hSw; go_simp; try with_reducible rfl
          try simp only [Act.put, List.setIfInBounds_toArray, List.set_cons_zero, List.set_cons_succ]
          refine wpAnyH_take (i := 12) (oi := ⟨some 61, .pick (.tmp 56) (.const (.bool true)) (.tmp 60), _, _, _, _⟩) (v := ?vv11) rfl (by kernel_rfl) (by kernel_rfl) (by kernel_rfl) (fun _ _ _ h => h) (Or.inl ⟨by rfl, ?hy11⟩) HH.out ?rr11
          case hy11 => intro W hSw; go_simp; try with_reducible rfl
          try simp only [Act.put, List.setIfInBounds_toArray, List.set_cons_zero, List.set_cons_succ]
          refine wpAnyH_take (i := 13) (oi := ⟨some 62, .move (.tmp 61), _, _, _, _⟩) (v := ?vv12) rfl (by kernel_rfl) (by kernel_rfl) (by kernel_rfl) (fun _ _ _ h => h) (Or.inl ⟨by rfl, ?hy12⟩) HH.out ?rr12
          case hy12 => intro W hSw; go_simp; try with_reducible rfl
          try simp only [Act.put, List.setIfInBounds_toArray, List.set_cons_zero, List.set_cons_succ]
          refine wpAnyH_take (i := 14) (oi := ⟨some 63, .move (.tmp 13), _, _, _, _⟩) (v := ?vv13) rfl (by kernel_rfl) (by kernel_rfl) (by kernel_rfl) (fun _ _ _ h => h) (Or.inl ⟨by rfl, ?hy13⟩) HH.out ?rr13
          case hy13 => intro W hSw; go_simp; try with_reducible rfl
          try simp only [Act.put, List.setIfInBounds_toArray, List.set_cons_zero, List.set_cons_succ]
          refine wpAnyH_take (i := 15) (oi := ⟨some 64, .move (.tmp 63), _, _, _, _⟩) (v := ?vv14) rfl (by kernel_rfl) (by kernel_rfl) (by kernel_rfl) (fun _ _ _ h => h) (Or.inl ⟨by rfl, ?hy14⟩) HH.out ?rr14
          case hy14 => intro W hSw; go_simp; try with_reducible rfl
          try simp only [Act.put, List.setIfInBounds_toArray, List.set_cons_zero, List.set_cons_succ]
          refine wpAnyH_take (i := 16) (oi := ⟨some 65, .move (.tmp 12), _, _, _, _⟩) (v := undef) rfl (by kernel_rfl) (by kernel_rfl) (by kernel_rfl) (fun _ _ _ h => h) (Or.inr ⟨by rfl, rfl⟩) HH.out ?_
          try simp only [Act.put, List.setIfInBounds_toArray, List.set_cons_zero, List.set_cons_succ]
          refine wpAnyH_take (i := 17) (oi := ⟨some 66, .move (.tmp 14), _, _, _, _⟩) (v := undef) rfl (by kernel_rfl) (by kernel_rfl) (by kernel_rfl) (fun _ _ _ h => h) (Or.inr ⟨by rfl, rfl⟩) HH.out ?_
          try simp only [Act.put, List.setIfInBounds_toArray, List.set_cons_zero, List.set_cons_succ]
          refine wpAnyH_take (i := 18) (oi := ⟨some 67, .binOp .neq 3 (.tmp 65) (.tmp 66) 3, _, _, _, _⟩) (v := undef) rfl (by kernel_rfl) (by kernel_rfl) (by kernel_rfl) (fun _ _ _ h => h) (Or.inr ⟨by rfl, rfl⟩) HH.out ?_
          try simp only [Act.put, List.setIfInBounds_toArray, List.set_cons_zero, List.set_cons_succ]
          refine wpAnyH_take (i := 19) (oi := ⟨some 68, .pick (.tmp 64) (.tmp 67) (.const (.bool false)), _, _, _, _⟩) (v := ?vv18) rfl (by kernel_rfl) (by kernel_rfl) (by kernel_rfl) (fun _ _ _ h => h) (Or.inl ⟨by rfl, ?hy18⟩) HH.out ?rr18
          case hy18 => intro W hSw; go_simp; try with_reducible rfl
          try simp only [Act.put, List.setIfInBounds_toArray, List.set_cons_zero, List.set_cons_succ]
          refine wpAnyH_take (i := 20) (oi := ⟨some 69, .pick (.tmp 62) (.const (.bool true)) (.tmp 68), _, _, _, _⟩) (v := ?vv19) rfl (by kernel_rfl) (by kernel_rfl) (by kernel_rfl) (fun _ _ _ h => h) (Or.inl ⟨by rfl, ?hy19⟩) HH.out ?rr19
          case hy19 => intro W hSw; go_simp; try with_reducible rfl
          try simp only [Act.put, List.setIfInBounds_toArray, List.set_cons_zero, List.set_cons_succ]
          refine wpAnyH_take (i := 21) (oi := ⟨some 70, .move (.tmp 69), _, _, _, _⟩) (v := ?vv20) rfl (by kernel_rfl) (by kernel_rfl) (by kernel_rfl) (fun _ _ _ h => h) (Or.inl ⟨by rfl, ?hy20⟩) HH.out ?rr20
          case hy20 => intro W hSw; go_simp; try with_reducible rfl
          try simp only [Act.put, List.setIfInBounds_toArray, List.set_cons_zero, List.set_cons_succ]
          refine wpAnyH_take (i := 22) (oi := ⟨some 71, .move (.tmp 13), _, _, _, _⟩) (v := ?vv21) rfl (by kernel_rfl) (by kernel_rfl) (by kernel_rfl) (fun _ _ _ h => h) (Or.inl ⟨by rfl, ?hy21⟩) HH.out ?rr21
          case hy21 => intro W hSw; go_simp; try with_reducible rfl
          try simp only [Act.put, List.setIfInBounds_toArray, List.set_cons_zero, List.set_cons_succ]
          refine wpAnyH_take (i := 23) (oi := ⟨some 72, .unOp .not 4 (.tmp 71), _, _, _, _⟩) (v := ?vv22) rfl (by kernel_rfl) (by kernel_rfl) (by kernel_rfl) (fun _ _ _ h => h) (Or.inl ⟨by rfl, ?hy22⟩) HH.out ?rr22
          case hy22 => intro W hSw; go_simp; try with_reducible rfl
          try simp only [Act.put, List.setIfInBounds_toArray, List.set_cons_zero, List.set_cons_succ]
          refine wpAnyH_take (i := 24) (oi := ⟨some 73, .move (.tmp 72), _, _, _, _⟩) (v := ?vv23) rfl (by kernel_rfl) (by kernel_rfl) (by kernel_rfl) (fun _ _ _ h => h) (Or.inl ⟨by rfl, ?hy23⟩) HH.out ?rr23
          case hy23 => intro W hSw; go_simp; try with_reducible rfl
          try simp only [Act.put, List.setIfInBounds_toArray, List.set_cons_zero, List.set_cons_succ]
          refine wpAnyH_take (i := 25) (oi := ⟨some 74, .move (.tmp 12), _, _, _, _⟩) (v := ?vv24) rfl (by kernel_rfl) (by kernel_rfl) (by kernel_rfl) (fun _ _ _ h => h) (Or.inl ⟨by rfl, ?hy24⟩) HH.out ?rr24
          case hy24 => intro W hSw; go_simp; try with_reducible rfl
          try simp only [Act.put, List.setIfInBounds_toArray, List.set_cons_zero, List.set_cons_succ]
          refine wpAnyH_take (i := 26) (oi := ⟨some 75, .binOp .neq 3 (.tmp 74) (.const (.int .i64 0)) 3, _, _, _, _⟩) (v := ?vv25) rfl (by kernel_rfl) (by kernel_rfl) (by kernel_rfl) (fun _ _ _ h => h) (Or.inl ⟨by rfl, ?hy25⟩) HH.out ?rr25
          case hy25 => intro W hSw; go_simp; try with_reducible rfl
          try simp only [Act.put, List.setIfInBounds_toArray, List.set_cons_zero, List.set_cons_succ]
          refine wpAnyH_take (i := 27) (oi := ⟨some 76, .pick (.tmp 73) (.tmp 75) (.const (.bool false)), _, _, _, _⟩) (v := ?vv26) rfl (by kernel_rfl) (by kernel_rfl) (by kernel_rfl) (fun _ _ _ h => h) (Or.inl ⟨by rfl, ?hy26⟩) HH.out ?rr26
          case hy26 => intro W hSw; go_simp; try with_reducible rfl
          try simp only [Act.put, List.setIfInBounds_toArray, List.set_cons_zero, List.set_cons_succ]
          refine wpAnyH_take (i := 28) (oi := ⟨some 77, .pick (.tmp 70) (.const (.bool true)) (.tmp 76), _, _, _, _⟩) (v := ?vv27) rfl (by kernel_rfl) (by kernel_rfl) (by kernel_rfl) (fun _ _ _ h => h) (Or.inl ⟨by rfl, ?hy27⟩) HH.out ?rr27
          case hy27 => intro W hSw; go_simp; try with_reducible rfl
          try simp only [Act.put, List.setIfInBounds_toArray, List.set_cons_zero, List.set_cons_succ]
          refine wpAnyH_take (i := 29) (oi := ⟨some 78, .move (.tmp 77), _, _, _, _⟩) (v := ?vv28) rfl (by kernel_rfl) (by kernel_rfl) (by kernel_rfl) (fun _ _ _ h => h) (Or.inl ⟨by rfl, ?hy28⟩) HH.out ?rr28
          case hy28 => intro W hSw; go_simp; try with_reducible rfl
          try simp only [Act.put, List.setIfInBounds_toArray, List.set_cons_zero, List.set_cons_succ]
          refine wpAnyH_take (i := 30) (oi := ⟨some 79, .move (.tmp 9), _, _, _, _⟩) (v := ?vv29) rfl (by kernel_rfl) (by kernel_rfl) (by kernel_rfl) (fun _ _ _ h => h) (Or.inl ⟨by rfl, ?hy29⟩) HH.out ?rr29
          case hy29 => intro W hSw; go_simp; try with_reducible rfl
          try simp only [Act.put, List.setIfInBounds_toArray, List.set_cons_zero, List.set_cons_succ]
          refine wpAnyH_take (i := 31) (oi := ⟨some 80, .move (.tmp 11), _, _, _, _⟩) (v := ?vv30) rfl (by kernel_rfl) (by kernel_rfl) (by kernel_rfl) (fun _ _ _ h => h) (Or.inl ⟨by rfl, ?hy30⟩) HH.out ?rr30
          case hy30 => intro W hSw; go_simp; try with_reducible rfl
          try simp only [Act.put, List.setIfInBounds_toArray, List.set_cons_zero, List.set_cons_succ]
          refine wpAnyH_take (i := 32) (oi := ⟨some 81, .move (.tmp 1), _, _, _, _⟩) (v := ?vv31) rfl (by kernel_rfl) (by kernel_rfl) (by kernel_rfl) (fun _ _ _ h => h) (Or.inl ⟨by rfl, ?hy31⟩) HH.out ?rr31
          case hy31 => intro W hSw; go_simp; try with_reducible rfl
          try simp only [Act.put, List.setIfInBounds_toArray, List.set_cons_zero, List.set_cons_succ]
          refine wpAnyH_take (i := 34) (oi := ⟨some 83, .move (.tmp 10), _, _, _, _⟩) (v := ?vv32) rfl (by kernel_rfl) (by kernel_rfl) (by kernel_rfl) (fun _ _ _ h => h) (Or.inl ⟨by rfl, ?hy32⟩) HH.out ?rr32
          case hy32 => intro W hSw; go_simp; try with_reducible rfl
          try simp only [Act.put, List.setIfInBounds_toArray, List.set_cons_zero, List.set_cons_succ]
          refine wpAnyH_take (i := 35) (oi := ⟨some 84, .move (.tmp 11), _, _, _, _⟩) (v := ?vv33) rfl (by kernel_rfl) (by kernel_rfl) (by kernel_rfl) (fun _ _ _ h => h) (Or.inl ⟨by rfl, ?hy33⟩) HH.out ?rr33
          case hy33 => intro W hSw; go_simp; try with_reducible rfl
          try simp only [Act.put, List.setIfInBounds_toArray, List.set_cons_zero, List.set_cons_succ]
          refine wpAnyH_take (i := 36) (oi := ⟨some 85, .move (.tmp 1), _, _, _, _⟩) (v := ?vv34) rfl (by kernel_rfl) (by kernel_rfl) (by kernel_rfl) (fun _ _ _ h => h) (Or.inl ⟨by rfl, ?hy34⟩) HH.out ?rr34
          case hy34 => intro W hSw; go_simp; try with_reducible rfl
          try simp only [Act.put, List.setIfInBounds_toArray, List.set_cons_zero, List.set_cons_succ]
          refine wpAnyH_ready (rs := [33]) (by kernel_rfl) (by simp) ?_
          refine AllReadyH.cons (o := ⟨some 82, .call { callee := .value (.func 32), args := #[.tmp 79, .tmp 80, .tmp 81], argTypes := #[49, 3, 5] }, _, _, _, _⟩) rfl (fun K hK => ?_) AllReadyH.nil
          go_simp
          go_at_call 32
          refine (cST.out _ (HW.out.trans HH.out (fun _ _ hf => hf))).mono ?_
          rintro e wB ⟨rfl, hk33⟩
          have HK33 := Lib.hid hk33
          clear hk33
          go_wp2_with fail
          refine hK.out _ _ (HH.out.trans HK33.out (fun _ _ hf => hf)) (fun hHeld => ?_)
          have HH := Lib.hid hHeld
          clear hHeld hK K
          try simp only [Act.put, List.setIfInBounds_toArray, List.set_cons_zero, List.set_cons_succ]
          refine wpAnyH_ready (rs := [37]) (by kernel_rfl) (by simp) ?_
          refine AllReadyH.cons (o := ⟨some 86, .call { callee := .value (.func 40), args := #[.tmp 83, .tmp 84, .tmp 85], argTypes := #[22, 3, 5] }, _, _, _, _⟩) rfl (fun K hK => ?_) AllReadyH.nil
          go_simp
          go_at_call 40
          refine (cRST.out _ (HW.out.trans HH.out (fun _ _ hf => hf))).mono ?_
          rintro e wB ⟨rfl, hk37⟩
          have HK37 := Lib.hid hk37
          clear hk37
          go_wp2_with fail
          refine hK.out _ _ (HH.out.trans HK37.out (fun _ _ hf => hf)) (fun hHeld => ?_)
          have HH := Lib.hid hHeld
          clear hHeld hK K
          try simp only [Act.put, List.setIfInBounds_toArray, List.set_cons_zero, List.set_cons_succ]
          refine wpAnyH_take (i := 38) (oi := ⟨some 87, .binOp .neq 3 (.tmp 82) (.tmp 86) 3, _, _, _, _⟩) (v := ?vv35) rfl (by kernel_rfl) (by kernel_rfl) (by kernel_rfl) (fun _ _ _ h => h) (Or.inl ⟨by rfl, ?hy35⟩) HH.out ?rr35
          case hy35 => intro W hSw; go_simp; try with_reducible rfl
          try simp only [Act.put, List.setIfInBounds_toArray, List.set_cons_zero, List.set_cons_succ]
          refine wpAnyH_take (i := 39) (oi := ⟨some 88, .pick (.tmp 78) (.const (.bool true)) (.tmp 87), _, _, _, _⟩) (v := ?vv36) rfl (by kernel_rfl) (by kernel_rfl) (by kernel_rfl) (fun _ _ _ h => h) (Or.inl ⟨by rfl, ?hy36⟩) HH.out ?rr36
          case hy36 => intro W hSw; go_simp; try with_reducible rfl
          try simp only [Act.put, List.setIfInBounds_toArray, List.set_cons_zero, List.set_cons_succ]
          refine wpAnyH_take (i := 40) (oi := ⟨some 89, .move (.tmp 88), _, _, _, _⟩) (v := ?vv37) rfl (by kernel_rfl) (by kernel_rfl) (by kernel_rfl) (fun _ _ _ h => h) (Or.inl ⟨by rfl, ?hy37⟩) HH.out ?rr37
          case hy37 => intro W hSw; go_simp; try with_reducible rfl
          try simp only [Act.put, List.setIfInBounds_toArray, List.set_cons_zero, List.set_cons_succ]
          refine wpAnyH_take (i := 41) (oi := ⟨some 90, .move (.tmp 9), _, _, _, _⟩) (v := ?vv38) rfl (by kernel_rfl) (by kernel_rfl) (by kernel_rfl) (fun _ _ _ h => h) (Or.inl ⟨by rfl, ?hy38⟩) HH.out ?rr38
          case hy38 => intro W hSw; go_simp; try with_reducible rfl
          try simp only [Act.put, List.setIfInBounds_toArray, List.set_cons_zero, List.set_cons_succ]
          refine wpAnyH_take (i := 42) (oi := ⟨some 91, .move (.tmp 11), _, _, _, _⟩) (v := ?vv39) rfl (by kernel_rfl) (by kernel_rfl) (by kernel_rfl) (fun _ _ _ h => h) (Or.inl ⟨by rfl, ?hy39⟩) HH.out ?rr39
          case hy39 => intro W hSw; go_simp; try with_reducible rfl
          try simp only [Act.put, List.setIfInBounds_toArray, List.set_cons_zero, List.set_cons_succ]
          refine wpAnyH_take (i := 44) (oi := ⟨some 93, .move (.tmp 7), _, _, _, _⟩) (v := ?vv40) rfl (by kernel_rfl) (by kernel_rfl) (by kernel_rfl) (fun _ _ _ h => h) (Or.inl ⟨by rfl, ?hy40⟩) HH.out ?rr40
          case hy40 => intro W hSw; go_simp; try with_reducible rfl
          try simp only [Act.put, List.setIfInBounds_toArray, List.set_cons_zero, List.set_cons_succ]
          refine wpAnyH_take (i := 45) (oi := ⟨some 94, .move (.tmp 10), _, _, _, _⟩) (v := ?vv41) rfl (by kernel_rfl) (by kernel_rfl) (by kernel_rfl) (fun _ _ _ h => h) (Or.inl ⟨by rfl, ?hy41⟩) HH.out ?rr41
          case hy41 => intro W hSw; go_simp; try with_reducible rfl
          try simp only [Act.put, List.setIfInBounds_toArray, List.set_cons_zero, List.set_cons_succ]
          refine wpAnyH_take (i := 46) (oi := ⟨some 95, .move (.tmp 11), _, _, _, _⟩) (v := ?vv42) rfl (by kernel_rfl) (by kernel_rfl) (by kernel_rfl) (fun _ _ _ h => h) (Or.inl ⟨by rfl, ?hy42⟩) HH.out ?rr42
          case hy42 => intro W hSw; go_simp; try with_reducible rfl
          try simp only [Act.put, List.setIfInBounds_toArray, List.set_cons_zero, List.set_cons_succ]
          refine wpAnyH_take (i := 47) (oi := ⟨some 96, .indexAddr 22 (.tmp 94) (.tmp 95), _, _, _, _⟩) (v := ?vv43) rfl (by kernel_rfl) (by kernel_rfl) (by kernel_rfl) (fun _ _ _ h => h) (Or.inl ⟨by rfl, ?hy43⟩) HH.out ?rr43
          case hy43 => intro W hSw; go_simp; try with_reducible rfl
          try simp only [Act.put, List.setIfInBounds_toArray, List.set_cons_zero, List.set_cons_succ]
          refine wpAnyH_take (i := 48) (oi := ⟨some 97, .load 9 (.tmp 96), _, _, _, _⟩) (v := ?vv44) rfl (by kernel_rfl) (by kernel_rfl) (by kernel_rfl) (fun _ _ _ h => h) (Or.inl ⟨by rfl, ?hy44⟩) HH.out ?rr44
          case hy44 => intro W hSw; have y := HX.out W (HW.out.trans hSw (fun _ _ hf => hf)); go_simp; try with_reducible rfl
          try simp only [Act.put, List.setIfInBounds_toArray, List.set_cons_zero, List.set_cons_succ]
          refine wpAnyH_ready (rs := [43]) (by kernel_rfl) (by simp) ?_
          refine AllReadyH.cons (o := ⟨some 92, .call { callee := .value (.func 34), args := #[.tmp 90, .tmp 91], argTypes := #[49, 3] }, _, _, _, _⟩) rfl (fun K hK => ?_) AllReadyH.nil
          go_simp
          go_at_call 34
          refine (cHI.out _ (HW.out.trans HH.out (fun _ _ hf => hf))).mono ?_
          rintro e wC ⟨A43, c43, rfl, hnm⟩
          have HN43 := Lib.hid hnm
          clear hnm
          go_wp2_with fail
          refine hK.out _ _ (HH.out.trans HN43.out.pure (fun _ _ hf => hf)) (fun hHeld => ?_)
          have HH := Lib.hid hHeld
          clear hHeld hK K
          try simp only [Act.put, List.setIfInBounds_toArray, List.set_cons_zero, List.set_cons_succ]
          refine wpAnyH_ready (rs := [49]) (by kernel_rfl) (by simp) ?_
          refine AllReadyH.cons (o := ⟨some 98, .call { callee := .value (.func 35), args := #[.tmp 93, .tmp 97], argTypes := #[22, 9] }, _, _, _, _⟩) rfl (fun K hK => ?_) AllReadyH.nil
          go_simp
          go_at_call 35
          refine (cRHI.out _ (HW.out.trans HH.out (fun _ _ hf => hf))).mono ?_
          rintro e wD ⟨A49, c49, rfl, hnm⟩
          have HN49 := Lib.hid hnm
          clear hnm
          go_wp2_with fail
          refine hK.out _ _ (HH.out.trans HN49.out.pure (fun _ _ hf => hf)) (fun hHeld => ?_)
          have HH := Lib.hid hHeld
          clear hHeld hK K
          try simp only [Act.put, List.setIfInBounds_toArray, List.set_cons_zero, List.set_cons_succ]
          refine wpAnyH_ready (rs := [50]) (by kernel_rfl) (by simp) ?_
          refine AllReadyH.cons (o := ⟨some 99, .call { callee := .value (.func 21), args := #[.tmp 92, .tmp 98], argTypes := #[41, 41] }, _, _, _, _⟩) rfl (fun K hK => ?_) AllReadyH.nil
          go_simp
          go_at_call 21
          refine (rsame_ A43 A49 hn c43 c49 _ _ hz _ (by have := HN43.out.row.keep HN49.out.pure (fun _ _ hf => hf); rw [HHN.out] at this; exact this.sees) (by have := HN49.out.row; rw [HHN.out] at this; exact this.sees) (by omega)).mono ?_
          rintro e wE ⟨rfl, hk50⟩
          have HK50 := Lib.hid (drewn_pure hk50)
          clear hk50
          go_wp2_with fail
          refine hK.out _ _ (HH.out.trans HK50.out (fun _ _ hf => hf)) (fun hHeld => ?_)
          have HH := Lib.hid hHeld
          clear hHeld hK K
          try simp only [Act.put, List.setIfInBounds_toArray, List.set_cons_zero, List.set_cons_succ]
          refine wpAnyH_take (i := 51) (oi := ⟨some 100, .unOp .not 4 (.tmp 99), _, _, _, _⟩) (v := ?vv45) rfl (by kernel_rfl) (by kernel_rfl) (by kernel_rfl) (fun _ _ _ h => h) (Or.inl ⟨by rfl, ?hy45⟩) HH.out ?rr45
          case hy45 => intro W hSw; go_simp; try with_reducible rfl
          try simp only [Act.put, List.setIfInBounds_toArray, List.set_cons_zero, List.set_cons_succ]
          refine wpAnyH_take (i := 52) (oi := ⟨some 101, .pick (.tmp 89) (.const (.bool true)) (.tmp 100), _, _, _, _⟩) (v := ?vv46) rfl (by kernel_rfl) (by kernel_rfl) (by kernel_rfl) (fun _ _ _ h => h) (Or.inl ⟨by rfl, ?hy46⟩) HH.out ?rr46
          case hy46 => intro W hSw; go_simp; try with_reducible rfl
          try simp only [Act.put, List.setIfInBounds_toArray, List.set_cons_zero, List.set_cons_succ]
          refine wpAnyH_done (by kernel_rfl) ?_ _
          go_wp2
          go_roundg g3
          case measure => omega
          case rel => exact ⟨i + 1, by omega, by go_num, Lib.hid (HW.out.trans HH.out (fun _ _ hf => hf))⟩
        · subst ho
          have hk0 : (0 : Int) ≤ (k : Int) := by omega
          go_wp2_with fail
          refine (cROU.out _ HW.out).mono ?_
          rintro e w6 ⟨rfl, rfl⟩
          go_upto_region 12 with fail
          refine wp_region_held_drew (S := (fun W => Pure' w6 W)) (by kernel_rfl) ((Keeps.refl _ w6).drew) (fun hHeld => ?_)
          have HH := Lib.hid hHeld
          clear hHeld
          refine wpAnyH_take (i := 0) (oi := ⟨some 49, .move (.tmp 9), _, _, _, _⟩) (v := ?vv47) rfl (by kernel_rfl) (by kernel_rfl) (by kernel_rfl) (fun _ _ _ h => h) (Or.inl ⟨by rfl, ?hy47⟩) HH.out ?rr47
          case hy47 => intro W hSw; go_simp; try with_reducible rfl
          try simp only [Act.put, List.setIfInBounds_toArray, List.set_cons_zero, List.set_cons_succ]
          refine wpAnyH_take (i := 1) (oi := ⟨some 50, .move (.tmp 11), _, _, _, _⟩) (v := ?vv48) rfl (by kernel_rfl) (by kernel_rfl) (by kernel_rfl) (fun _ _ _ h => h) (Or.inl ⟨by rfl, ?hy48⟩) HH.out ?rr48
          case hy48 => intro W hSw; go_simp; try with_reducible rfl
          try simp only [Act.put, List.setIfInBounds_toArray, List.set_cons_zero, List.set_cons_succ]
          refine wpAnyH_take (i := 3) (oi := ⟨some 52, .move (.tmp 10), _, _, _, _⟩) (v := ?vv49) rfl (by kernel_rfl) (by kernel_rfl) (by kernel_rfl) (fun _ _ _ h => h) (Or.inl ⟨by rfl, ?hy49⟩) HH.out ?rr49
          case hy49 => intro W hSw; go_simp; try with_reducible rfl
          try simp only [Act.put, List.setIfInBounds_toArray, List.set_cons_zero, List.set_cons_succ]
          refine wpAnyH_take (i := 4) (oi := ⟨some 53, .move (.tmp 11), _, _, _, _⟩) (v := ?vv50) rfl (by kernel_rfl) (by kernel_rfl) (by kernel_rfl) (fun _ _ _ h => h) (Or.inl ⟨by rfl, ?hy50⟩) HH.out ?rr50
          case hy50 => intro W hSw; go_simp; try with_reducible rfl
          try simp only [Act.put, List.setIfInBounds_toArray, List.set_cons_zero, List.set_cons_succ]
          refine wpAnyH_ready (rs := [2]) (by kernel_rfl) (by simp) ?_
          refine AllReadyH.cons (o := ⟨some 51, .call { callee := .value (.func 38), args := #[.tmp 49, .tmp 50], argTypes := #[49, 3] }, _, _, _, _⟩) rfl (fun K hK => ?_) AllReadyH.nil
          go_simp
          go_at_call 38
          refine (cFA.out _ (HW.out.trans HH.out (fun _ _ hf => hf))).mono ?_
          rintro e wB ⟨rfl, rfl⟩
          go_wp2_with fail
          refine hK.out _ _ (HH.out) (fun hHeld => ?_)
          have HH := Lib.hid hHeld
          clear hHeld hK K
          try simp only [Act.put, List.setIfInBounds_toArray, List.set_cons_zero, List.set_cons_succ]
          refine wpAnyH_ready (rs := [5]) (by kernel_rfl) (by simp) ?_
          refine AllReadyH.cons (o := ⟨some 54, .call { callee := .value (.func 39), args := #[.tmp 52, .tmp 53], argTypes := #[22, 3] }, _, _, _, _⟩) rfl (fun K hK => ?_) AllReadyH.nil
          go_simp
          go_at_call 39
          refine (cRFA.out _ (HW.out.trans HH.out (fun _ _ hf => hf))).mono ?_
          rintro e wB ⟨rfl, hk5⟩
          have HK5 := Lib.hid hk5
          clear hk5
          go_wp2_with fail
          refine hK.out _ _ (HH.out.trans HK5.out (fun _ _ hf => hf)) (fun hHeld => ?_)
          have HH := Lib.hid hHeld
          clear hHeld hK K
          try simp only [Act.put, List.setIfInBounds_toArray, List.set_cons_zero, List.set_cons_succ]
          refine wpAnyH_take (i := 6) (oi := ⟨some 55, .binOp .neq 3 (.tmp 51) (.tmp 54) 3, _, _, _, _⟩) (v := ?vv51) rfl (by kernel_rfl) (by kernel_rfl) (by kernel_rfl) (fun _ _ _ h => h) (Or.inl ⟨by rfl, ?hy51⟩) HH.out ?rr51
          case hy51 => intro W hSw; go_simp; try with_reducible rfl
          try simp only [Act.put, List.setIfInBounds_toArray, List.set_cons_zero, List.set_cons_succ]
          refine wpAnyH_take (i := 7) (oi := ⟨some 56, .move (.tmp 55), _, _, _, _⟩) (v := ?vv52) rfl (by kernel_rfl) (by kernel_rfl) (by kernel_rfl) (fun _ _ _ h => h) (Or.inl ⟨by rfl, ?hy52⟩) HH.out ?rr52
          case hy52 => intro W hSw; go_simp; try with_reducible rfl
          try simp only [Act.put, List.setIfInBounds_toArray, List.set_cons_zero, List.set_cons_succ]
          refine wpAnyH_take (i := 8) (oi := ⟨some 57, .move (.tmp 13), _, _, _, _⟩) (v := ?vv53) rfl (by kernel_rfl) (by kernel_rfl) (by kernel_rfl) (fun _ _ _ h => h) (Or.inl ⟨by rfl, ?hy53⟩) HH.out ?rr53
          case hy53 => intro W hSw; go_simp; try with_reducible rfl
          try simp only [Act.put, List.setIfInBounds_toArray, List.set_cons_zero, List.set_cons_succ]
          refine wpAnyH_take (i := 9) (oi := ⟨some 58, .move (.tmp 14), _, _, _, _⟩) (v := ?vv54) rfl (by kernel_rfl) (by kernel_rfl) (by kernel_rfl) (fun _ _ _ h => h) (Or.inl ⟨by rfl, ?hy54⟩) HH.out ?rr54
          case hy54 => intro W hSw; go_simp; try with_reducible rfl
          try simp only [Act.put, List.setIfInBounds_toArray, List.set_cons_zero, List.set_cons_succ]
          refine wpAnyH_take (i := 10) (oi := ⟨some 59, .binOp .geq 3 (.tmp 58) (.const (.int .i64 0)) 3, _, _, _, _⟩) (v := ?vv55) rfl (by kernel_rfl) (by kernel_rfl) (by kernel_rfl) (fun _ _ _ h => h) (Or.inl ⟨by rfl, ?hy55⟩) HH.out ?rr55
          case hy55 => intro W hSw; go_simp; try with_reducible rfl
          try simp only [Act.put, List.setIfInBounds_toArray, List.set_cons_zero, List.set_cons_succ]
          refine wpAnyH_take (i := 11) (oi := ⟨some 60, .binOp .neq 4 (.tmp 57) (.tmp 59) 4, _, _, _, _⟩) (v := ?vv56) rfl (by kernel_rfl) (by kernel_rfl) (by kernel_rfl) (fun _ _ _ h => h) (Or.inl ⟨by rfl, ?hy56⟩) HH.out ?rr56
          case hy56 => intro W hSw; go_simp; try with_reducible rfl
          try simp only [Act.put, List.setIfInBounds_toArray, List.set_cons_zero, List.set_cons_succ]
          refine wpAnyH_take (i := 12) (oi := ⟨some 61, .pick (.tmp 56) (.const (.bool true)) (.tmp 60), _, _, _, _⟩) (v := ?vv57) rfl (by kernel_rfl) (by kernel_rfl) (by kernel_rfl) (fun _ _ _ h => h) (Or.inl ⟨by rfl, ?hy57⟩) HH.out ?rr57
          case hy57 => intro W hSw; go_simp; try with_reducible rfl
          try simp only [Act.put, List.setIfInBounds_toArray, List.set_cons_zero, List.set_cons_succ]
          refine wpAnyH_take (i := 13) (oi := ⟨some 62, .move (.tmp 61), _, _, _, _⟩) (v := ?vv58) rfl (by kernel_rfl) (by kernel_rfl) (by kernel_rfl) (fun _ _ _ h => h) (Or.inl ⟨by rfl, ?hy58⟩) HH.out ?rr58
          case hy58 => intro W hSw; go_simp; try with_reducible rfl
          try simp only [Act.put, List.setIfInBounds_toArray, List.set_cons_zero, List.set_cons_succ]
          refine wpAnyH_take (i := 14) (oi := ⟨some 63, .move (.tmp 13), _, _, _, _⟩) (v := ?vv59) rfl (by kernel_rfl) (by kernel_rfl) (by kernel_rfl) (fun _ _ _ h => h) (Or.inl ⟨by rfl, ?hy59⟩) HH.out ?rr59
          case hy59 => intro W hSw; go_simp; try with_reducible rfl
          try simp only [Act.put, List.setIfInBounds_toArray, List.set_cons_zero, List.set_cons_succ]
          refine wpAnyH_take (i := 15) (oi := ⟨some 64, .move (.tmp 63), _, _, _, _⟩) (v := ?vv60) rfl (by kernel_rfl) (by kernel_rfl) (by kernel_rfl) (fun _ _ _ h => h) (Or.inl ⟨by rfl, ?hy60⟩) HH.out ?rr60
          case hy60 => intro W hSw; go_simp; try with_reducible rfl
          try simp only [Act.put, List.setIfInBounds_toArray, List.set_cons_zero, List.set_cons_succ]
          refine wpAnyH_take (i := 16) (oi := ⟨some 65, .move (.tmp 12), _, _, _, _⟩) (v := ?vv61) rfl (by kernel_rfl) (by kernel_rfl) (by kernel_rfl) (fun _ _ _ h => h) (Or.inl ⟨by rfl, ?hy61⟩) HH.out ?rr61
          case hy61 => intro W hSw; go_simp; try with_reducible rfl
          try simp only [Act.put, List.setIfInBounds_toArray, List.set_cons_zero, List.set_cons_succ]
          refine wpAnyH_take (i := 17) (oi := ⟨some 66, .move (.tmp 14), _, _, _, _⟩) (v := ?vv62) rfl (by kernel_rfl) (by kernel_rfl) (by kernel_rfl) (fun _ _ _ h => h) (Or.inl ⟨by rfl, ?hy62⟩) HH.out ?rr62
          case hy62 => intro W hSw; go_simp; try with_reducible rfl
          try simp only [Act.put, List.setIfInBounds_toArray, List.set_cons_zero, List.set_cons_succ]
          refine wpAnyH_take (i := 18) (oi := ⟨some 67, .binOp .neq 3 (.tmp 65) (.tmp 66) 3, _, _, _, _⟩) (v := ?vv63) rfl (by kernel_rfl) (by kernel_rfl) (by kernel_rfl) (fun _ _ _ h => h) (Or.inl ⟨by rfl, ?hy63⟩) HH.out ?rr63
          case hy63 => intro W hSw; go_simp; try with_reducible rfl
          try simp only [Act.put, List.setIfInBounds_toArray, List.set_cons_zero, List.set_cons_succ]
          refine wpAnyH_take (i := 19) (oi := ⟨some 68, .pick (.tmp 64) (.tmp 67) (.const (.bool false)), _, _, _, _⟩) (v := ?vv64) rfl (by kernel_rfl) (by kernel_rfl) (by kernel_rfl) (fun _ _ _ h => h) (Or.inl ⟨by rfl, ?hy64⟩) HH.out ?rr64
          case hy64 => intro W hSw; go_simp; try with_reducible rfl
          try simp only [Act.put, List.setIfInBounds_toArray, List.set_cons_zero, List.set_cons_succ]
          refine wpAnyH_take (i := 20) (oi := ⟨some 69, .pick (.tmp 62) (.const (.bool true)) (.tmp 68), _, _, _, _⟩) (v := ?vv65) rfl (by kernel_rfl) (by kernel_rfl) (by kernel_rfl) (fun _ _ _ h => h) (Or.inl ⟨by rfl, ?hy65⟩) HH.out ?rr65
          case hy65 => intro W hSw; go_simp; try with_reducible rfl
          try simp only [Act.put, List.setIfInBounds_toArray, List.set_cons_zero, List.set_cons_succ]
          refine wpAnyH_take (i := 21) (oi := ⟨some 70, .move (.tmp 69), _, _, _, _⟩) (v := ?vv66) rfl (by kernel_rfl) (by kernel_rfl) (by kernel_rfl) (fun _ _ _ h => h) (Or.inl ⟨by rfl, ?hy66⟩) HH.out ?rr66
          case hy66 => intro W hSw; go_simp; try with_reducible rfl
          try simp only [Act.put, List.setIfInBounds_toArray, List.set_cons_zero, List.set_cons_succ]
          refine wpAnyH_take (i := 22) (oi := ⟨some 71, .move (.tmp 13), _, _, _, _⟩) (v := ?vv67) rfl (by kernel_rfl) (by kernel_rfl) (by kernel_rfl) (fun _ _ _ h => h) (Or.inl ⟨by rfl, ?hy67⟩) HH.out ?rr67
          case hy67 => intro W hSw; go_simp; try with_reducible rfl
          try simp only [Act.put, List.setIfInBounds_toArray, List.set_cons_zero, List.set_cons_succ]
          refine wpAnyH_take (i := 23) (oi := ⟨some 72, .unOp .not 4 (.tmp 71), _, _, _, _⟩) (v := ?vv68) rfl (by kernel_rfl) (by kernel_rfl) (by kernel_rfl) (fun _ _ _ h => h) (Or.inl ⟨by rfl, ?hy68⟩) HH.out ?rr68
          case hy68 => intro W hSw; go_simp; try with_reducible rfl
          try simp only [Act.put, List.setIfInBounds_toArray, List.set_cons_zero, List.set_cons_succ]
          refine wpAnyH_take (i := 24) (oi := ⟨some 73, .move (.tmp 72), _, _, _, _⟩) (v := ?vv69) rfl (by kernel_rfl) (by kernel_rfl) (by kernel_rfl) (fun _ _ _ h => h) (Or.inl ⟨by rfl, ?hy69⟩) HH.out ?rr69
          case hy69 => intro W hSw; go_simp; try with_reducible rfl
          try simp only [Act.put, List.setIfInBounds_toArray, List.set_cons_zero, List.set_cons_succ]
          refine wpAnyH_take (i := 25) (oi := ⟨some 74, .move (.tmp 12), _, _, _, _⟩) (v := undef) rfl (by kernel_rfl) (by kernel_rfl) (by kernel_rfl) (fun _ _ _ h => h) (Or.inr ⟨by rfl, rfl⟩) HH.out ?_
          try simp only [Act.put, List.setIfInBounds_toArray, List.set_cons_zero, List.set_cons_succ]
          refine wpAnyH_take (i := 26) (oi := ⟨some 75, .binOp .neq 3 (.tmp 74) (.const (.int .i64 0)) 3, _, _, _, _⟩) (v := undef) rfl (by kernel_rfl) (by kernel_rfl) (by kernel_rfl) (fun _ _ _ h => h) (Or.inr ⟨by rfl, rfl⟩) HH.out ?_
          try simp only [Act.put, List.setIfInBounds_toArray, List.set_cons_zero, List.set_cons_succ]
          refine wpAnyH_take (i := 27) (oi := ⟨some 76, .pick (.tmp 73) (.tmp 75) (.const (.bool false)), _, _, _, _⟩) (v := ?vv72) rfl (by kernel_rfl) (by kernel_rfl) (by kernel_rfl) (fun _ _ _ h => h) (Or.inl ⟨by rfl, ?hy72⟩) HH.out ?rr72
          case hy72 => intro W hSw; go_simp; try with_reducible rfl
          try simp only [Act.put, List.setIfInBounds_toArray, List.set_cons_zero, List.set_cons_succ]
          refine wpAnyH_take (i := 28) (oi := ⟨some 77, .pick (.tmp 70) (.const (.bool true)) (.tmp 76), _, _, _, _⟩) (v := ?vv73) rfl (by kernel_rfl) (by kernel_rfl) (by kernel_rfl) (fun _ _ _ h => h) (Or.inl ⟨by rfl, ?hy73⟩) HH.out ?rr73
          case hy73 => intro W hSw; go_simp; try with_reducible rfl
          try simp only [Act.put, List.setIfInBounds_toArray, List.set_cons_zero, List.set_cons_succ]
          refine wpAnyH_take (i := 29) (oi := ⟨some 78, .move (.tmp 77), _, _, _, _⟩) (v := ?vv74) rfl (by kernel_rfl) (by kernel_rfl) (by kernel_rfl) (fun _ _ _ h => h) (Or.inl ⟨by rfl, ?hy74⟩) HH.out ?rr74
          case hy74 => intro W hSw; go_simp; try with_reducible rfl
          try simp only [Act.put, List.setIfInBounds_toArray, List.set_cons_zero, List.set_cons_succ]
          refine wpAnyH_take (i := 30) (oi := ⟨some 79, .move (.tmp 9), _, _, _, _⟩) (v := ?vv75) rfl (by kernel_rfl) (by kernel_rfl) (by kernel_rfl) (fun _ _ _ h => h) (Or.inl ⟨by rfl, ?hy75⟩) HH.out ?rr75
          case hy75 => intro W hSw; go_simp; try with_reducible rfl
          try simp only [Act.put, List.setIfInBounds_toArray, List.set_cons_zero, List.set_cons_succ]
          refine wpAnyH_take (i := 31) (oi := ⟨some 80, .move (.tmp 11), _, _, _, _⟩) (v := ?vv76) rfl (by kernel_rfl) (by kernel_rfl) (by kernel_rfl) (fun _ _ _ h => h) (Or.inl ⟨by rfl, ?hy76⟩) HH.out ?rr76
          case hy76 => intro W hSw; go_simp; try with_reducible rfl
          try simp only [Act.put, List.setIfInBounds_toArray, List.set_cons_zero, List.set_cons_succ]
          refine wpAnyH_take (i := 32) (oi := ⟨some 81, .move (.tmp 1), _, _, _, _⟩) (v := ?vv77) rfl (by kernel_rfl) (by kernel_rfl) (by kernel_rfl) (fun _ _ _ h => h) (Or.inl ⟨by rfl, ?hy77⟩) HH.out ?rr77
          case hy77 => intro W hSw; go_simp; try with_reducible rfl
          try simp only [Act.put, List.setIfInBounds_toArray, List.set_cons_zero, List.set_cons_succ]
          refine wpAnyH_take (i := 34) (oi := ⟨some 83, .move (.tmp 10), _, _, _, _⟩) (v := ?vv78) rfl (by kernel_rfl) (by kernel_rfl) (by kernel_rfl) (fun _ _ _ h => h) (Or.inl ⟨by rfl, ?hy78⟩) HH.out ?rr78
          case hy78 => intro W hSw; go_simp; try with_reducible rfl
          try simp only [Act.put, List.setIfInBounds_toArray, List.set_cons_zero, List.set_cons_succ]
          refine wpAnyH_take (i := 35) (oi := ⟨some 84, .move (.tmp 11), _, _, _, _⟩) (v := ?vv79) rfl (by kernel_rfl) (by kernel_rfl) (by kernel_rfl) (fun _ _ _ h => h) (Or.inl ⟨by rfl, ?hy79⟩) HH.out ?rr79
          case hy79 => intro W hSw; go_simp; try with_reducible rfl
          try simp only [Act.put, List.setIfInBounds_toArray, List.set_cons_zero, List.set_cons_succ]
          refine wpAnyH_take (i := 36) (oi := ⟨some 85, .move (.tmp 1), _, _, _, _⟩) (v := ?vv80) rfl (by kernel_rfl) (by kernel_rfl) (by kernel_rfl) (fun _ _ _ h => h) (Or.inl ⟨by rfl, ?hy80⟩) HH.out ?rr80
          case hy80 => intro W hSw; go_simp; try with_reducible rfl
          try simp only [Act.put, List.setIfInBounds_toArray, List.set_cons_zero, List.set_cons_succ]
          refine wpAnyH_ready (rs := [33]) (by kernel_rfl) (by simp) ?_
          refine AllReadyH.cons (o := ⟨some 82, .call { callee := .value (.func 32), args := #[.tmp 79, .tmp 80, .tmp 81], argTypes := #[49, 3, 5] }, _, _, _, _⟩) rfl (fun K hK => ?_) AllReadyH.nil
          go_simp
          go_at_call 32
          refine (cST.out _ (HW.out.trans HH.out (fun _ _ hf => hf))).mono ?_
          rintro e wB ⟨rfl, hk33⟩
          have HK33 := Lib.hid hk33
          clear hk33
          go_wp2_with fail
          refine hK.out _ _ (HH.out.trans HK33.out (fun _ _ hf => hf)) (fun hHeld => ?_)
          have HH := Lib.hid hHeld
          clear hHeld hK K
          try simp only [Act.put, List.setIfInBounds_toArray, List.set_cons_zero, List.set_cons_succ]
          refine wpAnyH_ready (rs := [37]) (by kernel_rfl) (by simp) ?_
          refine AllReadyH.cons (o := ⟨some 86, .call { callee := .value (.func 40), args := #[.tmp 83, .tmp 84, .tmp 85], argTypes := #[22, 3, 5] }, _, _, _, _⟩) rfl (fun K hK => ?_) AllReadyH.nil
          go_simp
          go_at_call 40
          refine (cRST.out _ (HW.out.trans HH.out (fun _ _ hf => hf))).mono ?_
          rintro e wB ⟨rfl, hk37⟩
          have HK37 := Lib.hid hk37
          clear hk37
          go_wp2_with fail
          refine hK.out _ _ (HH.out.trans HK37.out (fun _ _ hf => hf)) (fun hHeld => ?_)
          have HH := Lib.hid hHeld
          clear hHeld hK K
          try simp only [Act.put, List.setIfInBounds_toArray, List.set_cons_zero, List.set_cons_succ]
          refine wpAnyH_take (i := 38) (oi := ⟨some 87, .binOp .neq 3 (.tmp 82) (.tmp 86) 3, _, _, _, _⟩) (v := ?vv81) rfl (by kernel_rfl) (by kernel_rfl) (by kernel_rfl) (fun _ _ _ h => h) (Or.inl ⟨by rfl, ?hy81⟩) HH.out ?rr81
          case hy81 => intro W hSw; go_simp; try with_reducible rfl
          try simp only [Act.put, List.setIfInBounds_toArray, List.set_cons_zero, List.set_cons_succ]
          refine wpAnyH_take (i := 39) (oi := ⟨some 88, .pick (.tmp 78) (.const (.bool true)) (.tmp 87), _, _, _, _⟩) (v := ?vv82) rfl (by kernel_rfl) (by kernel_rfl) (by kernel_rfl) (fun _ _ _ h => h) (Or.inl ⟨by rfl, ?hy82⟩) HH.out ?rr82
          case hy82 => intro W hSw; go_simp; try with_reducible rfl
          try simp only [Act.put, List.setIfInBounds_toArray, List.set_cons_zero, List.set_cons_succ]
          refine wpAnyH_take (i := 40) (oi := ⟨some 89, .move (.tmp 88), _, _, _, _⟩) (v := ?vv83) rfl (by kernel_rfl) (by kernel_rfl) (by kernel_rfl) (fun _ _ _ h => h) (Or.inl ⟨by rfl, ?hy83⟩) HH.out ?rr83
          case hy83 => intro W hSw; go_simp; try with_reducible rfl
          try simp only [Act.put, List.setIfInBounds_toArray, List.set_cons_zero, List.set_cons_succ]
          refine wpAnyH_take (i := 41) (oi := ⟨some 90, .move (.tmp 9), _, _, _, _⟩) (v := ?vv84) rfl (by kernel_rfl) (by kernel_rfl) (by kernel_rfl) (fun _ _ _ h => h) (Or.inl ⟨by rfl, ?hy84⟩) HH.out ?rr84
          case hy84 => intro W hSw; go_simp; try with_reducible rfl
          try simp only [Act.put, List.setIfInBounds_toArray, List.set_cons_zero, List.set_cons_succ]
          refine wpAnyH_take (i := 42) (oi := ⟨some 91, .move (.tmp 11), _, _, _, _⟩) (v := ?vv85) rfl (by kernel_rfl) (by kernel_rfl) (by kernel_rfl) (fun _ _ _ h => h) (Or.inl ⟨by rfl, ?hy85⟩) HH.out ?rr85
          case hy85 => intro W hSw; go_simp; try with_reducible rfl
          try simp only [Act.put, List.setIfInBounds_toArray, List.set_cons_zero, List.set_cons_succ]
          refine wpAnyH_take (i := 44) (oi := ⟨some 93, .move (.tmp 7), _, _, _, _⟩) (v := ?vv86) rfl (by kernel_rfl) (by kernel_rfl) (by kernel_rfl) (fun _ _ _ h => h) (Or.inl ⟨by rfl, ?hy86⟩) HH.out ?rr86
          case hy86 => intro W hSw; go_simp; try with_reducible rfl
          try simp only [Act.put, List.setIfInBounds_toArray, List.set_cons_zero, List.set_cons_succ]
          refine wpAnyH_take (i := 45) (oi := ⟨some 94, .move (.tmp 10), _, _, _, _⟩) (v := ?vv87) rfl (by kernel_rfl) (by kernel_rfl) (by kernel_rfl) (fun _ _ _ h => h) (Or.inl ⟨by rfl, ?hy87⟩) HH.out ?rr87
          case hy87 => intro W hSw; go_simp; try with_reducible rfl
          try simp only [Act.put, List.setIfInBounds_toArray, List.set_cons_zero, List.set_cons_succ]
          refine wpAnyH_take (i := 46) (oi := ⟨some 95, .move (.tmp 11), _, _, _, _⟩) (v := ?vv88) rfl (by kernel_rfl) (by kernel_rfl) (by kernel_rfl) (fun _ _ _ h => h) (Or.inl ⟨by rfl, ?hy88⟩) HH.out ?rr88
          case hy88 => intro W hSw; go_simp; try with_reducible rfl
          try simp only [Act.put, List.setIfInBounds_toArray, List.set_cons_zero, List.set_cons_succ]
          refine wpAnyH_take (i := 47) (oi := ⟨some 96, .indexAddr 22 (.tmp 94) (.tmp 95), _, _, _, _⟩) (v := ?vv89) rfl (by kernel_rfl) (by kernel_rfl) (by kernel_rfl) (fun _ _ _ h => h) (Or.inl ⟨by rfl, ?hy89⟩) HH.out ?rr89
          case hy89 => intro W hSw; go_simp; try with_reducible rfl
          try simp only [Act.put, List.setIfInBounds_toArray, List.set_cons_zero, List.set_cons_succ]
          refine wpAnyH_take (i := 48) (oi := ⟨some 97, .load 9 (.tmp 96), _, _, _, _⟩) (v := ?vv90) rfl (by kernel_rfl) (by kernel_rfl) (by kernel_rfl) (fun _ _ _ h => h) (Or.inl ⟨by rfl, ?hy90⟩) HH.out ?rr90
          case hy90 => intro W hSw; have y := HX.out W (HW.out.trans hSw (fun _ _ hf => hf)); go_simp; try with_reducible rfl
          try simp only [Act.put, List.setIfInBounds_toArray, List.set_cons_zero, List.set_cons_succ]
          refine wpAnyH_ready (rs := [43]) (by kernel_rfl) (by simp) ?_
          refine AllReadyH.cons (o := ⟨some 92, .call { callee := .value (.func 34), args := #[.tmp 90, .tmp 91], argTypes := #[49, 3] }, _, _, _, _⟩) rfl (fun K hK => ?_) AllReadyH.nil
          go_simp
          go_at_call 34
          refine (cHI.out _ (HW.out.trans HH.out (fun _ _ hf => hf))).mono ?_
          rintro e wC ⟨A43, c43, rfl, hnm⟩
          have HN43 := Lib.hid hnm
          clear hnm
          go_wp2_with fail
          refine hK.out _ _ (HH.out.trans HN43.out.pure (fun _ _ hf => hf)) (fun hHeld => ?_)
          have HH := Lib.hid hHeld
          clear hHeld hK K
          try simp only [Act.put, List.setIfInBounds_toArray, List.set_cons_zero, List.set_cons_succ]
          refine wpAnyH_ready (rs := [49]) (by kernel_rfl) (by simp) ?_
          refine AllReadyH.cons (o := ⟨some 98, .call { callee := .value (.func 35), args := #[.tmp 93, .tmp 97], argTypes := #[22, 9] }, _, _, _, _⟩) rfl (fun K hK => ?_) AllReadyH.nil
          go_simp
          go_at_call 35
          refine (cRHI.out _ (HW.out.trans HH.out (fun _ _ hf => hf))).mono ?_
          rintro e wD ⟨A49, c49, rfl, hnm⟩
          have HN49 := Lib.hid hnm
          clear hnm
          go_wp2_with fail
          refine hK.out _ _ (HH.out.trans HN49.out.pure (fun _ _ hf => hf)) (fun hHeld => ?_)
          have HH := Lib.hid hHeld
          clear hHeld hK K
          try simp only [Act.put, List.setIfInBounds_toArray, List.set_cons_zero, List.set_cons_succ]
          refine wpAnyH_ready (rs := [50]) (by kernel_rfl) (by simp) ?_
          refine AllReadyH.cons (o := ⟨some 99, .call { callee := .value (.func 21), args := #[.tmp 92, .tmp 98], argTypes := #[41, 41] }, _, _, _, _⟩) rfl (fun K hK => ?_) AllReadyH.nil
          go_simp
          go_at_call 21
          refine (rsame_ A43 A49 hn c43 c49 _ _ hz _ (by have := HN43.out.row.keep HN49.out.pure (fun _ _ hf => hf); rw [HHN.out] at this; exact this.sees) (by have := HN49.out.row; rw [HHN.out] at this; exact this.sees) (by omega)).mono ?_
          rintro e wE ⟨rfl, hk50⟩
          have HK50 := Lib.hid (drewn_pure hk50)
          clear hk50
          go_wp2_with fail
          refine hK.out _ _ (HH.out.trans HK50.out (fun _ _ hf => hf)) (fun hHeld => ?_)
          have HH := Lib.hid hHeld
          clear hHeld hK K
          try simp only [Act.put, List.setIfInBounds_toArray, List.set_cons_zero, List.set_cons_succ]
          refine wpAnyH_take (i := 51) (oi := ⟨some 100, .unOp .not 4 (.tmp 99), _, _, _, _⟩) (v := ?vv91) rfl (by kernel_rfl) (by kernel_rfl) (by kernel_rfl) (fun _ _ _ h => h) (Or.inl ⟨by rfl, ?hy91⟩) HH.out ?rr91
          case hy91 => intro W hSw; go_simp; try with_reducible rfl
          try simp only [Act.put, List.setIfInBounds_toArray, List.set_cons_zero, List.set_cons_succ]
          refine wpAnyH_take (i := 52) (oi := ⟨some 101, .pick (.tmp 89) (.const (.bool true)) (.tmp 100), _, _, _, _⟩) (v := ?vv92) rfl (by kernel_rfl) (by kernel_rfl) (by kernel_rfl) (fun _ _ _ h => h) (Or.inl ⟨by rfl, ?hy92⟩) HH.out ?rr92
          case hy92 => intro W hSw; go_simp; try with_reducible rfl
          try simp only [Act.put, List.setIfInBounds_toArray, List.set_cons_zero, List.set_cons_succ]
          refine wpAnyH_done (by kernel_rfl) ?_ _
          go_wp2
          go_roundg g3
          case measure => omega
          case rel => exact ⟨i + 1, by omega, by go_num, Lib.hid (HW.out.trans HH.out (fun _ _ hf => hf))⟩

end Go.Proofs.Ytkbdfnmeomkpjaa
