/- What the scanner's tables tell is what the checker's let be; no condition. -/
import Derived.Test.YtkbdfnmeomkpjaaGrdV
namespace Go.Proofs.Ytkbdfnmeomkpjaa
open Go.RowKit
set_option linter.unusedVariables false
set_option linter.unusedSimpArgs false
set_option maxRecDepth 100000

set_option maxHeartbeats 8000000 in
theorem agrees_row (w : World) (A : Option Addr) (m c : Nat) (l0 : List ByteArray) (a0 b0 : Int) (h0 : m ≤ c ∧ m ≤ maxLen ∧ Sees w w.heap.size 1 A m (l0.map Value.string) ∧ ∀ s ∈ l0, s.size ≤ maxLen) (h1 : 0 ≤ a0 ∧ a0 ≤ 255) (h2 : 0 ≤ b0 ∧ b0 ≤ 255) :
    Calls Try.prog 3 #[.slice A m c, .int .u8 a0, .int .u8 b0] w fun e w' => e = .returned (.bool true) ∧ Pure' w w' := by
  obtain ⟨ch, rfl⟩ := u8_of h1
  obtain ⟨dh, rfl⟩ := u8_of h2
  obtain ⟨_, hm, hse, hsz⟩ := h0
  have hll : l0.length = m := by have := hse.1; simpa using this
  have HFEW := Lib.hid (few_ A m c w.heap.size l0 w hse 12 20 (by decide) (by decide) hm hsz)
  have HAW := Lib.hid awake34_
  have HSE := Lib.hid hse
  have HLL := Lib.hid hll
  clear hse hsz hll h1 h2
  go_enter Try.func3, Try.ntmps3
  go_wp2_with fail
  refine HFEW.out.mono ?_
  rintro e w1 ⟨⟨b0, rfl, hb0⟩, rfl⟩
  cases b0 with
  | false =>
    clear hb0
    go_wp2_with fail
    refine (HAW.out _).mono ?_
    rintro e w2 ⟨rfl, hk⟩
    have HK := Lib.hid hk
    clear hk
    go_wp2
    go_ret
    exact ⟨rfl, HK.out⟩
  | true =>
    obtain ⟨hf1, hf2⟩ := hb0.1 rfl
    have hm12 : m ≤ 12 := by rw [← HLL.out]; omega
    have HF2 := Lib.hid hf2
    have HNEW := Lib.hid (new_ A m c _ l0 w HSE.out (Nat.le_refl _) hm12 hf2)
    clear hb0 hf1 hf2
    go_wp2_with fail
    refine HNEW.out.mono ?_
    rintro e w2 ⟨x, er, lp, rfl, hc, hset, hk⟩
    have hc1 : (OkL l0 ∧ lp.Perm l0 ∧ InOrd lp) ∨ lp = [] := by
      rcases hc with ⟨a1, _, a2, a3⟩ | ⟨_, a, _⟩
      · exact .inl ⟨a1, a2, a3⟩
      · exact .inr a
    have hord := lst_ord hc1
    have hfew := lst_few (l := l0) (lp := lp) (N := 12) (M := 20) (by rcases hc1 with a | a; exact .inl a.2.1; exact .inr a) (by rw [HLL.out]; exact hm12) HF2.out
    have HC := Lib.hid hc
    have HK2 := Lib.hid hk
    have HNR := Lib.hid (rnew_ A m c w.heap.size l0 w2 (HSE.out.pure hk (Nat.le_refl _)) hk.size hm12 HF2.out)
    have HSET := Lib.hid (fun (W : World) (hW : Pure' w2 W) => hset.pure hW)
    have HOR := Lib.hid (And.intro hord hfew)
    clear hc hc1 hord hfew hset hk HNEW
    go_wp2_with fail
    refine HNR.out.mono ?_
    rintro e w3 ⟨A3, c3, l3, er3, rfl, hc3, hs3, hk⟩
    have hbl := lst_lists HC.out hc3
    have HK3 := Lib.hid hk
    rw [strVs_bl, hbl] at hs3
    have hl3 : l3.length = (bl lp).length := by rw [← hbl]; simp [bl]
    rw [hl3] at hs3 ⊢
    have HS3 := Lib.hid hs3
    have HNG := Lib.hid (newGuard_ x lp w3 (HSET.out _ hk) HOR.out.2.1 HOR.out.2.2 HOR.out.1.2)
    have HML := Lib.hid (fun n (h : LeastE (bl lp) n) => least_is h)
    have hm20 : minL lp ≤ 20 := by
      by_cases e : lp = []
      · subst e; exact Nat.zero_le _
      · obtain ⟨s, hs, e2⟩ := minL_mem e
        have := HOR.out.2.2 s.data.toList (List.mem_map.2 ⟨s, hs, rfl⟩)
        have h3 : s.data.toList.length = s.size := Array.length_toList
        omega
    have HMY := Lib.hid (show ∀ y ∈ bl lp, minL lp ≤ y.length from fun y hy => by
      obtain ⟨s, hs, rfl⟩ := List.mem_map.1 hy
      have := minL_le s hs
      have h3 : s.data.toList.length = s.size := Array.length_toList
      omega)
    have HLY := Lib.hid HOR.out.2.2
    have hlen : (bl lp).length ≤ 12 := by have := HOR.out.2.1; simp [bl]; omega
    generalize minL lp = mm at *
    generalize bl lp = l at *
    obtain ⟨k, hk2⟩ : ∃ k, l.length = k := ⟨_, rfl⟩
    have HKL := Lib.hid hk2
    rw [hk2] at hlen HS3 ⊢
    clear hc3 hbl hs3 hk hl3 hk2 HSET HNR
    go_wp2_with fail
    refine HNG.out.mono ?_
    rintro e w4 ⟨g, rfl, _, hg, hk⟩
    have HG := Lib.hid (fun (W : World) (hW : Pure' w4 W) => hg.pure hW)
    have HK4 := Lib.hid hk
    have HFI := Lib.hid (rfirst_ A3 k c3 w3.heap.size mm ch l w4 (HS3.out.pure hk (Nat.le_refl _)) (by omega) (fun y hy => by have := HLY.out y hy; omega) HML.out (by omega))
    have HNE2 := Lib.hid (fun (q : Nat) => rnear_ A3 k c3 w3.heap.size mm ch dh l (w4.drewN q) ((HS3.out.pure hk (Nat.le_refl _)).dn q) (by omega) (fun y hy => by have := HLY.out y hy; omega) HML.out (by omega))
    clear hg hk HNG
    go_wp2_with fail
    refine HFI.out.mono ?_
    rintro e w5 ⟨⟨n1, rfl, hf⟩, q, rfl⟩
    have HF1 := Lib.hid hf
    clear hf
    go_wp2_with fail
    refine (HNE2.out q).mono ?_
    rintro e w5 ⟨⟨n2, rfl, hf⟩, q2, rfl⟩
    have HFN := Lib.hid hf
    have HSK := Lib.hid (fun (i : Nat) (W : World) (hW : Pure' w4 W) => (skips_ _ g mm x l ch (i : Int) W (HG.out W hW) (by omega)).mono (fun e w' (h : _ ∧ _) => (show e = .returned (.bool (decide (1 ≤ i) && decide (i ≤ n1))) ∧ Pure' W w' from ⟨h.1.trans (by rw [skip_first HF1.out]), h.2⟩)))
    have HLK := Lib.hid (fun (i : Nat) (W : World) (hW : Pure' w4 W) => (leaps_ _ g mm x l ch dh (i : Int) W (HG.out W hW) (by omega) (by rw [HKL.out]; omega) HMY.out).mono (fun e w' (h : _ ∧ _) => (show e = .returned (.bool (decide (1 ≤ i) && decide (i ≤ n2))) ∧ Pure' W w' from ⟨h.1.trans (by rw [leap_near HFN.out]), h.2⟩)))
    have HP5 := Lib.hid (show Pure' w4 (w4.drewN (q + q2)) from (Keeps.refl _ w4).drewN (q + q2))
    clear hf
    go_wp2_with fail
    go_loopg [14] 23 (fun gh v14 wr => ∃ i : Nat, i + gh = 23 ∧ v14 = .int .i64 (i : Int) ∧ RowKit.Hid (Pure' w4 wr))
    case atStart => exact ⟨0, by omega, rfl, HP5⟩
    case round =>
      obtain ⟨i, hig, rfl, HP⟩ := hrel
      clear HP5
      cases gk with
      | zero =>
        obtain rfl : i = 23 := by omega
        go_wp2_with fail
        refine (HAW.out _).mono ?_
        rintro e w6 ⟨rfl, hk⟩
        have HK6 := Lib.hid hk
        clear hk
        go_wp2
        go_ret
        exact ⟨rfl, HK2.out.trans (HK3.out.trans (HK4.out.trans (HP.out.trans HK6.out (fun _ _ hf => hf)) (fun _ _ hf => hf)) (fun _ _ hf => hf)) (fun _ _ hf => hf)⟩
      | succ g3 =>
        have hii : (i : Int) ≤ 22 := by omega
        by_cases hi1 : 1 ≤ i
        · have hi1i : (1 : Int) ≤ (i : Int) := by omega
          have hd1 : decide (1 ≤ i) = true := decide_eq_true hi1
          by_cases ha : i ≤ n1
          · have hai : (i : Int) ≤ (n1 : Int) := by omega
            have hd2 : decide (i ≤ n1) = true := decide_eq_true ha
            have HS := Lib.hid (HSK.out i wr HP.out)
            rw [hd1, hd2] at HS
            by_cases hb : i ≤ n2
            · have hbi : (i : Int) ≤ (n2 : Int) := by omega
              have hd3 : decide (i ≤ n2) = true := decide_eq_true hb
              clear hd1 hd2
              go_wp2_with fail
              refine HS.out.mono ?_
              rintro e w6 ⟨rfl, hk⟩
              have HP6 := Lib.hid (HP.out.trans hk (fun _ _ hf => hf))
              have HL := Lib.hid (HLK.out i w6 HP6.out)
              rw [decide_eq_true hi1, hd3] at HL
              clear hk hd3
              go_wp2_with fail
              refine HL.out.mono ?_
              rintro e w7 ⟨rfl, hk⟩
              have HP7 := Lib.hid (HP6.out.trans hk (fun _ _ hf => hf))
              clear hk
              go_wp2_with fail
              go_roundg g3
              case measure => omega
              case rel => exact ⟨i + 1, by omega, by go_num, HP7⟩
            · have hbi : ¬ (i : Int) ≤ (n2 : Int) := by omega
              have hd3 : decide (i ≤ n2) = false := decide_eq_false hb
              clear hd1 hd2
              go_wp2_with fail
              refine HS.out.mono ?_
              rintro e w6 ⟨rfl, hk⟩
              have HP6 := Lib.hid (HP.out.trans hk (fun _ _ hf => hf))
              have HL := Lib.hid (HLK.out i w6 HP6.out)
              rw [decide_eq_true hi1, hd3] at HL
              clear hk
              go_wp2_with fail
              refine HL.out.mono ?_
              rintro e w7 ⟨rfl, hk⟩
              have HP7 := Lib.hid (HP6.out.trans hk (fun _ _ hf => hf))
              clear hk
              go_wp2_with fail
              go_roundg g3
              case measure => omega
              case rel => exact ⟨i + 1, by omega, by go_num, HP7⟩
          · have hai : ¬ (i : Int) ≤ (n1 : Int) := by omega
            have hd2 : decide (i ≤ n1) = false := decide_eq_false ha
            have HS := Lib.hid (HSK.out i wr HP.out)
            rw [hd1, hd2] at HS
            by_cases hb : i ≤ n2
            · have hbi : (i : Int) ≤ (n2 : Int) := by omega
              have hd3 : decide (i ≤ n2) = true := decide_eq_true hb
              clear hd1
              go_wp2_with fail
              refine HS.out.mono ?_
              rintro e w6 ⟨rfl, hk⟩
              have HP6 := Lib.hid (HP.out.trans hk (fun _ _ hf => hf))
              have HL := Lib.hid (HLK.out i w6 HP6.out)
              rw [decide_eq_true hi1, hd3] at HL
              clear hk hd3
              go_wp2_with fail
              refine HL.out.mono ?_
              rintro e w7 ⟨rfl, hk⟩
              have HP7 := Lib.hid (HP6.out.trans hk (fun _ _ hf => hf))
              clear hk
              go_wp2_with fail
              go_roundg g3
              case measure => omega
              case rel => exact ⟨i + 1, by omega, by go_num, HP7⟩
            · have hbi : ¬ (i : Int) ≤ (n2 : Int) := by omega
              have hd3 : decide (i ≤ n2) = false := decide_eq_false hb
              clear hd1
              go_wp2_with fail
              refine HS.out.mono ?_
              rintro e w6 ⟨rfl, hk⟩
              have HP6 := Lib.hid (HP.out.trans hk (fun _ _ hf => hf))
              have HL := Lib.hid (HLK.out i w6 HP6.out)
              rw [decide_eq_true hi1, hd3] at HL
              clear hk
              go_wp2_with fail
              refine HL.out.mono ?_
              rintro e w7 ⟨rfl, hk⟩
              have HP7 := Lib.hid (HP6.out.trans hk (fun _ _ hf => hf))
              clear hk
              go_wp2_with fail
              go_roundg g3
              case measure => omega
              case rel => exact ⟨i + 1, by omega, by go_num, HP7⟩
        · obtain rfl : i = 0 := by omega
          have HS := Lib.hid (HSK.out 0 wr HP.out)
          rw [decide_eq_false hi1, Bool.false_and] at HS
          clear hi1
          go_wp2_with fail
          refine HS.out.mono ?_
          rintro e w6 ⟨rfl, hk⟩
          have HP6 := Lib.hid (HP.out.trans hk (fun _ _ hf => hf))
          have HL := Lib.hid (HLK.out 0 w6 HP6.out)
          rw [decide_eq_false (by decide), Bool.false_and] at HL
          clear hk
          go_wp2_with fail
          refine HL.out.mono ?_
          rintro e w7 ⟨rfl, hk⟩
          have HP7 := Lib.hid (HP6.out.trans hk (fun _ _ hf => hf))
          clear hk
          go_wp2_with fail
          go_roundg g3
          case measure => omega
          case rel => exact ⟨1, by omega, by go_num, HP7⟩
end Go.Proofs.Ytkbdfnmeomkpjaa
