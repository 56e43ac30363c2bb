/- What a guard says is as the document says; its tables are not too great; a nil guard says no; no condition. -/
import Derived.Test.YtkbdfnmeomkpjaaGrdV
namespace Go.Proofs.Ytkbdfnmeomkpjaa
open Go.RowKit
set_option linter.unusedVariables false
set_option linter.unusedSimpArgs false
set_option maxRecDepth 100000

theorem tot_ge {l : List (List UInt8)} {m : Nat} (h : ∀ y ∈ l, m ≤ y.length) : m * l.length ≤ totL l := by
  unfold totL
  induction l with
  | nil => simp
  | cons a l ih =>
    have h1 := h a (by simp)
    have h2 := ih (fun y hy => h y (by simp [hy]))
    rw [List.map_cons, List.sum_cons, List.length_cons, Nat.mul_succ]
    omega
theorem held_few {l : List (List UInt8)} {m v : Nat} (h : ∀ y ∈ l, m ≤ y.length) (h0 : l = [] → m = 0) (h1 : l ≠ [] → 1 ≤ m) (hv : v ≤ 32 * m + 2 * (l.length * (m - 1)) + 8 * l.length) : v ≤ 48 * totL l := by
  have ht := tot_ge h
  by_cases hl : l = []
  · subst hl
    have := h0 rfl
    subst this
    have : v = 0 := by simpa using hv
    omega
  · have hm := h1 hl
    have hn : 1 ≤ l.length := List.length_pos_iff.2 hl
    obtain ⟨q, rfl⟩ : ∃ q, m = q + 1 := ⟨m - 1, by omega⟩
    have e1 : (q + 1) * l.length = q * l.length + l.length := Nat.succ_mul _ _
    have e2 : l.length * (q + 1 - 1) = q * l.length := by rw [Nat.add_sub_cancel, Nat.mul_comm]
    have e3 : q ≤ q * l.length := Nat.le_mul_of_pos_right q hn
    rw [e2] at hv
    rw [e1] at ht
    omega
set_option maxHeartbeats 8000000 in
theorem tells_row34 (w : World) (A : Option Addr) (m c : Nat) (l0 : List ByteArray) (a0 b0 n0 : Int) (h0 : m ≤ c ∧ m ≤ maxLen ∧ Sees w w.heap.size 1 A m (l0.map Value.string) ∧ ∀ s ∈ l0, s.size ≤ maxLen) (h1 : 0 ≤ a0 ∧ a0 ≤ 255) (h2 : 0 ≤ b0 ∧ b0 ≤ 255) (h3 : -9223372036854775808 ≤ n0 ∧ n0 ≤ 9223372036854775807) :
    Calls Try.prog 4 #[.slice A m c, .int .u8 a0, .int .u8 b0, .int .i64 n0] w fun e w' => e = .returned (.bool true) ∧ Pure' w w' := by
  obtain ⟨ch, rfl⟩ := u8_of h1
  obtain ⟨dh, rfl⟩ := u8_of h2
  obtain ⟨_, hm, hse, hsz⟩ := h0
  have hll : l0.length = m := by have := hse.1; simpa using this
  have HFEW := Lib.hid (few_ A m c w.heap.size l0 w hse 12 20 (by decide) (by decide) hm hsz)
  have HAW := Lib.hid awake34_
  have HSE := Lib.hid hse
  have HLL := Lib.hid hll
  clear hse hsz hll h1 h2
  go_enter Try.func4, Try.ntmps4
  go_wp2_with fail
  refine HFEW.out.mono ?_
  rintro e w1 ⟨⟨b0, rfl, hb0⟩, rfl⟩
  cases b0 with
  | false =>
    clear hb0
    go_wp2_with fail
    refine (HAW.out _).mono ?_
    rintro e w2 ⟨rfl, hk⟩
    have HK := Lib.hid hk
    clear hk
    go_wp2
    go_ret
    exact ⟨rfl, HK.out⟩
  | true =>
    obtain ⟨hf1, hf2⟩ := hb0.1 rfl
    have hm12 : m ≤ 12 := by rw [← HLL.out]; omega
    have HF2 := Lib.hid hf2
    have HNEW := Lib.hid (new_ A m c _ l0 w HSE.out (Nat.le_refl _) hm12 hf2)
    clear hb0 hf1 hf2
    go_wp2_with fail
    refine HNEW.out.mono ?_
    rintro e w2 ⟨x, er, lp, rfl, hc, hset, hk⟩
    have hc1 : (OkL l0 ∧ lp.Perm l0 ∧ InOrd lp) ∨ lp = [] := by
      rcases hc with ⟨a1, _, a2, a3⟩ | ⟨_, a, _⟩
      · exact .inl ⟨a1, a2, a3⟩
      · exact .inr a
    have hord := lst_ord hc1
    have hfew := lst_few (l := l0) (lp := lp) (N := 12) (M := 20) (by rcases hc1 with a | a; exact .inl a.2.1; exact .inr a) (by rw [HLL.out]; exact hm12) HF2.out
    have HC := Lib.hid hc
    have HK2 := Lib.hid hk
    have HNR := Lib.hid (rnew_ A m c w.heap.size l0 w2 (HSE.out.pure hk (Nat.le_refl _)) hk.size hm12 HF2.out)
    have HSET := Lib.hid (fun (W : World) (hW : Pure' w2 W) => hset.pure hW)
    have HOR := Lib.hid (And.intro hord hfew)
    clear hc hc1 hord hfew hset hk HNEW
    go_wp2_with fail
    refine HNR.out.mono ?_
    rintro e w3 ⟨A3, c3, l3, er3, rfl, hc3, hs3, hk⟩
    have hbl := lst_lists HC.out hc3
    have HK3 := Lib.hid hk
    rw [strVs_bl, hbl] at hs3
    have hl3 : l3.length = (bl lp).length := by rw [← hbl]; simp [bl]
    rw [hl3] at hs3 ⊢
    have HS3 := Lib.hid hs3
    have HNG := Lib.hid (newGuard_ x lp w3 (HSET.out _ hk) HOR.out.2.1 HOR.out.2.2 HOR.out.1.2)
    have HML := Lib.hid (fun n (h : LeastE (bl lp) n) => least_is h)
    have hm20 : minL lp ≤ 20 := by
      by_cases e : lp = []
      · subst e; exact Nat.zero_le _
      · obtain ⟨s, hs, e2⟩ := minL_mem e
        have := HOR.out.2.2 s.data.toList (List.mem_map.2 ⟨s, hs, rfl⟩)
        have h3 : s.data.toList.length = s.size := Array.length_toList
        omega
    have HM0 := Lib.hid (show bl lp = [] → minL lp = 0 from fun e => by
      unfold bl at e
      rw [List.map_eq_nil_iff.1 e]; rfl)
    have HM1 := Lib.hid (show bl lp ≠ [] → 1 ≤ minL lp from fun e => by
      obtain ⟨s, hs, e2⟩ := minL_mem (lp := lp) (fun e3 => e (by rw [e3]; rfl))
      have := HOR.out.1.2 s.data.toList (List.mem_map.2 ⟨s, hs, rfl⟩)
      have h3 : s.data.toList.length = s.size := Array.length_toList
      have h4 : s.data.toList.length ≠ 0 := fun e => this (List.eq_nil_of_length_eq_zero e)
      omega)
    have HLI := Lib.hid (fun (W : World) (hW : Pure' w2 W) => list_ x lp W (HSET.out W hW) (by have := HOR.out.2.1; omega))
    rw [strVs_bl] at HLI
    have hlpl : lp.length = (bl lp).length := by simp [bl]
    rw [hlpl] at HLI
    have HMY := Lib.hid (show ∀ y ∈ bl lp, minL lp ≤ y.length from fun y hy => by
      obtain ⟨s, hs, rfl⟩ := List.mem_map.1 hy
      have := minL_le s hs
      have h3 : s.data.toList.length = s.size := Array.length_toList
      omega)
    have HLY := Lib.hid HOR.out.2.2
    have hlen : (bl lp).length ≤ 12 := by have := HOR.out.2.1; simp [bl]; omega
    generalize minL lp = mm at *
    generalize bl lp = l at *
    obtain ⟨k, hk2⟩ : ∃ k, l.length = k := ⟨_, rfl⟩
    have HKL := Lib.hid hk2
    rw [hk2] at hlen HS3 ⊢
    clear hc3 hbl hs3 hk hl3 hk2 HSET HNR
    go_wp2_with fail
    refine HNG.out.mono ?_
    rintro e w4 ⟨g, rfl, _, hg, hk⟩
    have HG := Lib.hid (fun (W : World) (hW : Pure' w4 W) => hg.pure hW)
    have HK4 := Lib.hid hk
    have HSE3 := Lib.hid (fun (W : World) (hW : Pure' w4 W) => HS3.out.pure (hk.trans hW (fun _ _ hf => hf)) (Nat.le_refl _))
    have HLY2 := Lib.hid (show ∀ y ∈ l, y.length ≤ 1000 from fun y hy => by have := HLY.out y hy; omega)
    have HRS := Lib.hid (fun (W : World) (hW : Pure' w4 W) => rskips_ A3 k c3 w3.heap.size mm ch n0 l W (HSE3.out W hW) (by omega) HLY2.out HML.out (by omega))
    have HRL := Lib.hid (fun (W : World) (hW : Pure' w4 W) => rleaps_ A3 k c3 w3.heap.size mm ch dh n0 l W (HSE3.out W hW) (by omega) HLY2.out HML.out (by omega))
    have HRO := Lib.hid (fun (W : World) (hW : Pure' w4 W) => rof_ A3 k c3 w3.heap.size ch l W (HSE3.out W hW) (by have := hk.size; have := hW.size; omega) (by omega) HLY2.out)
    have HRT := Lib.hid (fun (W : World) (hW : Pure' w4 W) => rtotal_ A3 k c3 w3.heap.size l W (HSE3.out W hW) (by omega) HLY2.out)
    have HSK := Lib.hid (fun (W : World) (hW : Pure' w4 W) => skips_ _ g mm x l ch n0 W (HG.out W hW) (by omega))
    have HLK := Lib.hid (fun (W : World) (hW : Pure' w4 W) => leaps_ _ g mm x l ch dh n0 W (HG.out W hW) (by omega) (by rw [HKL.out]; omega) HMY.out)
    have HEN := Lib.hid (fun (W : World) (hW : Pure' w4 W) => ending_ _ g mm x l ch W (HG.out W hW) (by rw [HKL.out]; omega))
    have HHE := Lib.hid (fun (W : World) (hW : Pure' w4 W) => held_ _ g mm x l W (HG.out W hW) (by rw [HKL.out]; omega) (by omega))
    have HSETG := Lib.hid (fun (W : World) (hW : Pure' w4 W) => set_ _ g mm x l W (HG.out W hW))
    have HLI2 := Lib.hid (fun (W : World) (hW : Pure' w4 W) => HLI.out W (HK3.out.trans (hk.trans hW (fun _ _ hf => hf)) (fun _ _ hf => hf)))
    have hend := endK_len l ch.toNat l.length
    have hht : ∀ v, v ≤ 32 * mm + 2 * (l.length * (mm - 1)) + 8 * l.length → v ≤ 48 * totL l := fun v hv => held_few HMY.out HM0.out HM1.out hv
    have htl : totL l ≤ 240 := by
      have : ∀ (L : List (List UInt8)), (∀ y ∈ L, y.length ≤ 20) → totL L ≤ 20 * L.length := by
        intro L
        induction L with
        | nil => intro _; exact Nat.le_refl _
        | cons a L ih =>
          intro h
          have h1 := h a (by simp)
          have h2 := ih (fun y hy => h y (by simp [hy]))
          unfold totL at *
          rw [List.map_cons, List.sum_cons, List.length_cons]
          omega
      have := this l HLY.out
      rw [HKL.out] at this
      omega
    have HHT := Lib.hid hht
    generalize totL l = tot at *
    rw [HKL.out] at hend HHE HHT HEN HRO
    generalize endK l ch.toNat k = E at *
    clear hht hg hk HNG HLI
    generalize skipB l mm ch n0 = sb at *
    generalize leapB l mm ch dh n0 = lb at *
    go_wp2_with fail
    refine (HSK.out w4 (Keeps.refl _ _)).mono ?_
    rintro e w5 ⟨rfl, hk⟩
    have HP5 := Lib.hid hk
    clear hk
    go_wp2_with fail
    refine (HRS.out w5 HP5.out).mono ?_
    rintro e w6 ⟨rfl, hk⟩
    have HP6 := Lib.hid (HP5.out.trans (lst_dn hk) (fun _ _ hf => hf))
    clear hk
    go_wp2_with fail
    refine (HLK.out w6 HP6.out).mono ?_
    rintro e w7 ⟨rfl, hk⟩
    have HP7 := Lib.hid (HP6.out.trans hk (fun _ _ hf => hf))
    clear hk
    go_wp2_with fail
    refine (HRL.out w7 HP7.out).mono ?_
    rintro e w8 ⟨rfl, hk⟩
    have HP8 := Lib.hid (HP7.out.trans (lst_dn hk) (fun _ _ hf => hf))
    clear hk
    go_wp2_with fail
    refine (HEN.out w8 HP8.out).mono ?_
    rintro e w9 ⟨A9, cp9, rfl, hr9, _, hk⟩
    have HP9 := Lib.hid (HP8.out.trans hk (fun _ _ hf => hf))
    have HR9 := Lib.hid hr9
    clear hr9 hk
    go_wp2_with fail
    refine (HRO.out w9 HP9.out).mono ?_
    rintro e w10 ⟨A10, cp10, rfl, hr10, _, hk⟩
    have HP10 := Lib.hid (HP9.out.trans hk (fun _ _ hf => hf))
    have HSA := lst_same A9 A10 E.length E.length cp9 cp10 _ _ (E.map (fun (y : Nat) => (y : Int))) (E.map (fun (y : Nat) => (y : Int))) w10 (by
        have := (HR9.out.keep hk (fun _ _ hf => hf)).sees
        rw [show (E.map (fun (y : Nat) => (y : Int))).map (Value.int .i64) = idVs E by simp [idVs]]
        exact this) (by
        have := hr10.sees
        rw [show (E.map (fun (y : Nat) => (y : Int))).map (Value.int .i64) = idVs E by simp [idVs]]
        exact this) (by omega) (by omega)
    rw [decide_eq_true rfl] at HSA
    have HSA := Lib.hid HSA
    clear hr10 hk
    generalize E.length = en at *
    go_wp2_with fail
    refine HSA.out.mono ?_
    rintro e w11 ⟨rfl, hk⟩
    have HP11 := Lib.hid (HP10.out.trans (lst_dn hk) (fun _ _ hf => hf))
    clear hk
    go_wp2_with fail
    refine (HHE.out w11 HP11.out).mono ?_
    rintro e w12 ⟨⟨v1, rfl, hv1⟩, hk⟩
    have HP12 := Lib.hid (HP11.out.trans hk (fun _ _ hf => hf))
    have hv1n : ¬ ((v1 : Int) < 0) := by omega
    clear hk
    go_wp2_with fail
    refine (HHE.out w12 HP12.out).mono ?_
    rintro e w13 ⟨⟨v2, rfl, hv2⟩, hk⟩
    have HP13 := Lib.hid (HP12.out.trans hk (fun _ _ hf => hf))
    have hv3 := HHT.out v2 hv2
    clear hk hv1 hv2
    go_wp2_with fail
    refine (HRT.out w13 HP13.out).mono ?_
    rintro e w14 ⟨rfl, rfl⟩
    have hv4 : ¬ ((48 : Int) * (tot : Int) < (v2 : Int)) := by omega
    go_wp2_with fail
    refine (HSETG.out w14 HP13.out).mono ?_
    rintro e w15 ⟨rfl, rfl⟩
    go_wp2_with fail
    refine (HLI2.out w14 HP13.out).mono ?_
    rintro e w16 ⟨⟨A16, c16, rfl, hs16⟩, hk⟩
    have HP16 := Lib.hid (HP13.out.trans hk (fun _ _ hf => hf))
    rw [HKL.out] at hs16 ⊢
    have HSM := Lib.hid (rsame5_ A16 A3 k c16 c3 _ _ l w16 hs16 (HSE3.out w16 HP16.out) (by omega))
    clear hk hs16
    go_wp2_with fail
    refine HSM.out.mono ?_
    rintro e w17 ⟨rfl, hk⟩
    have HP17 := Lib.hid (HP16.out.trans (lst_dn hk) (fun _ _ hf => hf))
    clear hk
    go_wp2_with fail
    refine (skips_nil ch.toNat n0 w17).mono ?_
    rintro e w18 ⟨rfl, hk⟩
    have HP18 := Lib.hid (HP17.out.trans hk (fun _ _ hf => hf))
    clear hk
    go_wp2_with fail
    refine (leaps_nil _ _ n0 w18).mono ?_
    rintro e w19 ⟨rfl, hk⟩
    have HP19 := Lib.hid (HP18.out.trans hk (fun _ _ hf => hf))
    clear hk
    go_wp2_with fail
    refine (ending_nil _ w19).mono ?_
    rintro e w20 ⟨rfl, rfl⟩
    go_wp2_with fail
    refine (held_nil w19).mono ?_
    rintro e w20 ⟨rfl, rfl⟩
    go_wp2_with fail
    refine (set_nil w19).mono ?_
    rintro e w20 ⟨rfl, rfl⟩
    go_wp2_with fail
    refine (HAW.out w19).mono ?_
    rintro e w21 ⟨rfl, hk⟩
    have HK21 := Lib.hid (HP19.out.trans hk (fun _ _ hf => hf))
    clear hk
    go_wp2_with fail
    go_ret
    exact ⟨rfl, HK2.out.trans (HK3.out.trans (HK4.out.trans HK21.out (fun _ _ hf => hf)) (fun _ _ hf => hf)) (fun _ _ hf => hf)⟩
end Go.Proofs.Ytkbdfnmeomkpjaa
