/- What is told of any part of any stream is as the reference says; no condition. -/
import Derived.Test.YtkbdfnmeomkpjaaGreatWlkB
namespace Go.Proofs.YtkbdfnmeomkpjaaGreat
open Go.RowKit
set_option linter.unusedVariables false
set_option linter.unusedSimpArgs false
set_option maxRecDepth 100000

theorem open_le {l : List (List UInt8)} {M : Nat} (hs : Sts l (statesL l)) (hll : ∀ y ∈ l, y.length ≤ M) (s : List UInt8) : openV l s ≤ M := by
  obtain ⟨q, hq, _⟩ := lsuf_spec hs s
  unfold openV
  rw [List.getD_eq_getElem?_getD, hq]
  exact st_short hs hll hq
/-- Both sets out of texts: what the walks stand on. -/
structure SetW (w2 : World) (l0 : List ByteArray) (x : Option Addr) (lp : List ByteArray) (l : List (List UInt8)) (A2 : Option Addr) (n2 : Nat) : Prop where
  set : SetP w2 x lp
  few : lp.length ≤ 12
  short : ∀ y ∈ bl lp, y.length ≤ 20
  ord : (bl lp).Pairwise (· < ·)
  ne : ∀ y ∈ bl lp, y ≠ []
  is : bl lp = l
  sees : Sees w2 w2.heap.size 1 A2 n2 (strVs l)
  len : n2 ≤ 12
theorem SetW.of {w1 w2 : World} {l0 lp lq : List ByteArray} {x A2 : Option Addr} {er : Int} (hc : (OkL l0 ∧ er = 0 ∧ lp.Perm l0 ∧ InOrd lp) ∨ (¬ OkL l0 ∧ lp = [] ∧ er ≠ 0)) (hc2 : (OkL l0 ∧ lq.Perm l0 ∧ InOrd lq) ∨ (¬ OkL l0 ∧ lq = []))
    (hset : SetP w1 x lp) (hk : Pure' w1 w2) (hs2 : Sees w2 w2.heap.size 1 A2 lq.length (lq.map Value.string)) (hn : l0.length ≤ 12) (hsz : ∀ s ∈ l0, s.size ≤ 20) : SetW w2 l0 x lp (bl lp) A2 lq.length := by
  have hsame := same_lists hc hc2
  have hc1 : (OkL l0 ∧ lp.Perm l0 ∧ InOrd lp) ∨ lp = [] := by
    rcases hc with ⟨a1, _, a2, a3⟩ | ⟨_, a, _⟩
    · exact .inl ⟨a1, a2, a3⟩
    · exact .inr a
  have hord := new_ord hc1
  have hfew := new_few (l := l0) (lp := lp) (N := 12) (M := 20) (by rcases hc1 with a | a; exact .inl a.2.1; exact .inr a) hn hsz
  refine ⟨hset.pure hk, hfew.1, hfew.2, hord.1, hord.2, rfl, by rw [← hsame, ← strVs_bl]; exact hs2, ?_⟩
  rw [← bl_len lq, hsame, bl_len]
  exact hfew.1

set_option maxHeartbeats 8000000 in
theorem feeds_row (w : World) (A : Option Addr) (m c : Nat) (l0 : List ByteArray) (k0 : Int) (Ap : Option Addr) (mp cp : Nat) (lp0 : List ByteArray) (z0 : Int) (h0 : m ≤ c ∧ m ≤ maxLen ∧ Sees w w.heap.size 1 A m (l0.map Value.string) ∧ ∀ s ∈ l0, s.size ≤ maxLen) (h1 : -9223372036854775808 ≤ k0 ∧ k0 ≤ 9223372036854775807)
    (h2 : mp ≤ cp ∧ mp ≤ maxLen ∧ Sees w w.heap.size 1 Ap mp (lp0.map Value.string) ∧ ∀ s ∈ lp0, s.size ≤ maxLen) (h3 : -9223372036854775808 ≤ z0 ∧ z0 ≤ 9223372036854775807) :
    Calls Tryz.prog 5 #[.slice A m c, .int .i64 k0, .slice Ap mp cp, .int .i64 z0] w fun e w' => e = .returned (.bool true) ∧ Pure' w w' := by
  obtain ⟨_, hm, hse, hsz⟩ := h0
  obtain ⟨_, hmp, hsp, hsp2⟩ := h2
  have hll : l0.length = m := by have := hse.1; simpa using this
  have hlp : lp0.length = mp := by have := hsp.1; simpa using this
  have HFEW := Lib.hid (few_ A m c w.heap.size l0 w hse 8 12 (by decide) (by decide) hm hsz)
  have HFEP := Lib.hid (few_ Ap mp cp w.heap.size lp0 w hsp 10 20 (by decide) (by decide) hmp hsp2)
  have HAW := Lib.hid awake23_
  have HSE := Lib.hid hse
  have HLL := Lib.hid hll
  have HLP := Lib.hid hlp
  have HSP := Lib.hid (show ∀ W, Pure' w W → Sees W w.heap.size 1 Ap mp (strVs (bl lp0)) from fun W hW => by rw [← strVs_bl]; exact hsp.pure hW (Nat.le_refl _))
  clear hse hsz hll hlp hsp hsp2
  go_enter Tryz.func5, Tryz.ntmps5
  go_wp2_with fail
  refine HFEW.out.mono ?_
  rintro e w1 ⟨⟨b0, rfl, hb0⟩, rfl⟩
  cases b0 with
  | false =>
    clear hb0
    go_wp2_with fail
    refine (HAW.out _).mono ?_
    rintro e w2 ⟨rfl, hk⟩
    have HK := Lib.hid hk
    clear hk
    go_wp2
    go_ret
    exact ⟨rfl, HK.out⟩
  | true =>
    obtain ⟨hf1, hf2⟩ := hb0.1 rfl
    have HF2 := Lib.hid hf2
    clear hb0 hf2
    go_wp2_with fail
    refine HFEP.out.mono ?_
    rintro e w1 ⟨⟨b1, rfl, hb1⟩, rfl⟩
    cases b1 with
    | false =>
      clear hb1
      go_wp2_with fail
      refine (HAW.out _).mono ?_
      rintro e w2 ⟨rfl, hk⟩
      have HK := Lib.hid hk
      clear hk
      go_wp2
      go_ret
      exact ⟨rfl, HK.out⟩
    | true =>
      obtain ⟨hp1, hp2⟩ := hb1.1 rfl
      have HP2 := Lib.hid (show ∀ y ∈ bl lp0, y.length ≤ 20 from fun y hy => by
        obtain ⟨s, hs, e⟩ := bl_mem hy
        rw [← e, ← Lib.size_eq]
        exact hp2 s hs)
      have hmp10 : mp ≤ 10 := by rw [← HLP.out]; exact hp1
      have hm12 : m ≤ 12 := by rw [← HLL.out]; omega
      have hf3 : ∀ s ∈ l0, s.size ≤ 20 := fun s hs => by have := HF2.out s hs; omega
      have HNEW := Lib.hid (new_ A m c _ l0 w HSE.out (Nat.le_refl _) hm12 hf3)
      have HRN := Lib.hid (fun (W : World) (hW : Pure' w W) => rnew_ A m c _ l0 W (HSE.out.pure hW (Nat.le_refl _)) hW.size hm12 hf3)
      have HF3 := Lib.hid hf3
      clear hb1 hp2 hf3
      go_wp2_with fail
      refine HNEW.out.mono ?_
      rintro e w1 ⟨x, er, lp, rfl, hc, hset, hk⟩
      have HC := Lib.hid hc
      have HSET := Lib.hid hset
      have HK1 := Lib.hid hk
      clear hc hset hk HNEW
      go_wp2_with fail
      refine (HRN.out _ HK1.out).mono ?_
      rintro e w2 ⟨A2, c2, lq, er2, rfl, hc2, hs2, hk⟩
      have hSW := SetW.of HC.out hc2 HSET.out hk hs2 (by rw [HLL.out]; exact hm12) HF3.out
      obtain ⟨nq, hnq⟩ : ∃ k, lq.length = k := ⟨_, rfl⟩
      rw [hnq] at hSW ⊢
      have HNW := Lib.hid (newWalk_ x lp k0 w2 hSW.set hSW.few hSW.short hSW.ord hSW.ne)
      obtain ⟨l, hl⟩ : ∃ l, bl lp = l := ⟨_, rfl⟩
      have HSH := Lib.hid (show ∀ y ∈ l, y.length ≤ 20 by rw [← hl]; exact hSW.short)
      have HST := Lib.hid (show Sts l (statesL l) by rw [← hl]; exact states_sts hSW.ord hSW.ne)
      have HS2 := Lib.hid (show Sees w2 w2.heap.size 1 A2 nq (strVs l) by rw [← hl]; exact hSW.sees)
      have hnq12 := hSW.len
      have HL12 := Lib.hid (show l.length = nq by have := HS2.out.1; rw [strVs_len] at this; omega)
      have HK2 := Lib.hid (HK1.out.trans hk (fun _ _ hf => hf))
      rw [hl] at HNW
      clear hSW hl hnq hc2 hs2 hk HSET HC HRN
      go_wp2_with fail
      refine HNW.out.mono ?_
      rintro e w3 ⟨hcase, hk⟩
      have HK3 := Lib.hid (HK2.out.trans hk (fun _ _ hf => hf))
      have HK23 := Lib.hid hk
      clear hk HNW
      rcases hcase with ⟨hk1, hk3, g, rfl, hwi, hg⟩ | ⟨hno, rfl⟩
      case inr =>
        by_cases hk1 : k0 < 1
        · clear hno
          go_wp2_with fail
          refine (wfeed_nil _ _).mono ?_
          rintro e w4 ⟨rfl, rfl⟩
          go_wp2_with fail
          refine (wseen_nil _).mono ?_
          rintro e w4 ⟨rfl, rfl⟩
          go_wp2_with fail
          refine (wopen_nil _).mono ?_
          rintro e w4 ⟨rfl, rfl⟩
          go_wp2_with fail
          refine (whits_nil _).mono ?_
          rintro e w4 ⟨rfl, rfl⟩
          go_wp2_with fail
          refine (HAW.out _).mono ?_
          rintro e w5 ⟨rfl, hk⟩
          have HK := Lib.hid (HK3.out.trans hk (fun _ _ hf => hf))
          clear hk
          go_wp2
          go_ret
          exact ⟨rfl, HK.out⟩
        · have hk3 : 3 < k0 := by omega
          clear hno
          go_wp2_with fail
          refine (wfeed_nil _ _).mono ?_
          rintro e w4 ⟨rfl, rfl⟩
          go_wp2_with fail
          refine (wseen_nil _).mono ?_
          rintro e w4 ⟨rfl, rfl⟩
          go_wp2_with fail
          refine (wopen_nil _).mono ?_
          rintro e w4 ⟨rfl, rfl⟩
          go_wp2_with fail
          refine (whits_nil _).mono ?_
          rintro e w4 ⟨rfl, rfl⟩
          go_wp2_with fail
          refine (HAW.out _).mono ?_
          rintro e w5 ⟨rfl, hk⟩
          have HK := Lib.hid (HK3.out.trans hk (fun _ _ hf => hf))
          clear hk
          go_wp2
          go_ret
          exact ⟨rfl, HK.out⟩
      case inl =>
        have hk1i : ¬ k0 < 1 := by omega
        have hk3i : ¬ 3 < k0 := by omega
        have HWI := Lib.hid (show WalkI w3 g k0 l ((bl lp0).take 0).flatten 0 from hwi)
        have HG := Lib.hid hg
        clear hwi hg hk1 hk3
        go_wp2
        go_loopg [15, 16, 17, 18, 19, 20] mp (fun gh v15 v16 v17 v18 v19 v20 wr => ∃ i nh : Nat, i + gh = mp ∧ v17 = .int .i64 (i : Int) ∧ v16 = .int .i64 (nh : Int) ∧ v15 = .string ⟨((bl lp0).take i).flatten.toArray⟩ ∧ ((bl lp0).take i).flatten.length ≤ i * 20 ∧ nh ≤ i * 3000 ∧ RowKit.Hid (WalkI wr g k0 l ((bl lp0).take i).flatten nh) ∧ RowKit.Hid (Pure' w2 wr))
        case atStart => exact ⟨0, 0, by omega, rfl, rfl, rfl, by simp, Nat.zero_le _, HWI, HK23⟩
        case round =>
          obtain ⟨i, nh, hig, rfl, rfl, rfl, hul, hnh, HW, HKW⟩ := hrel
          clear HWI
          cases gk with
          | zero =>
            obtain rfl : i = mp := by omega
            generalize ((bl lp0).take i).flatten = u at *
            go_wp2_with fail
            refine (HAW.out _).mono ?_
            rintro e w5 ⟨rfl, hk⟩
            have HK := Lib.hid ((HK2.out.trans HKW.out (fun _ _ hf => hf)).trans hk (fun _ _ hf => hf))
            clear hk
            go_wp2
            go_ret
            exact ⟨rfl, HK.out⟩
          | succ g3 =>
            have hii : (i : Int) < (mp : Int) := by omega
            obtain ⟨ad, pt, rfl, hpt, _⟩ := word_at (HSP.out _ (HK2.out.trans HKW.out (fun _ _ hf => hf))) (show i < mp by omega)
            have HPC := Lib.hid (fun (W : World) (hW : Pure' w2 W) => show W.cell? (ad.add i) = some (.string ⟨pt.toArray⟩) by
              obtain ⟨ad', x', e1, e2, e3⟩ := word_at (HSP.out _ (HK2.out.trans hW (fun _ _ hf => hf))) (show i < mp by omega)
              cases e1
              rw [hpt] at e2
              cases e2
              exact e3)
            have hptl := HP2.out pt (List.mem_of_getElem? hpt)
            have HUN := Lib.hid (show ((bl lp0).take (i + 1)).flatten = ((bl lp0).take i).flatten ++ pt by rw [List.take_add_one, hpt, List.flatten_append]; simp)
            clear hpt
            obtain ⟨u, hu⟩ : ∃ u, ((bl lp0).take i).flatten = u := ⟨_, rfl⟩
            rw [hu] at hul HW HUN ⊢
            clear hu
            have hcat : (⟨u.toArray⟩ : ByteArray) ++ ⟨pt.toArray⟩ = ⟨(u ++ pt).toArray⟩ := bytes_eq (by simp)
            have hbp : (⟨pt.toArray⟩ : ByteArray).size = pt.length := Lib.size_eq _
            have hbs : (⟨(u ++ pt).toArray⟩ : ByteArray).size = (u ++ pt).length := Lib.size_eq _
            have hbu : (⟨u.toArray⟩ : ByteArray).size = u.length := Lib.size_eq _
            have HPL := Lib.hid (progL_len l u pt)
            have HFI := Lib.hid (feed_is l u pt)
            have HAL := Lib.hid (allL_len l (u ++ pt))
            have hopl := open_le HST.out HSH.out (u ++ pt)
            have HLA := Lib.hid (show (u ++ pt).length = u.length + pt.length from List.length_append)
            have hub : u.length ≤ 200 := by omega
            have HFD := Lib.hid (feed_ g k0 l u pt nh wr HW.out (by omega) (by omega) (by omega))
            have hPLb : (progL l u pt).length ≤ 3000 := by
              have h1 := HPL.out
              rw [HL12.out] at h1
              have : (u.length + pt.length + 1) * nq ≤ 221 * 12 := Nat.mul_le_mul (by omega) hnq12
              omega
            have hALb : (allL l (u ++ pt)).length ≤ 100000000 := by
              have h1 := HAL.out
              rw [HL12.out, HLA.out] at h1
              have : (u.length + pt.length + 1) * nq ≤ 221 * 12 := Nat.mul_le_mul (by omega) hnq12
              omega
            have HRO := Lib.hid (fun (W : World) (hW : Pure' w2 W) => ropen_ A2 nq c2 _ l (u ++ pt) W (HS2.out.pure hW (Nat.le_refl _)) (by omega) (by rw [HLA.out]; omega) (fun y hy => by have := HSH.out y hy; omega) HST.out)
            have HRF := Lib.hid (fun (W : World) (hW : Pure' w2 W) => by
              have := rfeed_ A2 nq c2 _ l (u ++ pt) (u.length : Int) W (HS2.out.pure hW (Nat.le_refl _)) hW.size (by omega) (by rw [HLA.out]; omega) (fun y hy => by have := HSH.out y hy; omega) hALb
              rw [HFI.out] at this
              exact this)
            have HOPN := Lib.hid (fun (W : World) (nh' : Nat) (hW : WalkI W g k0 l (u ++ pt) nh') => wopen_ g k0 l (u ++ pt) nh' W hW)
            have HCLR := Lib.hid (fun (W : World) (nh' : Nat) (hW : WalkI W g k0 l (u ++ pt) nh') (hz : 0 ≤ z0) => wclear_ g k0 l (u ++ pt) nh' z0 W hW ⟨hz, h3.2⟩ (by omega))
            have HSEE := Lib.hid (fun (W : World) (nh' : Nat) (hW : WalkI W g k0 l (u ++ pt) nh') => wseen_ g k0 l (u ++ pt) nh' W hW)
            obtain ⟨q, hq⟩ : ∃ q, openV l (u ++ pt) = q := ⟨_, rfl⟩
            rw [hq] at hopl HRO HOPN HCLR
            obtain ⟨un, hun⟩ : ∃ q, u.length = q := ⟨_, rfl⟩
            obtain ⟨pn, hpn⟩ : ∃ q, pt.length = q := ⟨_, rfl⟩
            obtain ⟨tn, htn⟩ : ∃ q, (u ++ pt).length = q := ⟨_, rfl⟩
            have htu : tn = un + pn := by rw [← htn, HLA.out, hun, hpn]
            have hsub : (tn : Int) - (pn : Int) = (un : Int) := by omega
            obtain ⟨L, hL⟩ : ∃ L, progL l u pt = L := ⟨_, rfl⟩
            obtain ⟨nL, hnL⟩ : ∃ q, L.length = q := ⟨_, rfl⟩
            unfold FeedPost at HFD
            rw [hL] at HFD hPLb HRF
            rw [hnL] at HFD hPLb HRF
            rw [hun] at HRF hul hub hbu
            rw [hpn] at hbp hptl
            rw [htn] at hbs HSEE
            have HTN := Lib.hid htn
            have HNL := Lib.hid hnL
            clear hq hun hpn htn hL hnL
            have xc := HPC.out _ HKW.out
            go_wp2_with fail
            refine HFD.out.mono ?_
            rintro e w5 ⟨A5, c5, rfl, hf, hwi, _⟩
            have HW5 := Lib.hid hwi
            have HK5 := Lib.hid (show Pure' w2 w5 from HKW.out.trans hf.keeps (fun b hb e => by have := HG.out; have e : b = g := e; omega))
            have HR5 := Lib.hid (show Row w5 103 2 (.slice A5 nL c5) nL (htVs L) by have := hf.row; rw [HNL.out] at this; exact this)
            have xc5 := HPC.out _ HK5.out
            clear hwi hf xc HW HFD
            go_wp2_with fail
            refine (HRO.out _ HK5.out).mono ?_
            rintro e w6 ⟨rfl, hk⟩
            have HK6 := Lib.hid (HK5.out.trans hk (fun _ _ hf => hf))
            have HW6 := Lib.hid (HW5.out.pure hk)
            have HR6 := Lib.hid (HR5.out.keep hk (fun _ _ hf => hf))
            have xc6 := HPC.out _ HK6.out
            clear hk HW5 HR5 HK5 xc5
            go_wp2_with fail
            refine (HRF.out _ HK6.out).mono ?_
            rintro e w7 ⟨A7, c7, rfl, hh⟩
            have HK7 := Lib.hid (HK6.out.trans hh.pure (fun _ _ hf => hf))
            have HW7 := Lib.hid (HW6.out.pure hh.pure)
            have HR7 := Lib.hid (HR6.out.keep hh.pure (fun _ _ hf => hf))
            have HF7 := Lib.hid (show Row w7 103 2 (.slice A7 nL c7) nL (htVs L) by have := hh.row; rw [HNL.out] at this; exact this)
            clear hh HW6 HR6 HK6 xc6
            go_wp2_with fail
            refine (hsame_ A5 A7 nL c5 c7 _ _ L w7 HR7.out.sees HF7.out.sees (by omega)).mono ?_
            rintro e w8 ⟨rfl, hk⟩
            have HK8 := Lib.hid (HK7.out.trans hk (fun _ _ hf => hf))
            have HW8 := Lib.hid (HW7.out.pure hk)
            clear hk HW7 HR7 HF7 HK7
            go_wp2_with fail
            refine (HSEE.out _ _ HW8.out).mono ?_
            rintro e w9 ⟨rfl, rfl⟩
            go_wp2_with fail
            refine (whits_ g k0 l (u ++ pt) (nh + nL) _ HW8.out).mono ?_
            rintro e w9 ⟨rfl, rfl⟩
            go_wp2_with fail
            refine (HOPN.out _ _ HW8.out).mono ?_
            rintro e w10 ⟨rfl, hk⟩
            have HK10 := Lib.hid (HK8.out.trans hk (fun _ _ hf => hf))
            have HW10 := Lib.hid (HW8.out.pure hk)
            clear hk HW8 HK8
            by_cases hz0 : 0 ≤ z0
            · have HCL := Lib.hid (HCLR.out _ _ HW10.out hz0)
              by_cases hA : 1 < z0 ∧ (q : Int) < z0 - 1
              · have hA1 : 1 < z0 := hA.1
                have hA2 : (q : Int) < z0 - 1 := hA.2
                have hmx : max 0 (z0 - 1 - (q : Int)) = z0 - 1 - (q : Int) := by omega
                rw [hmx] at HCL
                clear hA hmx
                go_wp2_with fail
                refine HCL.out.mono ?_
                rintro e w11 ⟨rfl, hk⟩
                have HW11 := Lib.hid (HW10.out.pure hk)
                have HK11 := Lib.hid (HK10.out.trans hk (fun _ _ hf => hf))
                clear hk
                go_wp2
                go_roundg g3
                case measure => omega
                case rel => exact ⟨i + 1, nh + nL, by omega, by go_num, by go_num, by rw [HUN.out], by rw [HUN.out, HTN.out]; omega, by omega, by rw [HUN.out]; exact HW11, HK11⟩
              · have hmx : max 0 (z0 - 1 - (q : Int)) = 0 := by omega
                rw [hmx] at HCL
                by_cases hA1 : 1 < z0
                · have hA2 : ¬ (q : Int) < z0 - 1 := fun h => hA ⟨hA1, h⟩
                  clear hA hmx
                  go_wp2_with fail
                  refine HCL.out.mono ?_
                  rintro e w11 ⟨rfl, hk⟩
                  have HW11 := Lib.hid (HW10.out.pure hk)
                  have HK11 := Lib.hid (HK10.out.trans hk (fun _ _ hf => hf))
                  clear hk
                  go_wp2
                  go_roundg g3
                  case measure => omega
                  case rel => exact ⟨i + 1, nh + nL, by omega, by go_num, by go_num, by rw [HUN.out], by rw [HUN.out, HTN.out]; omega, by omega, by rw [HUN.out]; exact HW11, HK11⟩
                · clear hA hmx
                  go_wp2_with fail
                  refine HCL.out.mono ?_
                  rintro e w11 ⟨rfl, hk⟩
                  have HW11 := Lib.hid (HW10.out.pure hk)
                  have HK11 := Lib.hid (HK10.out.trans hk (fun _ _ hf => hf))
                  clear hk
                  go_wp2
                  go_roundg g3
                  case measure => omega
                  case rel => exact ⟨i + 1, nh + nL, by omega, by go_num, by go_num, by rw [HUN.out], by rw [HUN.out, HTN.out]; omega, by omega, by rw [HUN.out]; exact HW11, HK11⟩
            · have hA1 : ¬ 1 < z0 := by omega
              go_wp2
              go_roundg g3
              case measure => omega
              case rel => exact ⟨i + 1, nh + nL, by omega, by go_num, by go_num, by rw [HUN.out], by rw [HUN.out, HTN.out]; omega, by omega, by rw [HUN.out]; exact HW10, HK10⟩

end Go.Proofs.YtkbdfnmeomkpjaaGreat
