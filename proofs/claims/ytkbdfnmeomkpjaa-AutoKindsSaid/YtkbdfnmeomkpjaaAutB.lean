/- All kinds of automata lead to the same states; no condition. -/
import Derived.Test.YtkbdfnmeomkpjaaAutA
namespace Go.Proofs.Ytkbdfnmeomkpjaa
open Go.RowKit
set_option linter.unusedVariables false
set_option linter.unusedSimpArgs false
set_option maxRecDepth 100000

set_option maxHeartbeats 1000000 in
theorem akind_nil (w : World) : Calls Try.prog 54 #[.pointer none] w fun e w' => e = .returned (.int .i64 0) ∧ w' = w := by
  go_enter Try.func54, Try.ntmps54
  go_wp2
  go_ret
  exact ⟨rfl, rfl⟩
set_option maxHeartbeats 1000000 in
theorem alen_nil (w : World) : Calls Try.prog 55 #[.pointer none] w fun e w' => e = .returned (.int .i64 0) ∧ w' = w := by
  go_enter Try.func55, Try.ntmps55
  go_wp2
  go_ret
  exact ⟨rfl, rfl⟩
set_option maxHeartbeats 1000000 in
theorem acells_nil (w : World) : Calls Try.prog 57 #[.pointer none] w fun e w' => e = .returned (.int .i64 0) ∧ w' = w := by
  go_enter Try.func57, Try.ntmps57
  go_wp2
  go_ret
  exact ⟨rfl, rfl⟩
set_option maxHeartbeats 1000000 in
theorem astep_nil (k c : Int) (w : World) : Calls Try.prog 56 #[.pointer none, .int .i64 k, .int .u8 c] w fun e w' => e = .returned (.int .i64 0) ∧ w' = w := by
  go_enter Try.func56, Try.ntmps56
  go_wp2
  go_ret
  exact ⟨rfl, rfl⟩
set_option maxHeartbeats 1000000 in
theorem adepth_nil (k : Int) (w : World) : Calls Try.prog 53 #[.pointer none, .int .i64 k] w fun e w' => e = .returned (.int .i64 0) ∧ w' = w := by
  go_enter Try.func53, Try.ntmps53
  go_wp2
  go_ret
  exact ⟨rfl, rfl⟩
set_option maxHeartbeats 1000000 in
theorem ahits_nil (k : Int) (w : World) : Calls Try.prog 52 #[.pointer none, .int .i64 k] w fun e w' => e = .returned (.slice none 0 0) ∧ w' = w := by
  go_enter Try.func52, Try.ntmps52
  go_wp2
  go_ret
  exact ⟨rfl, rfl⟩
set_option maxHeartbeats 1000000 in
theorem arun_nil (k : Int) (w : World) : Calls Try.prog 51 #[.pointer none, .int .i64 k, .string ⟨#[]⟩] w fun e w' => e = .returned (.int .i64 k) ∧ w' = w := by
  go_enter Try.func51, Try.ntmps51
  go_wp2
  go_loopg [1, 10] 0 (fun gh v1 v10 wr => v1 = .int .i64 k ∧ v10 = .int .i64 0 ∧ wr = w)
  case atStart => exact ⟨rfl, rfl, rfl⟩
  case round =>
    obtain ⟨rfl, rfl, rfl⟩ := hrel
    go_wp2
    go_ret
    exact ⟨rfl, rfl⟩

/-! ### The example -/
def AW2 : List (List UInt8) := [[104, 101], [115, 104, 101]]
def awl2 : List ByteArray := [⟨#[104, 101]⟩, ⟨#[115, 104, 101]⟩]
theorem awl2_ok : OkL awl2 := ⟨by simp [awl2], by decide, by decide⟩
theorem aw2_only {lp : List ByteArray} (h : lp.Perm awl2) (ho : (bl lp).Pairwise (· < ·)) : bl lp = AW2 := by
  have hp : (bl lp).Perm AW2 := h.map _
  exact hp.eq_of_pairwise (le := fun a b => a < b) (fun a b _ _ h1 h2 => absurd h2 (lt_as h1)) ho (by decide)
theorem aw2_states : statesL AW2 = [[], [104], [115], [104, 101], [115, 104], [115, 104, 101]] := by decide
theorem aw2_run : runZ AW2 0 [120, 115, 104, 101] = 5 := by
  simp only [runZ, List.foldl_cons, List.foldl_nil]
  unfold stepZ
  rw [aw2_states]
  decide
theorem aw2_hits : hitsZ AW2 5 = [0, 1] := by
  unfold hitsZ
  rw [aw2_states]
  decide
theorem aw2_depth : depthZ AW2 5 = 3 := by
  unfold depthZ
  rw [aw2_states]
  decide

set_option maxHeartbeats 4000000 in
theorem awake21_ (w : World) : Calls Try.prog 49 #[] w fun e w' => e = .returned (.bool true) ∧ Pure' w w' := by
  have HNEW := Lib.hid (new_ (some ⟨w.heap.size, 0, none⟩) 2 2 _ awl2 (w.alloc (.cells #[.string ⟨#[104, 101]⟩, .string ⟨#[115, 104, 101]⟩] 9)) (sees_new w 9 _ 2 rfl) (Nat.le_refl _) (by decide) (by decide))
  go_enter Try.func49, Try.ntmps49
  go_wp2_with fail
  refine HNEW.out.mono ?_
  rintro e w1 ⟨x, er, lp, rfl, hc, hset, hk⟩
  rcases hc with ⟨_, rfl, hp, ho⟩ | ⟨hno, _⟩
  case inr => exact absurd awl2_ok hno
  have hord := new_ord (l := awl2) (lp := lp) (.inl ⟨awl2_ok, hp, ho⟩)
  have hfew := new_few (l := awl2) (lp := lp) (N := 12) (M := 20) (.inl hp) (by decide) (by decide)
  have hbl := aw2_only hp hord.1
  have HK1 := Lib.hid (((Keeps.refl (fun _ => False) w).alloc _).trans hk (fun _ _ hf => hf))
  have HNA := Lib.hid (fun (W : World) (hW : Pure' w1 W) (kind : Int) => by
    have := newAut_ x lp kind W (hset.pure hW) hfew.1 hfew.2 hord.1 hord.2
    rw [hbl] at this
    exact this)
  clear hp ho hord hfew hbl hk hset HNEW
  go_wp2_with fail
  refine (HNA.out _ (Keeps.refl _ _) 2).mono ?_
  rintro e w2 ⟨hcase, hk⟩
  rcases hcase with ⟨_, _, g, rfl, ha⟩ | ⟨hno, _⟩
  case inr => exact absurd ⟨by decide, by decide⟩ hno
  have HA := Lib.hid ha
  have HK2 := Lib.hid hk
  clear ha hk
  go_wp2_with fail
  refine (HNA.out _ HK2.out 4).mono ?_
  rintro e w3 ⟨hcase, hk⟩
  rcases hcase with ⟨_, h4, _⟩ | ⟨_, rfl⟩
  case inl => exact absurd h4 (by decide)
  have HK3 := Lib.hid hk
  clear hk HNA
  have HRU := Lib.hid (fun (W : World) (hW : Pure' w2 W) => by
    have := arun_ g 2 AW2 0 [120, 115, 104, 101] W (HA.out.pure hW) (by decide)
    rw [aw2_run] at this
    exact this)
  have HHI := Lib.hid (fun (W : World) (hW : Pure' w2 W) => by
    have := ahits_ g 2 AW2 5 W (HA.out.pure hW)
    rw [aw2_hits] at this
    exact this)
  have HDE := Lib.hid (fun (W : World) (hW : Pure' w2 W) => by
    have := adepth_ g 2 AW2 5 W (HA.out.pure hW)
    rw [aw2_depth] at this
    exact this)
  go_wp2_with fail
  refine (HRU.out _ HK3.out).mono ?_
  rintro e w4 ⟨rfl, hk⟩
  have HK4 := Lib.hid (HK3.out.trans hk (fun _ _ hf => hf))
  clear hk
  go_wp2_with fail
  refine (HHI.out _ HK4.out).mono ?_
  rintro e w5 ⟨A, c, rfl, hnm⟩
  have hse : Sees w5 w5.heap.size 1 A 2 (([0, 1] : List Int).map (Value.int .i64)) := hnm.row.sees
  have HSA := Lib.hid (rsame_ A (some ⟨w5.heap.size, 0, none⟩) 2 c 2 w5.heap.size _ [0, 1] (w5.alloc (.cells #[.int .i64 0, .int .i64 1] 3)) (hse.pure ((Keeps.refl _ w5).alloc _) (Nat.le_refl _)) (sees_new w5 3 _ 2 rfl) (by decide))
  have HK5 := Lib.hid (HK4.out.trans hnm.pure (fun _ _ hf => hf))
  clear hse hnm
  go_wp2_with fail
  refine HSA.out.mono ?_
  rintro e w6 ⟨rfl, hk⟩
  have HK6 := Lib.hid ((HK5.out.alloc (.cells #[.int .i64 0, .int .i64 1] 3)).trans (drewn_pure hk) (fun _ _ hf => hf))
  clear hk
  go_wp2_with fail
  refine (HRU.out _ HK6.out).mono ?_
  rintro e w7 ⟨rfl, hk⟩
  have HK7 := Lib.hid (HK6.out.trans hk (fun _ _ hf => hf))
  clear hk
  go_wp2_with fail
  refine (HDE.out _ HK7.out).mono ?_
  rintro e w8 ⟨rfl, rfl⟩
  go_wp2
  go_ret
  exact ⟨rfl, HK1.out.trans (HK2.out.trans HK7.out (fun _ _ hf => hf)) (fun _ _ hf => hf)⟩

set_option maxHeartbeats 8000000 in
theorem kinds_row (w : World) (A : Option Addr) (m c : Nat) (l0 : List ByteArray) (k0 : Int) (s0 : ByteArray) (h0 : m ≤ c ∧ m ≤ maxLen ∧ Sees w w.heap.size 1 A m (l0.map Value.string) ∧ ∀ s ∈ l0, s.size ≤ maxLen) (h1 : -9223372036854775808 ≤ k0 ∧ k0 ≤ 9223372036854775807) (h2 : s0.size ≤ maxLen) :
    Calls Try.prog 9 #[.slice A m c, .int .i64 k0, .string s0] w fun e w' => e = .returned (.bool true) ∧ Pure' w w' := by
  obtain ⟨sl, hsl⟩ : ∃ sl, s0.data.toList = sl := ⟨_, rfl⟩
  have hs0 : s0 = ⟨sl.toArray⟩ := by rw [← hsl]
  subst hs0
  clear hsl
  have hbs : (⟨sl.toArray⟩ : ByteArray).size = sl.length := Lib.size_eq _
  obtain ⟨sn, hsn⟩ : ∃ sn, sl.length = sn := ⟨_, rfl⟩
  have HSN := Lib.hid hsn
  rw [hsn] at hbs
  rw [hbs] at h2
  clear hsn
  obtain ⟨_, hm, hse, hsz⟩ := h0
  have hll : l0.length = m := by have := hse.1; simpa using this
  have HFEW := Lib.hid (few_ A m c w.heap.size l0 w hse 8 12 (by decide) (by decide) hm hsz)
  have HAW := Lib.hid awake21_
  have HSE := Lib.hid hse
  have HLL := Lib.hid hll
  clear hse hsz hll
  go_enter Try.func9, Try.ntmps9
  go_wp2_with fail
  refine HFEW.out.mono ?_
  rintro e w1 ⟨⟨b0, rfl, hb0⟩, rfl⟩
  cases b0 with
  | false =>
    clear hb0
    go_wp2_with fail
    refine (HAW.out _).mono ?_
    rintro e w2 ⟨rfl, hk⟩
    have HK := Lib.hid hk
    clear hk
    go_wp2
    go_ret
    exact ⟨rfl, HK.out⟩
  | true =>
    obtain ⟨hf1, hf2⟩ := hb0.1 rfl
    by_cases h60 : 60 < sn
    · have h60i : (60 : Int) < (sn : Int) := by omega
      clear hb0 hf1 hf2
      go_wp2_with fail
      refine (HAW.out _).mono ?_
      rintro e w2 ⟨rfl, hk⟩
      have HK := Lib.hid hk
      clear hk
      go_wp2
      go_ret
      exact ⟨rfl, HK.out⟩
    have h60i : ¬ (60 : Int) < (sn : Int) := by omega
    have hm12 : m ≤ 12 := by rw [← HLL.out]; omega
    have hf3 : ∀ s ∈ l0, s.size ≤ 20 := fun s hs => by have := hf2 s hs; omega
    have HNEW := Lib.hid (new_ A m c _ l0 w HSE.out (Nat.le_refl _) hm12 hf3)
    have HF3 := Lib.hid hf3
    clear hb0 hf2 hf3
    go_wp2_with fail
    refine HNEW.out.mono ?_
    rintro e w2 ⟨x, er, lp, rfl, hc, hset, hk⟩
    have hc1 : (OkL l0 ∧ lp.Perm l0 ∧ InOrd lp) ∨ lp = [] := by
      rcases hc with ⟨a1, _, a2, a3⟩ | ⟨_, a, _⟩
      · exact .inl ⟨a1, a2, a3⟩
      · exact .inr a
    have hord := new_ord hc1
    have hfew := new_few (l := l0) (lp := lp) (N := 12) (M := 20) (by rcases hc1 with a | a; exact .inl a.2.1; exact .inr a) (by rw [HLL.out]; exact hm12) HF3.out
    have HNA := Lib.hid (fun (W : World) (hW : Pure' w2 W) (kind : Int) => newAut_ x lp kind W (hset.pure hW) hfew.1 hfew.2 hord.1 hord.2)
    have HK2 := Lib.hid hk
    generalize bl lp = l at *
    clear hc hc1 hord hfew hset hk HNEW
    go_wp2_with fail
    refine (HNA.out _ (Keeps.refl _ _) 1).mono ?_
    rintro e w3 ⟨hcase, hk⟩
    rcases hcase with ⟨_, _, g1, rfl, ha⟩ | ⟨hno, _⟩
    case inr => exact absurd ⟨by decide, by decide⟩ hno
    have HA1 := Lib.hid ha
    have HK3 := Lib.hid hk
    clear ha hk
    go_wp2_with fail
    refine (HNA.out _ HK3.out 2).mono ?_
    rintro e w4 ⟨hcase, hk⟩
    rcases hcase with ⟨_, _, g2, rfl, ha⟩ | ⟨hno, _⟩
    case inr => exact absurd ⟨by decide, by decide⟩ hno
    have HA2 := Lib.hid ha
    have HK34 := Lib.hid hk
    have HK4 := Lib.hid (HK3.out.trans hk (fun _ _ hf => hf))
    clear ha hk
    go_wp2_with fail
    refine (HNA.out _ HK4.out 3).mono ?_
    rintro e w5 ⟨hcase, hk⟩
    rcases hcase with ⟨_, _, g3, rfl, ha⟩ | ⟨hno, _⟩
    case inr => exact absurd ⟨by decide, by decide⟩ hno
    have HA3 := Lib.hid ha
    have HK45 := Lib.hid hk
    have HK5 := Lib.hid (HK4.out.trans hk (fun _ _ hf => hf))
    clear ha hk HNA
    have HB1 := Lib.hid (HA1.out.pure (HK34.out.trans HK45.out (fun _ _ hf => hf)))
    have HB2 := Lib.hid (HA2.out.pure HK45.out)
    clear HA1 HA2
    have hsl1 : sl.length ≤ 100000 := by rw [HSN.out]; omega
    obtain ⟨z, hz⟩ : ∃ z, runZ l k0 sl = z := ⟨_, rfl⟩
    obtain ⟨hzs, hhz⟩ : ∃ q, hitsZ l z = q := ⟨_, rfl⟩
    obtain ⟨hn, hhn⟩ : ∃ q, hzs.length = q := ⟨_, rfl⟩
    obtain ⟨dz, hdz⟩ : ∃ q, depthZ l z = q := ⟨_, rfl⟩
    have hhb : hn ≤ 12 := by
      rw [← hhn, ← hhz]
      unfold hitsZ
      split
      · unfold hitsI
        rw [List.length_map]
        refine Nat.le_trans (List.length_filter_le _ _) ?_
        rw [List.length_range]
        exact HA3.out.few
      · exact Nat.zero_le _
    have HRU := Lib.hid (fun (g : Nat) (kind : Int) (W : World) (hW : AutI W g kind l) => by
      have := arun_ g kind l k0 sl W hW hsl1
      rw [hz] at this
      exact this)
    have HHI := Lib.hid (fun (g : Nat) (kind : Int) (W : World) (hW : AutI W g kind l) => by
      have := ahits_ g kind l z W hW
      rw [hhz, hhn] at this
      exact this)
    have HDE := Lib.hid (fun (g : Nat) (kind : Int) (W : World) (hW : AutI W g kind l) => by
      have := adepth_ g kind l z W hW
      rw [hdz] at this
      exact this)
    have HHN := Lib.hid hhn
    clear hz hhz hhn hdz hsl1
    go_wp2_with fail
    refine (HRU.out g1 1 _ HB1.out).mono ?_
    rintro e w6 ⟨rfl, hk⟩
    have HW6 := Lib.hid hk
    clear hk
    go_wp2_with fail
    refine (HRU.out g2 2 _ (HB2.out.pure HW6.out)).mono ?_
    rintro e w7 ⟨rfl, hk⟩
    have HW7 := Lib.hid (HW6.out.trans hk (fun _ _ hf => hf))
    clear hk HW6
    go_wp2_with fail
    refine (HRU.out g3 3 _ (HA3.out.pure HW7.out)).mono ?_
    rintro e w8 ⟨rfl, hk⟩
    have HW8 := Lib.hid (HW7.out.trans hk (fun _ _ hf => hf))
    clear hk HW7
    go_wp2_with fail
    refine (HHI.out g1 1 _ (HB1.out.pure HW8.out)).mono ?_
    rintro e w9 ⟨P1, q1, rfl, hnm⟩
    have HN1 := Lib.hid hnm
    have HW9 := Lib.hid (HW8.out.trans hnm.pure (fun _ _ hf => hf))
    clear hnm HW8
    go_wp2_with fail
    refine (HHI.out g2 2 _ (HB2.out.pure HW9.out)).mono ?_
    rintro e wa ⟨P2, q2, rfl, hnm⟩
    have HN2 := Lib.hid hnm
    have HWA := Lib.hid (HW9.out.trans hnm.pure (fun _ _ hf => hf))
    clear hnm HW9
    go_wp2_with fail
    refine (rsame_ P1 P2 hn q1 q2 _ _ hzs _ (by have := HN1.out.row.keep HN2.out.pure (fun _ _ hf => hf); rw [HHN.out] at this; exact this.sees) (by have := HN2.out.row; rw [HHN.out] at this; exact this.sees) (by omega)).mono ?_
    rintro e wb ⟨rfl, hk⟩
    have HWB := Lib.hid (HWA.out.trans (drewn_pure hk) (fun _ _ hf => hf))
    clear hk HWA HN1 HN2
    go_wp2_with fail
    refine (HHI.out g1 1 _ (HB1.out.pure HWB.out)).mono ?_
    rintro e wc ⟨P3, q3, rfl, hnm⟩
    have HN1 := Lib.hid hnm
    have HWC := Lib.hid (HWB.out.trans hnm.pure (fun _ _ hf => hf))
    clear hnm HWB
    go_wp2_with fail
    refine (HHI.out g3 3 _ (HA3.out.pure HWC.out)).mono ?_
    rintro e wd ⟨P4, q4, rfl, hnm⟩
    have HN2 := Lib.hid hnm
    have HWD := Lib.hid (HWC.out.trans hnm.pure (fun _ _ hf => hf))
    clear hnm HWC
    go_wp2_with fail
    refine (rsame_ P3 P4 hn q3 q4 _ _ hzs _ (by have := HN1.out.row.keep HN2.out.pure (fun _ _ hf => hf); rw [HHN.out] at this; exact this.sees) (by have := HN2.out.row; rw [HHN.out] at this; exact this.sees) (by omega)).mono ?_
    rintro e we ⟨rfl, hk⟩
    have HWE := Lib.hid (HWD.out.trans (drewn_pure hk) (fun _ _ hf => hf))
    clear hk HWD HN1 HN2
    go_wp2_with fail
    refine (HDE.out g1 1 _ (HB1.out.pure HWE.out)).mono ?_
    rintro e wf ⟨rfl, rfl⟩
    go_wp2_with fail
    refine (HDE.out g2 2 _ (HB2.out.pure HWE.out)).mono ?_
    rintro e wf ⟨rfl, rfl⟩
    go_wp2_with fail
    refine (HDE.out g1 1 _ (HB1.out.pure HWE.out)).mono ?_
    rintro e wf ⟨rfl, rfl⟩
    go_wp2_with fail
    refine (HDE.out g3 3 _ (HA3.out.pure HWE.out)).mono ?_
    rintro e wf ⟨rfl, rfl⟩
    go_wp2_with fail
    refine (akind_nil _).mono ?_
    rintro e wf ⟨rfl, rfl⟩
    go_wp2_with fail
    refine (alen_nil _).mono ?_
    rintro e wf ⟨rfl, rfl⟩
    go_wp2_with fail
    refine (astep_nil k0 97 _).mono ?_
    rintro e wf ⟨rfl, rfl⟩
    go_wp2_with fail
    refine (adepth_nil k0 _).mono ?_
    rintro e wf ⟨rfl, rfl⟩
    go_wp2_with fail
    refine (ahits_nil k0 _).mono ?_
    rintro e wf ⟨rfl, rfl⟩
    go_wp2_with fail
    refine (acells_nil _).mono ?_
    rintro e wf ⟨rfl, rfl⟩
    go_wp2_with fail
    refine (arun_nil k0 _).mono ?_
    rintro e wf ⟨rfl, rfl⟩
    go_wp2_with fail
    refine (HAW.out _).mono ?_
    rintro e wg ⟨rfl, hk⟩
    have HKE := Lib.hid (HK2.out.trans (HK5.out.trans (HWE.out.trans hk (fun _ _ hf => hf)) (fun _ _ hf => hf)) (fun _ _ hf => hf))
    clear hk
    go_wp2
    go_ret
    exact ⟨rfl, HKE.out⟩

end Go.Proofs.Ytkbdfnmeomkpjaa
