/- cmp's order at uint16; no condition. -/
import Derived.Test.YtkbdfnmeomkpjaaGreatGrdD
namespace Go.Proofs.YtkbdfnmeomkpjaaGreat
open Go.RowKit
set_option linter.unusedVariables false
set_option linter.unusedSimpArgs false
set_option maxRecDepth 100000

set_option maxHeartbeats 1000000 in
theorem isnan16_ (x : Int) (w : World) : Calls Tryz.prog 155 #[.int .u16 x] w fun e w' => e = .returned (.bool false) ∧ w = w' := by
  go_enter Tryz.func155, Tryz.ntmps155
  go_wp2_with fail
  go_ret
  simp
set_option maxHeartbeats 1000000 in
theorem less16_ (x y : Int) (w : World) : Calls Tryz.prog 114 #[.int .u16 x, .int .u16 y] w fun e w' => e = .returned (.bool (decide (x < y))) ∧ w = w' := by
  have H := Lib.hid (fun v w => isnan16_ v w)
  go_enter Tryz.func114, Tryz.ntmps114
  go_wp2_with (refine (H.out _ _).mono ?_; rintro e w1 ⟨rfl, rfl⟩)
  go_ret
  simp
set_option maxHeartbeats 1000000 in
theorem isnan16s_ (x : Int) (w : World) : Calls Tryz.prog 141 #[.int .u16 x] w fun e w' => e = .returned (.bool false) ∧ w = w' := by
  go_enter Tryz.func141, Tryz.ntmps141
  go_wp2_with fail
  go_ret
  simp

/-- Numbers of two bytes that a slice shows. -/
def U16At (w : World) (A : Option Addr) (L : List Nat) : Prop := ∀ (k y : Nat), L[k]? = some y → ∃ b o, A = some ⟨b, o, none⟩ ∧ w.cell? ⟨b, o + k, none⟩ = some (.int .u16 (y : Int))
set_option maxHeartbeats 2000000 in
theorem bsearch_ (A : Option Addr) (cap y : Nat) (L : List Nat) (w : World) (h : U16At w A L) (hs : L.Pairwise (· < ·)) (hn : L.length ≤ 1000) :
    Calls Tryz.prog 104 #[.slice A L.length cap, .int .u16 (y : Int)] w fun e w' => (∃ v : Int, e = .returned (.tuple #[.int .i64 v, .bool (decide (y ∈ L))])) ∧ Pure' w w' := by
  have HLT := Lib.hid (fun a b w => less16_ a b w)
  have HU := Lib.hid h
  have HS := Lib.hid hs
  obtain ⟨n, hnn⟩ : ∃ n, L.length = n := ⟨_, rfl⟩
  have HN := Lib.hid hnn
  rw [hnn] at hn ⊢
  clear h hs hnn
  go_enter Tryz.func104, Tryz.ntmps104
  go_wp2_with fail
  go_loopg [7, 8, 9, 15, 18, 19, 20, 21, 25, 27] n (fun gh v7 v8 v9 v15 v18 v19 v20 v21 v25 v27 wr => ∃ i j : Nat, v7 = .int .i64 (i : Int) ∧ v8 = .int .i64 (j : Int) ∧ i ≤ j ∧ j ≤ n ∧ j - i ≤ gh ∧ RowKit.Hid (∀ k z, k < i → L[k]? = some z → z < y) ∧ RowKit.Hid (∀ k z, j ≤ k → L[k]? = some z → y ≤ z) ∧ RowKit.Hid (w = wr))
  case atStart => exact ⟨0, n, rfl, rfl, by omega, by omega, by omega, Lib.hid (by intro k z hk; omega), Lib.hid (by intro k z hk hz; have := (List.getElem?_eq_some_iff.1 hz).1; rw [HN.out] at this; omega), Lib.hid rfl⟩
  case round =>
    obtain ⟨i, j, rfl, rfl, hij, hjn, hgh, HLO, HHI, HW⟩ := hrel
    by_cases hlt : (i : Int) < (j : Int)
    · obtain ⟨z, hz⟩ : ∃ z, L[(i + j) / 2]? = some z := ⟨_, List.getElem?_eq_getElem (by rw [HN.out]; omega)⟩
      have HZ := Lib.hid hz
      obtain ⟨b, o, rfl, hcell⟩ := HU.out _ _ hz
      have hcw : wr.cell? ⟨b, o + (i + j) / 2, none⟩ = some (.int .u16 (z : Int)) := by rw [← HW.out]; exact hcell
      obtain ⟨md, hmd⟩ : ∃ md, (i + j) / 2 = md := ⟨_, rfl⟩
      have hmi : ((i : Int) + (j : Int)) / 2 = (md : Int) := by omega
      have hmn : (md : Int) < (n : Int) := by omega
      rw [hmd] at hcw hz HZ
      clear hz hcell
      have HMD := Lib.hid (show i ≤ md ∧ md < j by omega)
      clear hmd
      go_wp2_with fail
      refine (HLT.out _ _ _).mono ?_
      rintro e w1 ⟨rfl, rfl⟩
      by_cases hzy : (z : Int) < (y : Int)
      · rw [decide_eq_true hzy]
        go_wp2_with fail
        go_roundg (gk - 1)
        case measure => have := HMD.out; omega
        case rel =>
          refine ⟨md + 1, j, by go_num, rfl, by have := HMD.out; omega, hjn, by have := HMD.out; omega, Lib.hid ?_, HHI, HW⟩
          intro k u hk hu
          by_cases he : k = md
          · subst he
            rw [HZ.out] at hu
            injection hu with hu
            omega
          · obtain ⟨hk1, hk2⟩ := List.getElem?_eq_some_iff.1 hu
            obtain ⟨hm1, hm2⟩ := List.getElem?_eq_some_iff.1 HZ.out
            have := List.pairwise_iff_getElem.1 HS.out k md hk1 hm1 (by omega)
            rw [hk2, hm2] at this
            omega
      · rw [decide_eq_false hzy]
        go_wp2_with fail
        go_roundg (gk - 1)
        case measure => have := HMD.out; omega
        case rel =>
          refine ⟨i, md, rfl, rfl, by have := HMD.out; omega, by have := HMD.out; omega, by have := HMD.out; omega, HLO, Lib.hid ?_, HW⟩
          intro k u hk hu
          by_cases he : k = md
          · subst he
            rw [HZ.out] at hu
            injection hu with hu
            omega
          · obtain ⟨hk1, hk2⟩ := List.getElem?_eq_some_iff.1 hu
            obtain ⟨hm1, hm2⟩ := List.getElem?_eq_some_iff.1 HZ.out
            have := List.pairwise_iff_getElem.1 HS.out md k hm1 hk1 (by omega)
            rw [hk2, hm2] at this
            omega
    · obtain rfl : i = j := by omega
      have HNX := Lib.hid (fun v w => isnan16s_ v w)
      have hmem : ∀ z, L[i]? = some z → (decide (y ∈ L) = decide ((z : Int) = (y : Int))) := by
        intro z hz
        by_cases he : z = y
        · subst he
          rw [decide_eq_true rfl]
          exact decide_eq_true (List.mem_of_getElem? hz)
        · rw [decide_eq_false (show ¬ (z : Int) = (y : Int) by omega)]
          refine decide_eq_false fun hm => ?_
          obtain ⟨k, hk, hky⟩ := List.getElem_of_mem hm
          have hky2 : L[k]? = some y := by rw [List.getElem?_eq_getElem hk, hky]
          by_cases hki : k < i
          · have := HLO.out k y hki hky2
            omega
          · by_cases hke : k = i
            · subst hke
              rw [hz] at hky2
              injection hky2 with h
              exact he h
            · obtain ⟨hi1, hi2⟩ := List.getElem?_eq_some_iff.1 hz
              have h1 := List.pairwise_iff_getElem.1 HS.out i k hi1 hk (by omega)
              rw [hi2, hky] at h1
              have := HHI.out i z (Nat.le_refl _) hz
              omega
      by_cases hin : (i : Int) < (n : Int)
      · obtain ⟨z, hz⟩ : ∃ z, L[i]? = some z := ⟨_, List.getElem?_eq_getElem (by rw [HN.out]; omega)⟩
        obtain ⟨b, o, rfl, hcell⟩ := HU.out _ _ hz
        have hcw : wr.cell? ⟨b, o + i, none⟩ = some (.int .u16 (z : Int)) := by rw [← HW.out]; exact hcell
        have hm2 := hmem z hz
        clear hmem hz hcell
        by_cases hzy : (z : Int) = (y : Int)
        · rw [decide_eq_true hzy] at hm2
          have HM := Lib.hid hm2
          clear hm2
          go_wp2_with fail
          go_ret2
          exact ⟨⟨i, congrArg (fun q => Ending.returned (Value.tuple #[Value.int IntKind.i64 (i : Int), Value.bool q])) HM.out.symm⟩, by rw [HW.out]; exact Keeps.refl _ _⟩
        · rw [decide_eq_false hzy] at hm2
          have HM := Lib.hid hm2
          clear hm2
          go_wp2_with (refine (HNX.out _ _).mono ?_; rintro e w1 ⟨rfl, rfl⟩)
          go_ret2
          exact ⟨⟨i, congrArg (fun q => Ending.returned (Value.tuple #[Value.int IntKind.i64 (i : Int), Value.bool q])) ((beq_eq_false_iff_ne.2 hzy).trans HM.out.symm)⟩, by rw [HW.out]; exact Keeps.refl _ _⟩
      · have hno : decide (y ∈ L) = false := by
          refine decide_eq_false fun hm => ?_
          obtain ⟨k, hk, hky⟩ := List.getElem_of_mem hm
          have hky2 : L[k]? = some y := by rw [List.getElem?_eq_getElem hk, hky]
          have := HLO.out k y (by rw [HN.out] at hk; omega) hky2
          omega
        have HM := Lib.hid hno
        clear hmem hno
        go_wp2_with fail
        go_ret2
        exact ⟨⟨i, congrArg (fun q => Ending.returned (Value.tuple #[Value.int IntKind.i64 (i : Int), Value.bool q])) HM.out.symm⟩, by rw [HW.out]; exact Keeps.refl _ _⟩
end Go.Proofs.YtkbdfnmeomkpjaaGreat
