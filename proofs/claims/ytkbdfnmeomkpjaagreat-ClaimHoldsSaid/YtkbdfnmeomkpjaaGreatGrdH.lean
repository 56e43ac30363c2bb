/- Leaps within bounds; no condition but the sizes. -/
import Derived.Test.YtkbdfnmeomkpjaaGreatGrdG
import Derived.Lib.EndianBits
namespace Go.Proofs.YtkbdfnmeomkpjaaGreat
open Go.RowKit
set_option linter.unusedVariables false
set_option linter.unusedSimpArgs false
set_option maxRecDepth 100000

/-- Lists of numbers of two bytes, as a guard keeps them. -/
def TwosAt (w : World) (b : Nat) (T : List (List Nat)) : Prop := ∀ (k : Nat) (L : List Nat), T[k]? = some L → ∃ A cap, w.cell? ⟨b, k, none⟩ = some (.slice A L.length cap) ∧ ∀ w', Pure' w w' → U16At w' A L
set_option maxHeartbeats 2000000 in
theorem leaps_in (g b cap a c k : Nat) (T : List (List Nat)) (w : World) (ha : a < 256) (hc : c < 256) (hg : w.cell? ⟨g, 2, none⟩ = some (.slice (some ⟨b, 0, none⟩) T.length cap)) (hbl : b < w.heap.size) (hT : TwosAt w b T) (hs : ∀ L ∈ T, L.Pairwise (· < ·) ∧ L.length ≤ 1000) (hn : T.length ≤ 1000) (hcap : T.length ≤ cap) (hk1 : 1 ≤ k) (hk : k ≤ T.length) :
    Calls Tryz.prog 75 #[.pointer (some ⟨g, 0, none⟩), .int .u8 (a : Int), .int .u8 (c : Int), .int .i64 (k : Int)] w fun e w' => e = .returned (.bool (!((T.take k).any fun L => decide (256 * a + c ∈ L)))) ∧ Pure' w w' := by
  have HT := Lib.hid hT
  have HS := Lib.hid hs
  have HKL := Lib.hid hk
  have h1 : ¬ (k : Int) < 1 := by omega
  have h2 : ¬ (T.length : Int) < (k : Int) := by omega
  have h3 : (k : Int) ≤ (cap : Int) := by omega
  obtain ⟨m, hm⟩ : ∃ m, T.length = m := ⟨_, rfl⟩
  have HN := Lib.hid hm
  rw [hm] at hg hn hcap hk h2 HKL
  clear hm
  clear hT hs hk
  go_enter Tryz.func75, Tryz.ntmps75
  go_wp2_with fail
  go_loopg [8, 10, 11, 12, 35, 36, 37, 38, 42, 43, 45, 46, 47, 48, 49] k (fun gh v8 v10 v11 v12 v35 v36 v37 v38 v42 v43 v45 v46 v47 v48 v49 wr => ∃ i : Nat, i + gh = k ∧ v35 = .int .i64 (i : Int) ∧ RowKit.Hid (∀ (j : Nat) L, j < i → T[j]? = some L → ¬ (256 * a + c ∈ L)) ∧ RowKit.Hid (Pure' w wr))
  case atStart => exact ⟨0, by omega, rfl, Lib.hid (by intro j L hj; omega), Lib.hid (Keeps.refl _ _)⟩
  case round =>
    obtain ⟨i, hig, rfl, HNO, HW⟩ := hrel
    cases gk with
    | zero =>
      obtain rfl : i = k := by omega
      have hno : (T.take i).any (fun L => decide (256 * a + c ∈ L)) = false := by
        rw [List.any_eq_false]
        intro L hL
        obtain ⟨j, hj, rfl⟩ := List.getElem_of_mem hL
        have hj2 : j < i := by rw [List.length_take] at hj; omega
        have hjl : T[j]? = some ((T.take i)[j]) := by
          have : (T.take i)[j]? = some ((T.take i)[j]) := List.getElem?_eq_getElem hj
          rw [List.getElem?_take, if_pos hj2] at this
          exact this
        exact fun h => HNO.out j _ hj2 hjl (of_decide_eq_true h)
      have HM := Lib.hid hno
      clear hno
      go_wp2_with fail
      go_ret
      exact ⟨congrArg (fun q => Ending.returned (Value.bool (!q))) HM.out.symm, HW.out⟩
    | succ g3 =>
      have hii : (i : Int) < (k : Int) := by omega
      have him : i < m := by omega
      obtain ⟨L, hL⟩ : ∃ L, T[i]? = some L := ⟨_, List.getElem?_eq_getElem (by rw [HN.out]; exact him)⟩
      have HL := Lib.hid hL
      obtain ⟨A, cp, hcell, hu⟩ := HT.out i L hL
      have hcw : wr.cell? ⟨b, i, none⟩ = some (.slice A L.length cp) := by
        rw [← hcell]
        have := HW.out.block b hbl (fun hf => hf)
        simp only [World.cell?, this]
      have hgw : bits BinOp.or IntKind.u16 ((a : Int) * 256) (c : Int) = ((256 * a + c : Nat) : Int) := by
        rw [bits_join .u16 16 (by decide) wraps_u16 8 ((a : Int) * 256) (c : Int) (by omega) (by omega) (by omega) (by omega) (by omega) (by omega)]
        omega
      have HB := Lib.hid (bsearch_ A cp (256 * a + c) L wr (hu wr HW.out) (HS.out L (List.mem_of_getElem? hL)).1 (HS.out L (List.mem_of_getElem? hL)).2)
      clear hL hcell hu
      go_wp2_with fail
      rw [Int.natCast_add, Int.natCast_mul] at HB
      refine HB.out.mono ?_
      rintro e w1 ⟨⟨v, rfl⟩, hk2⟩
      have HW1 := Lib.hid (HW.out.trans hk2 (fun _ _ hf => hf))
      clear hk2 hcw hgw
      obtain ⟨q, hq⟩ : ∃ q, decide (256 * a + c ∈ L) = q := ⟨_, rfl⟩
      rw [hq]
      have HQ := Lib.hid hq
      clear hq
      cases q with
      | true =>
        have hyes : (T.take k).any (fun L => decide (256 * a + c ∈ L)) = true := by
          rw [List.any_eq_true]
          exact ⟨L, List.mem_of_getElem? (by rw [List.getElem?_take, if_pos (show i < k by omega)]; exact HL.out), HQ.out⟩
        have HM := Lib.hid hyes
        clear hyes
        go_wp2_with fail
        go_ret
        exact ⟨congrArg (fun q => Ending.returned (Value.bool (!q))) HM.out.symm, HW1.out⟩
      | false =>
        go_wp2_with fail
        go_roundg g3
        case measure => omega
        case rel =>
          refine ⟨i + 1, by omega, by go_num, Lib.hid ?_, HW1⟩
          intro j L2 hj hL2
          by_cases he : j = i
          · subst he
            have := HL.out
            rw [this] at hL2
            injection hL2 with hL2
            rw [← hL2]
            exact of_decide_eq_false HQ.out
          · exact HNO.out j L2 (by omega) hL2
end Go.Proofs.YtkbdfnmeomkpjaaGreat
