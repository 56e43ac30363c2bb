/- The first row of four words that has a byte; no condition but the sizes. -/
import Derived.Test.YtkbdfnmeomkpjaaGreatGrdB
namespace Go.Proofs.YtkbdfnmeomkpjaaGreat
open Go.RowKit
set_option linter.unusedVariables false
set_option linter.unusedSimpArgs false
set_option maxRecDepth 100000

/-- A row of a guard: four words. -/
abbrev GR := Nat × Nat × Nat × Nat
def grC (r : GR) : Array Value := rowC r.1 r.2.1 r.2.2.1 r.2.2.2
def grHas (r : GR) (c : Nat) : Bool := rowHas r.1 r.2.1 r.2.2.1 r.2.2.2 c
def grOk (r : GR) : Prop := ∀ u ∈ [r.1, r.2.1, r.2.2.1, r.2.2.2], u < 18446744073709551616
/-- Rows that lie in a block, one behind the other. -/
def RowsAt (w : World) (b : Nat) (R : List GR) : Prop := ∀ k r, R[k]? = some r → ∀ j, j < 4 → w.cell? ⟨b, k * 4 + j, none⟩ = (grC r)[j]?
theorem RowsAt.pure {w w' : World} {b : Nat} {R : List GR} (h : RowsAt w b R) (hb : b < w.heap.size) (hk : Pure' w w') : RowsAt w' b R := by
  intro k r hr j hj
  rw [← h k r hr j hj]
  have := hk.block b hb (fun hf => hf)
  simp only [World.cell?, this]

set_option maxHeartbeats 1000000 in
theorem indexf_ (bc c b cap : Nat) (R : List GR) (w : World) (hc : c < 256) (hbc : w.cell? ⟨bc, 0, none⟩ = some (.int .u8 (c : Int))) (hb : bc < w.heap.size) (hbb : b < w.heap.size) (hR : RowsAt w b R) (hok : ∀ r ∈ R, grOk r) (hn : R.length ≤ 1000) :
    Calls Tryz.prog 140 #[.slice (some ⟨b, 0, none⟩) R.length cap, .func (.func 102) #[] #[.pointer (some ⟨bc, 0, none⟩)]] w fun e w' => (∃ v : Int, e = .returned (.int .i64 v) ∧ (0 ≤ v ↔ ∃ r ∈ R, grHas r c = true)) ∧ Pure' w w' := by
  have HF := Lib.hid (fun (k : Nat) (r : GR) (w1 : World) (hr : R[k]? = some r) (hk : Pure' w w1) => skips1_ bc c r.1 r.2.1 r.2.2.1 r.2.2.2 w1 hc (by have := hk.block bc hb (fun hf => hf); simp only [World.cell?, this] at hbc ⊢; exact hbc) (by have := hk.size; omega) (hok r (List.mem_of_getElem? hr)))
  have HR := Lib.hid (fun (w1 : World) (hk : Pure' w w1) => hR.pure hbb hk)
  obtain ⟨n, hnn⟩ : ∃ n, R.length = n := ⟨_, rfl⟩
  have HN := Lib.hid hnn
  rw [hnn] at hn ⊢
  clear hR hok hbc hnn
  go_enter Tryz.func140, Tryz.ntmps140
  go_wp2_with fail
  go_loopg [4, 5, 8, 9, 14, 15, 16, 18] n (fun gh v4 v5 v8 v9 v14 v15 v16 v18 wr => ∃ i : Nat, i + gh = n ∧ v8 = .int .i64 (i : Int) ∧ RowKit.Hid (∀ k r, k < i → R[k]? = some r → grHas r c = false) ∧ RowKit.Hid (Pure' w wr))
  case atStart => exact ⟨0, by omega, rfl, Lib.hid (by intro k r hk; omega), Lib.hid (Keeps.refl _ _)⟩
  case round =>
    obtain ⟨i, hig, rfl, HNO, HW⟩ := hrel
    cases gk with
    | zero =>
      obtain rfl : i = n := by omega
      go_wp2_with fail
      go_ret
      exact ⟨⟨-1, rfl, ⟨fun h => absurd h (by decide), fun ⟨r, hr, hh⟩ => by
        obtain ⟨k, hk, rfl⟩ := List.getElem_of_mem hr
        have := HNO.out k _ (by rw [← HN.out]; exact hk) (List.getElem?_eq_getElem hk)
        rw [this] at hh
        exact absurd hh (by decide)⟩⟩, HW.out⟩
    | succ g3 =>
      have hii : (i : Int) < (n : Int) := by omega
      obtain ⟨r, hr⟩ : ∃ r, R[i]? = some r := ⟨_, List.getElem?_eq_getElem (show i < R.length by rw [HN.out]; omega)⟩
      have HRI := Lib.hid hr
      have hq := HR.out wr HW.out i r hr
      have c0 : wr.cell? ⟨b, i * 4, none⟩ = some (.int .u64 (r.1 : Int)) := (hq 0 (by decide)).trans rfl
      have c1 : wr.cell? ⟨b, i * 4 + 1, none⟩ = some (.int .u64 (r.2.1 : Int)) := (hq 1 (by decide)).trans rfl
      have c2 : wr.cell? ⟨b, i * 4 + 2, none⟩ = some (.int .u64 (r.2.2.1 : Int)) := (hq 2 (by decide)).trans rfl
      have c3 : wr.cell? ⟨b, i * 4 + 3, none⟩ = some (.int .u64 (r.2.2.2 : Int)) := (hq 3 (by decide)).trans rfl
      have HFF := Lib.hid (HF.out i r wr hr HW.out)
      clear hr hq
      obtain ⟨r0, r1, r2, r3⟩ := r
      simp only at c0 c1 c2 c3
      go_wp2_with fail
      refine HFF.out.mono ?_
      rintro e w1 ⟨rfl, hk⟩
      have HW1 := Lib.hid (HW.out.trans hk (fun _ _ hf => hf))
      clear hk c0 c1 c2 c3
      have HHAS := Lib.hid (show grHas (r0, r1, r2, r3) c = rowHas r0 r1 r2 r3 c from rfl)
      generalize rowHas r0 r1 r2 r3 c = q at HHAS ⊢
      cases q with
      | true =>
        go_wp2_with fail
        go_ret
        exact ⟨⟨i, rfl, ⟨fun _ => ⟨_, List.mem_of_getElem? HRI.out, HHAS.out⟩, fun _ => by omega⟩⟩, HW1.out⟩
      | false =>
        go_wp2_with fail
        go_roundg g3
        case measure => omega
        case rel =>
          refine ⟨i + 1, by omega, by go_num, Lib.hid ?_, HW1⟩
          intro k r hk hr
          by_cases he : k = i
          · subst he
            have := HRI.out
            rw [this] at hr
            injection hr with hr
            rw [← hr]
            exact HHAS.out
          · exact HNO.out k r (by omega) hr

set_option maxHeartbeats 1000000 in
theorem containsf_ (bc c b cap : Nat) (R : List GR) (w : World) (hc : c < 256) (hbc : w.cell? ⟨bc, 0, none⟩ = some (.int .u8 (c : Int))) (hb : bc < w.heap.size) (hbb : b < w.heap.size) (hR : RowsAt w b R) (hok : ∀ r ∈ R, grOk r) (hn : R.length ≤ 1000) :
    Calls Tryz.prog 101 #[.slice (some ⟨b, 0, none⟩) R.length cap, .func (.func 102) #[] #[.pointer (some ⟨bc, 0, none⟩)]] w fun e w' => e = .returned (.bool (R.any fun r => grHas r c)) ∧ Pure' w w' := by
  have H := Lib.hid (indexf_ bc c b cap R w hc hbc hb hbb hR hok hn)
  clear hbc hR hok
  obtain ⟨q, hq⟩ : ∃ q, (R.any fun r => grHas r c) = q := ⟨_, rfl⟩
  rw [hq]
  have HQ := Lib.hid (show (q = true) ↔ ∃ r ∈ R, grHas r c = true by rw [← hq]; exact List.any_eq_true)
  clear hq
  go_enter Tryz.func101, Tryz.ntmps101
  go_wp2_with fail
  refine H.out.mono ?_
  rintro e w1 ⟨⟨v, rfl, hv⟩, hk⟩
  have HK := Lib.hid hk
  have hd : decide (0 ≤ v) = q := by
    cases q with
    | true => exact decide_eq_true (hv.2 (HQ.out.1 rfl))
    | false => exact decide_eq_false (fun h => absurd (HQ.out.2 (hv.1 h)) (by decide))
  have HD := Lib.hid hd
  clear hv hk hd
  go_wp2_with fail
  go_ret
  exact ⟨congrArg (fun x => Ending.returned (Value.bool x)) HD.out, HK.out⟩
end Go.Proofs.YtkbdfnmeomkpjaaGreat
