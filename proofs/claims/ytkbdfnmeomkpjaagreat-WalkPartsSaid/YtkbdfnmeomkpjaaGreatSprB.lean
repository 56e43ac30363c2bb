/- Where a sparse row fits; no condition but the sizes. -/
import Derived.Test.YtkbdfnmeomkpjaaGreatSprA
namespace Go.Proofs.YtkbdfnmeomkpjaaGreat
open Go.RowKit
set_option linter.unusedVariables false
set_option linter.unusedSimpArgs false
set_option maxRecDepth 100000
attribute [local go_sem] gmax2 gmin2 gmax_two gmin_two

/-- The cells behind these bytes are nobody's. -/
def FreeAt (C : List SCell) (a : Nat) (ks : List UInt8) : Prop := ∀ c ∈ ks, ∀ x, C[a + c.toNat]? = some x → x.1 = 0
theorem ScA.cell {w : World} {g : Nat} {C : List SCell} {b cc : Nat} {bv fv : Value} (h : ScA w g C (some ⟨b, 0, none⟩) cc bv fv) {k : Nat} {x : SCell} (hk : C[k]? = some x) (r : Nat) (hr : r < 2) : w.cell? ⟨b, k * 2 + r, none⟩ = (scC x)[r]? := by
  have h1 := scVs_at C k r x hk hr
  have h2 : r < (scC x).length := by simpa [scC] using hr
  rw [List.getElem?_eq_getElem h2] at h1 ⊢
  exact h.row.cell h1

set_option maxHeartbeats 4000000 in
theorem sfits_ (g : Nat) (C : List SCell) (A : Option Addr) (cc : Nat) (bv fv : Value) (ks : List UInt8) (fr : Nat) (w : World) (h : ScA w g C A cc bv fv) (hne : ks ≠ []) (hks : ks.length ≤ 1000) (hfr : fr ≤ C.length) (hC : C.length ≤ 100000) (hx : ∀ x ∈ C, x.1 ≤ 100000) :
    Calls Tryz.prog 132 #[.pointer (some ⟨g, 0, none⟩), .string ⟨ks.toArray⟩, .int .i64 (fr : Int)] w fun e w' => (∃ a : Nat, e = .returned (.int .i64 (a : Int)) ∧ a ≤ C.length ∧ FreeAt C a ks) ∧ w' = w := by
  have HA := Lib.hid h
  have HX := Lib.hid hx
  have x0 := h.box.cell 0
  have hbs : (⟨ks.toArray⟩ : ByteArray).size = ks.length := Lib.size_eq _
  obtain ⟨m, hm⟩ : ∃ m, ks.length = m := ⟨_, rfl⟩
  have hm0 : 0 < m := by rw [← hm]; exact List.length_pos_iff.2 hne
  obtain ⟨n, hn⟩ : ∃ n, C.length = n := ⟨_, rfl⟩
  obtain ⟨c0, _, _, hga0⟩ := at_c (show 0 < ks.length by omega)
  have hc0 := c0.toNat_lt
  have HM := Lib.hid hm
  have HN := Lib.hid hn
  rw [hm] at hbs hks
  rw [hn] at hfr hC x0 ⊢
  clear h hx hm hn hne
  go_enter Tryz.func132, Tryz.ntmps132
  go_wp2
  go_step3
  go_wp2
  go_step3
  go_wp2
  go_loopg [7] (n + 1) (fun gh v7 wr => (∃ a : Nat, v7 = .int .i64 (a : Int) ∧ a ≤ n ∧ n + 1 ≤ a + gh) ∧ wr = w)
  case atStart => exact ⟨⟨fr - c0.toNat, by congr 1; omega, by omega, by omega⟩, rfl⟩
  case round =>
    obtain ⟨⟨a, rfl, han, hag⟩, rfl⟩ := hrel
    cases gk with
    | zero => omega
    | succ g3 =>
      go_wp2
      go_loopg [20] m (fun gh v20 wz => ∃ i : Nat, i + gh = m ∧ v20 = .int .i64 (i : Int) ∧ RowKit.Hid (FreeAt C a (ks.take i)) ∧ wz = wr)
      case atStart => exact ⟨0, by omega, rfl, Lib.hid (fun c hc => by simp at hc), rfl⟩
      case round =>
        obtain ⟨i, hig, rfl, HF, rfl⟩ := hrel
        cases gk with
        | zero =>
          obtain rfl : i = m := by omega
          have HFA := Lib.hid (show FreeAt C a ks by have := HF.out; rwa [List.take_of_length_le (by rw [HM.out]; exact Nat.le_refl _)] at this)
          go_wp2
          try rw [Exit.noGoto_ret]
          go_ret
          exact ⟨⟨a, rfl, han, HFA.out⟩, rfl⟩
        | succ g4 =>
          have hii : (i : Int) < (m : Int) := by omega
          obtain ⟨c, _, hci, hga⟩ := at_c (show i < ks.length by rw [HM.out]; omega)
          have hcl := c.toNat_lt
          have htk : ks.take (i + 1) = ks.take i ++ [c] := by rw [List.take_add_one, hci]; rfl
          have HTK := Lib.hid htk
          clear htk hci
          have e1 : IntKind.i64.wrap ((a : Int) + (c.toNat : Int)) = (a : Int) + (c.toNat : Int) := by rw [IntKind.wrap_i64]; omega
          have e2 : (0 : Int) ≤ (a : Int) + (c.toNat : Int) := by omega
          have e3 : ((a : Int) + (c.toNat : Int)).toNat = a + c.toNat := by omega
          by_cases hlt : a + c.toNat < n
          · have hlti : (a : Int) + (c.toNat : Int) < (n : Int) := by omega
            obtain ⟨y, hy⟩ : ∃ y, C[a + c.toNat]? = some y := ⟨_, List.getElem?_eq_getElem (by rw [HN.out]; exact hlt)⟩
            obtain ⟨b, cap, hA2, _, _⟩ := HA.out.row.some_ (by rw [HN.out]; omega)
            obtain ⟨rfl, rfl⟩ : A = some ⟨b, 0, none⟩ ∧ cc = cap := by
              injection hA2 with q1 q2 q3
              exact ⟨q1, q3⟩
            have z0 := HA.out.cell hy 0 (by decide)
            have hyl := HX.out y (List.mem_of_getElem? hy)
            have HY := Lib.hid hy
            obtain ⟨y1, y2⟩ := y
            simp only [scC, List.getElem?_cons_zero, Nat.add_zero] at z0
            clear hy hA2
            rcases Nat.eq_zero_or_pos y1 with rfl | hy1
            · have HF2 := Lib.hid (show FreeAt C a (ks.take (i + 1)) from fun d hd x hx => by
                rw [HTK.out, List.mem_append] at hd
                rcases hd with hd | hd
                · exact HF.out d hd x hx
                · simp at hd; subst hd; rw [HY.out] at hx; cases hx; rfl)
              go_wp2
              go_roundg g4
              case measure => omega
              case rel => exact ⟨i + 1, by omega, by go_num, HF2, rfl⟩
            · have hy1i : (0 : Int) < (y1 : Int) := by omega
              go_wp2
              go_roundg g3
              case measure => omega
              case rel => exact ⟨⟨a + 1, by go_num, by omega, by omega⟩, rfl⟩
          · have hlti : ¬ (a : Int) + (c.toNat : Int) < (n : Int) := by omega
            have HF2 := Lib.hid (show FreeAt C a (ks.take (i + 1)) from fun d hd x hx => by
              rw [HTK.out, List.mem_append] at hd
              rcases hd with hd | hd
              · exact HF.out d hd x hx
              · simp at hd; subst hd
                have := (List.getElem?_eq_some_iff.1 hx).1
                rw [HN.out] at this
                omega)
            go_wp2
            go_roundg g4
            case measure => omega
            case rel => exact ⟨i + 1, by omega, by go_num, HF2, rfl⟩

end Go.Proofs.YtkbdfnmeomkpjaaGreat
