/- How much of a text is open, by the reference; no condition but the sizes. -/
import Derived.Test.YtkbdfnmeomkpjaaGreatHitB
namespace Go.Proofs.YtkbdfnmeomkpjaaGreat
open Go.RowKit
set_option linter.unusedVariables false
set_option linter.unusedSimpArgs false
set_option maxRecDepth 100000

/-- The last k bytes are the first ones of pattern i. -/
def Mt (l : List (List UInt8)) (s : List UInt8) (i k : Nat) : Prop := ∃ x, l[i]? = some x ∧ 1 ≤ k ∧ k ≤ x.length ∧ k ≤ s.length ∧ s.drop (s.length - k) = x.take k
def openV (l : List (List UInt8)) (s : List UInt8) : Nat := ((statesL l).getD (lsuf (statesL l) s) []).length
theorem open_is {l : List (List UInt8)} {s : List UInt8} {n : Nat} (hs : Sts l (statesL l)) (h1 : ∀ i k, Mt l s i k → k ≤ n) (h2 : n = 0 ∨ ∃ i, Mt l s i n) : n = openV l s := by
  obtain ⟨q, hq, hqs, hm⟩ := lsuf_spec hs s
  have hv : openV l s = q.length := by unfold openV; rw [List.getD_eq_getElem?_getD, hq]; rfl
  rw [hv]
  apply Nat.le_antisymm
  · rcases h2 with rfl | ⟨i, x, hx, k1, k2, k3, k4⟩
    · exact Nat.zero_le _
    · have hst : x.take n ∈ statesL l := (hs.mem _).2 (.inr ⟨x, List.mem_of_getElem? hx, List.take_prefix n x⟩)
      have hsu : x.take n <:+ s := by rw [← k4]; exact List.drop_suffix _ _
      have := (hm _ hsu hst).length_le
      rw [List.length_take] at this
      omega
  · rcases (hs.mem q).1 (List.mem_of_getElem? hq) with rfl | ⟨x, hx, hpx⟩
    · exact Nat.zero_le _
    · obtain ⟨i, hi⟩ := List.mem_iff_getElem?.1 hx
      rcases Nat.eq_zero_or_pos q.length with h0 | h0
      · omega
      · exact h1 i q.length ⟨x, hi, h0, hpx.length_le, hqs.length_le, by rw [← List.suffix_iff_eq_drop.1 hqs]; exact (List.prefix_iff_eq_take.1 hpx)⟩

set_option maxHeartbeats 4000000 in
theorem ropen_ (A : Option Addr) (m c B : Nat) (l : List (List UInt8)) (s : List UInt8) (w : World) (h : Sees w B 1 A m (strVs l)) (hm : m ≤ 1000) (hs : s.length ≤ 100000) (hll : ∀ x ∈ l, x.length ≤ 100000) (hst : Sts l (statesL l)) :
    Calls Tryz.prog 32 #[.slice A m c, .string ⟨s.toArray⟩] w fun e w' => e = .returned (.int .i64 (openV l s : Int)) ∧ Pure' w w' := by
  have HL := Lib.hid (show l.length = m by have := h.1; rw [strVs_len] at this; omega)
  have HS := Lib.hid h
  have HLL := Lib.hid hll
  have HST := Lib.hid hst
  have hbs : (⟨s.toArray⟩ : ByteArray).size = s.length := Lib.size_eq _
  obtain ⟨sn, hsn⟩ : ∃ q, s.length = q := ⟨_, rfl⟩
  have HSN := Lib.hid hsn
  have HXE := Lib.hid (fun (k : Nat) => show (⟨s.toArray⟩ : ByteArray).extract k sn = ⟨(s.drop k).toArray⟩ by rw [← hsn, ← hbs, extract_end])
  rw [hsn] at hbs hs
  clear h hll hst hsn
  go_enter Tryz.func32, Tryz.ntmps32
  go_wp2
  go_loopg [5, 6, 7] m (fun gh v5 v6 v7 wr => ∃ i n : Nat, i + gh = m ∧ v6 = .int .i64 (i : Int) ∧ v5 = .int .i64 (n : Int) ∧ n ≤ sn ∧ RowKit.Hid (∀ i' k, i' < i → Mt l s i' k → k ≤ n) ∧ RowKit.Hid (n = 0 ∨ ∃ i, Mt l s i n) ∧ RowKit.Hid (∃ q, wr = w.drewN q))
  case atStart => exact ⟨0, 0, by omega, rfl, rfl, Nat.zero_le _, Lib.hid (fun i' k h => by omega), Lib.hid (.inl rfl), Lib.hid ⟨0, rfl⟩⟩
  case round =>
    obtain ⟨i, n, hig, rfl, rfl, hnb, H1, H2, HQ⟩ := hrel
    cases gk with
    | zero =>
      obtain rfl : i = m := by omega
      have HV := Lib.hid (show n = openV l s from open_is HST.out (fun i' k h => by
        obtain ⟨x, hx, _⟩ := id h
        exact H1.out i' k (by have := (List.getElem?_eq_some_iff.1 hx).1; rw [HL.out] at this; exact this) h) H2.out)
      go_wp2
      go_ret
      exact ⟨by rw [← HV.out]; rfl, by obtain ⟨q, e⟩ := HQ.out; rw [e]; exact (Keeps.refl _ w).drewN q⟩
    | succ g3 =>
      have hii : (i : Int) < (m : Int) := by omega
      obtain ⟨ad, x, rfl, hx, _⟩ := word_at HS.out (show i < m by omega)
      have HXC := Lib.hid (fun (W : World) (hW : ∃ q, W = w.drewN q) => show W.cell? (ad.add i) = some (.string ⟨x.toArray⟩) by
        obtain ⟨q, e⟩ := hW
        obtain ⟨ad', x', e1, e2, e3⟩ := word_at (show Sees W B 1 (some ad) m (strVs l) by rw [e]; exact HS.out) (show i < m by omega)
        cases e1
        rw [hx] at e2
        cases e2
        exact e3)
      have HX := Lib.hid hx
      have hbx : (⟨x.toArray⟩ : ByteArray).size = x.length := Lib.size_eq _
      have hxl := HLL.out x (List.mem_of_getElem? hx)
      obtain ⟨xn, hxn⟩ : ∃ q, x.length = q := ⟨_, rfl⟩
      have HXN := Lib.hid hxn
      rw [hxn] at hbx hxl
      clear hx hxn
      go_wp2
      go_loopg [5, 7] (xn + 1) (fun gh v5 v7 wz => ∃ k n : Nat, 1 ≤ k ∧ k + gh = xn + 1 + 1 ∧ v7 = .int .i64 (k : Int) ∧ v5 = .int .i64 (n : Int) ∧ n ≤ sn ∧ RowKit.Hid (∀ i' k', (i' < i ∨ (i' = i ∧ k' < k)) → Mt l s i' k' → k' ≤ n) ∧ RowKit.Hid (n = 0 ∨ ∃ i, Mt l s i n) ∧ RowKit.Hid (∃ q, wz = w.drewN q))
      case atStart => exact ⟨1, n, Nat.le_refl _, by omega, rfl, rfl, hnb, Lib.hid (fun i' k' h hm => by rcases h with h | ⟨_, h⟩; exact H1.out i' k' h hm; obtain ⟨_, _, q, _⟩ := hm; omega), H2, HQ⟩
      case round =>
        obtain ⟨k, n, hk1, hkg, rfl, rfl, hnb, H1, H2, HQ⟩ := hrel
        have xc := HXC.out _ HQ.out
        cases gk with
        | zero =>
          obtain rfl : k = xn + 1 + 1 := by omega
          have hki : ¬ ((xn : Int) + 1 + 1) ≤ (xn : Int) := by omega
          have HD := Lib.hid (show ∀ i' k', i' < i + 1 → Mt l s i' k' → k' ≤ n from fun i' k' hlt hmt => by
            rcases Nat.lt_or_ge i' i with q | q
            · exact H1.out i' k' (.inl q) hmt
            · obtain rfl : i' = i := by omega
              obtain ⟨y, hy, _, hky, _⟩ := id hmt
              rw [HX.out] at hy
              cases hy
              rw [HXN.out] at hky
              exact H1.out i' k' (.inr ⟨rfl, by omega⟩) hmt)
          go_wp2
          go_roundg g3
          case measure => omega
          case rel => exact ⟨i + 1, n, by omega, by go_num, rfl, hnb, HD, H2, HQ⟩
        | succ g4 =>
          by_cases hkx : k ≤ xn
          · have hkxi : (k : Int) ≤ (xn : Int) := by omega
            by_cases hks : k ≤ sn
            · have hksi : (k : Int) ≤ (sn : Int) := by omega
              obtain ⟨j, hj⟩ : ∃ j, sn - k = j := ⟨_, rfl⟩
              have hji : (sn : Int) - (k : Int) = (j : Int) := by omega
              have hjs : j ≤ sn := by omega
              have e1 := HXE.out j
              have e2 : (⟨x.toArray⟩ : ByteArray).extract 0 k = ⟨(x.take k).toArray⟩ := bytes_eq (by simp [ByteArray.extract, ByteArray.copySlice])
              have HMT := Lib.hid (show s.drop j = x.take k → Mt l s i k from fun q => ⟨x, HX.out, hk1, by rw [HXN.out]; exact hkx, by rw [HSN.out]; exact hks, by rw [HSN.out, hj]; exact q⟩)
              have HNM := Lib.hid (show Mt l s i k → s.drop j = x.take k from fun q => by
                obtain ⟨y, hy, _, _, _, q⟩ := q
                rw [HX.out] at hy
                cases hy
                rw [HSN.out, hj] at q
                exact q)
              obtain ⟨u, hu⟩ : ∃ u, s.drop j = u := ⟨_, rfl⟩
              obtain ⟨v, hv⟩ : ∃ v, x.take k = v := ⟨_, rfl⟩
              rw [hu] at e1 HMT HNM
              rw [hv] at e2 HMT HNM
              have HK1 := Lib.hid (show ∃ q, wr.drew = w.drewN q by obtain ⟨q, e⟩ := HQ.out; exact ⟨q + 1, by rw [e]; rfl⟩)
              clear hj hu hv
              by_cases hkn : n < k
              · have hkni : (n : Int) < (k : Int) := by omega
                by_cases heq : u = v
                · have hb : (u == v) = true := by simpa using heq
                  have HA := Lib.hid (show ∀ i' k', (i' < i ∨ (i' = i ∧ k' < k + 1)) → Mt l s i' k' → k' ≤ k from fun i' k' hlt hmt => by
                    rcases hlt with q | ⟨q1, q2⟩
                    · have := H1.out i' k' (.inl q) hmt; omega
                    · omega)
                  have HB := Lib.hid (show k = 0 ∨ ∃ i, Mt l s i k from .inr ⟨i, HMT.out heq⟩)
                  clear heq
                  go_wp2
                  go_region
                  go_wp2
                  go_roundg g4
                  case measure => omega
                  case rel => exact ⟨k + 1, k, by omega, by omega, by go_num, rfl, hks, HA, HB, HK1⟩
                · have hb : (u == v) = false := by simpa using heq
                  have HA := Lib.hid (show ∀ i' k', (i' < i ∨ (i' = i ∧ k' < k + 1)) → Mt l s i' k' → k' ≤ n from fun i' k' hlt hmt => by
                    rcases hlt with q | ⟨q1, q2⟩
                    · exact H1.out i' k' (.inl q) hmt
                    · rcases Nat.lt_or_ge k' k with q3 | q3
                      · exact H1.out i' k' (.inr ⟨q1, q3⟩) hmt
                      · obtain rfl : k' = k := by omega
                        subst q1
                        exact absurd (HNM.out hmt) heq)
                  clear heq
                  go_wp2
                  go_region
                  go_wp2
                  go_roundg g4
                  case measure => omega
                  case rel => exact ⟨k + 1, n, by omega, by omega, by go_num, rfl, hnb, HA, H2, HK1⟩
              · have hkni : decide ((n : Int) < (k : Int)) = false := by simp; omega
                have hkni2 : decide (n < k) = false := by simp; omega
                have HA := Lib.hid (show ∀ i' k', (i' < i ∨ (i' = i ∧ k' < k + 1)) → Mt l s i' k' → k' ≤ n from fun i' k' hlt hmt => by
                  rcases hlt with q | ⟨q1, q2⟩
                  · exact H1.out i' k' (.inl q) hmt
                  · rcases Nat.lt_or_ge k' k with q3 | q3
                    · exact H1.out i' k' (.inr ⟨q1, q3⟩) hmt
                    · omega)
                clear hkn
                go_wp2
                go_region
                go_wp2
                go_roundg g4
                case measure => omega
                case rel => exact ⟨k + 1, n, by omega, by omega, by go_num, rfl, hnb, HA, H2, HK1⟩
            · have hksi : ¬ (k : Int) ≤ (sn : Int) := by omega
              have HD := Lib.hid (show ∀ i' k', i' < i + 1 → Mt l s i' k' → k' ≤ n from fun i' k' hlt hmt => by
                rcases Nat.lt_or_ge i' i with q | q
                · exact H1.out i' k' (.inl q) hmt
                · obtain rfl : i' = i := by omega
                  obtain ⟨y, hy, _, _, hks', _⟩ := id hmt
                  rw [HSN.out] at hks'
                  exact H1.out i' k' (.inr ⟨rfl, by omega⟩) hmt)
              go_wp2
              go_roundg g3
              case measure => omega
              case rel => exact ⟨i + 1, n, by omega, by go_num, rfl, hnb, HD, H2, HQ⟩
          · have hkxi : ¬ (k : Int) ≤ (xn : Int) := by omega
            have HD := Lib.hid (show ∀ i' k', i' < i + 1 → Mt l s i' k' → k' ≤ n from fun i' k' hlt hmt => by
              rcases Nat.lt_or_ge i' i with q | q
              · exact H1.out i' k' (.inl q) hmt
              · obtain rfl : i' = i := by omega
                obtain ⟨y, hy, _, hky, _⟩ := id hmt
                rw [HX.out] at hy
                cases hy
                rw [HXN.out] at hky
                exact H1.out i' k' (.inr ⟨rfl, by omega⟩) hmt)
            go_wp2
            go_roundg g3
            case measure => omega
            case rel => exact ⟨i + 1, n, by omega, by go_num, rfl, hnb, HD, H2, HQ⟩

end Go.Proofs.YtkbdfnmeomkpjaaGreat
