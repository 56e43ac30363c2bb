/- The references that a guard is held against: bytes and pairs at distances; no condition but the sizes. -/
import Derived.Test.YtkbdfnmeomkpjaaGreatGrdR
namespace Go.Proofs.YtkbdfnmeomkpjaaGreat
open Go.RowKit
set_option linter.unusedVariables false
set_option linter.unusedSimpArgs false
set_option maxRecDepth 100000

theorem any_none {α : Type} {l : List α} {f : α → Bool} {i : Nat} {x : α} (h : (l.take i).any f = false) (hx : l[i]? = some x) (hf : f x = false) : (l.take (i + 1)).any f = false := by
  rw [List.take_add_one, hx, List.any_append, h]
  simp [hf]
theorem any_some {α : Type} {l : List α} {f : α → Bool} {i : Nat} {x : α} (hx : l[i]? = some x) (hf : f x = true) : l.any f = true := List.any_eq_true.2 ⟨x, List.mem_of_getElem? hx, hf⟩
set_option maxHeartbeats 2000000 in
theorem rhas13_ (A : Option Addr) (m c B d : Nat) (ch : UInt8) (l : List (List UInt8)) (w : World) (h : Sees w B 1 A m (strVs l)) (hm : m ≤ 1000) (hll : ∀ x ∈ l, x.length ≤ 1000) (hd : d ≤ 1000) :
    Calls Tryz.prog 88 #[.slice A m c, .int .u8 (ch.toNat : Int), .int .i64 (d : Int)] w fun e w' => e = .returned (.bool (hasD l ch d)) ∧ ∃ q, w' = w.drewN q := by
  have HL := Lib.hid (show l.length = m by have := h.1; rw [strVs_len] at this; omega)
  have HS := Lib.hid h
  have HLL := Lib.hid hll
  have HA := Lib.hid (show hasD l ch d = l.any fun y => decide (y.reverse[d]? = some ch) from rfl)
  generalize hasD l ch d = r at *
  clear h hll
  go_enter Tryz.func88, Tryz.ntmps88
  go_wp2_with fail
  go_loopg [7] m (fun gh v7 wr => ∃ i : Nat, i + gh = m ∧ v7 = .int .i64 (i : Int) ∧ RowKit.Hid ((l.take i).any (fun y => decide (y.reverse[d]? = some ch)) = false) ∧ ∃ q, wr = w.drewN q)
  case atStart => exact ⟨0, by omega, rfl, Lib.hid (by simp), 0, rfl⟩
  case round =>
    obtain ⟨i, hig, rfl, HN, q, rfl⟩ := hrel
    cases gk with
    | zero =>
      obtain rfl : i = m := by omega
      have HF := Lib.hid (show r = false by rw [HA.out]; have := HN.out; rwa [List.take_of_length_le (by rw [HL.out]; exact Nat.le_refl _)] at this)
      go_wp2_with fail
      go_ret
      exact ⟨by rw [HF.out]; rfl, _, rfl⟩
    | succ g3 =>
      have hii : (i : Int) < (m : Int) := by omega
      obtain ⟨ad, x, rfl, hx, xc⟩ := word_at HS.out (show i < m by omega)
      have hbx : (⟨x.toArray⟩ : ByteArray).size = x.length := Lib.size_eq _
      have hxl := HLL.out x (List.mem_of_getElem? hx)
      have HX := Lib.hid hx
      obtain ⟨xn, hxn⟩ : ∃ q, x.length = q := ⟨_, rfl⟩
      have HXN := Lib.hid hxn
      rw [hxn] at hbx hxl
      clear hx hxn
      by_cases hdx : d < xn
      · obtain ⟨j, hj⟩ : ∃ j, j + d + 1 = xn := ⟨xn - 1 - d, by omega⟩
        have hw1 : IntKind.i64.wrap ((xn : Int) - 1) = (xn : Int) - 1 := by rw [IntKind.wrap_i64]; omega
        have hw2 : IntKind.i64.wrap ((xn : Int) - 1 - (d : Int)) = (j : Int) := by rw [IntKind.wrap_i64]; omega
        obtain ⟨e, _, hej, hga⟩ := at_c (show j < x.length by rw [HXN.out]; omega)
        have hjx : (j : Int) < (xn : Int) := by omega
        have HE := Lib.hid (show x.reverse[d]? = some e by
          rw [List.getElem?_reverse (by rw [HXN.out]; omega), ← hej]
          congr 1
          rw [HXN.out]; omega)
        have hel := e.toNat_lt
        have hcl := ch.toNat_lt
        clear hej
        by_cases hec : e = ch
        · subst hec
          have HF := Lib.hid (show r = true by rw [HA.out]; exact any_some HX.out (decide_eq_true HE.out))
          go_wp2_with fail
          go_quiet (fail)
          go_wp2_with fail
          go_ret
          exact ⟨by rw [HF.out]; rfl, _, World.drewN_drewN _ _ _⟩
        · have hne : ((e.toNat : Int) == (ch.toNat : Int)) = false := by
            rw [beq_eq_false_iff_ne]
            intro h
            exact hec (UInt8.toNat_inj.1 (by omega))
          have HN2 := Lib.hid (any_none HN.out HX.out (decide_eq_false (by rw [HE.out]; intro h; injection h with h; exact hec h)))
          clear hec
          go_wp2_with fail
          go_quiet (fail)
          go_wp2_with fail
          go_roundg g3
          case measure => omega
          case rel => exact ⟨i + 1, by omega, by go_num, HN2, _, rfl⟩
      · have hdd : decide (d < xn) = false := decide_eq_false hdx
        have HN2 := Lib.hid (any_none HN.out HX.out (decide_eq_false (by rw [List.getElem?_eq_none (by simp; rw [HXN.out]; omega)]; intro h; cases h)))
        go_wp2_with fail
        go_quiet (fail)
        go_wp2_with fail
        go_roundg g3
        case measure => omega
        case rel => exact ⟨i + 1, by omega, by go_num, HN2, _, rfl⟩

theorem Sees.dn {w : World} {B size n : Nat} {A : Option Addr} {xs : List Value} (h : Sees w B size A n xs) (q : Nat) : Sees (w.drewN q) B size A n xs := by
  refine ⟨h.1, fun hn => ?_⟩
  obtain ⟨ad, e, hb, hc⟩ := h.2 hn
  exact ⟨ad, e, hb, hc⟩
set_option maxHeartbeats 4000000 in
theorem rhas14_ (A : Option Addr) (m c B d : Nat) (ch dh : UInt8) (l : List (List UInt8)) (w : World) (h : Sees w B 1 A m (strVs l)) (hm : m ≤ 1000) (hll : ∀ x ∈ l, x.length ≤ 1000) (hd : d ≤ 1000) :
    Calls Tryz.prog 90 #[.slice A m c, .int .u8 (dh.toNat : Int), .int .u8 (ch.toNat : Int), .int .i64 (d : Int)] w fun e w' => e = .returned (.bool (hasP l dh ch d)) ∧ ∃ q, w' = w.drewN q := by
  have HL := Lib.hid (show l.length = m by have := h.1; rw [strVs_len] at this; omega)
  have HS := Lib.hid h
  have HLL := Lib.hid hll
  have HA := Lib.hid (show hasP l dh ch d = l.any fun y => decide (y.reverse[d]? = some ch ∧ y.reverse[d + 1]? = some dh) from rfl)
  generalize hasP l dh ch d = r at *
  clear h hll
  go_enter Tryz.func90, Tryz.ntmps90
  go_wp2_with fail
  go_loopg [9, 10] m (fun gh v9 v10 wr => ∃ i : Nat, i + gh = m ∧ v9 = .int .i64 (i : Int) ∧ RowKit.Hid ((l.take i).any (fun y => decide (y.reverse[d]? = some ch ∧ y.reverse[d + 1]? = some dh)) = false) ∧ ∃ q, wr = w.drewN q)
  case atStart => exact ⟨0, by omega, rfl, Lib.hid (by simp), 0, rfl⟩
  case round =>
    obtain ⟨i, hig, rfl, HN, q, rfl⟩ := hrel
    cases gk with
    | zero =>
      obtain rfl : i = m := by omega
      have HF := Lib.hid (show r = false by rw [HA.out]; have := HN.out; rwa [List.take_of_length_le (by rw [HL.out]; exact Nat.le_refl _)] at this)
      go_wp2_with fail
      go_ret
      exact ⟨by rw [HF.out]; rfl, _, rfl⟩
    | succ g3 =>
      have hii : (i : Int) < (m : Int) := by omega
      obtain ⟨ad, x, rfl, hx, xc⟩ := word_at HS.out (show i < m by omega)
      have hbx : (⟨x.toArray⟩ : ByteArray).size = x.length := Lib.size_eq _
      have hxl := HLL.out x (List.mem_of_getElem? hx)
      have HX := Lib.hid hx
      obtain ⟨xn, hxn⟩ : ∃ q, x.length = q := ⟨_, rfl⟩
      have HXN := Lib.hid hxn
      rw [hxn] at hbx hxl
      clear hx hxn
      by_cases hdx : d + 1 < xn
      · obtain ⟨j, hj⟩ : ∃ j, j + d + 2 = xn := ⟨xn - 2 - d, by omega⟩
        have hdi : (d : Int) + 1 < (xn : Int) := by omega
        obtain ⟨e, _, hej, hga⟩ := at_c (show j + 1 < x.length by rw [HXN.out]; omega)
        obtain ⟨f, _, hfj, hgb⟩ := at_c (show j < x.length by rw [HXN.out]; omega)
        have hjx : (j : Int) < (xn : Int) := by omega
        have hjx1 : (j : Int) + 1 < (xn : Int) := by omega
        have HE := Lib.hid (show x.reverse[d]? = some e by
          rw [List.getElem?_reverse (by rw [HXN.out]; omega), ← hej]
          congr 1
          rw [HXN.out]; omega)
        have HFE := Lib.hid (show x.reverse[d + 1]? = some f by
          rw [List.getElem?_reverse (by rw [HXN.out]; omega), ← hfj]
          congr 1
          rw [HXN.out]; omega)
        have hel := e.toNat_lt
        have hfl := f.toNat_lt
        have hcl := ch.toNat_lt
        have hdl := dh.toNat_lt
        have hz1 : (xn : Int) - 1 - (d : Int) = ((j + 1 : Nat) : Int) := by omega
        have hz2 : (xn : Int) - 2 - (d : Int) = (j : Int) := by omega
        clear hej hfj
        by_cases hec : e = ch
        · subst hec
          by_cases hfc : f = dh
          · subst hfc
            have HF := Lib.hid (show r = true by rw [HA.out]; exact any_some HX.out (decide_eq_true ⟨HE.out, HFE.out⟩))
            go_wp2_with fail
            go_ret
            exact ⟨by rw [HF.out]; rfl, _, rfl⟩
          · have hne : ((f.toNat : Int) == (dh.toNat : Int)) = false := by
              rw [beq_eq_false_iff_ne]
              intro h
              exact hfc (UInt8.toNat_inj.1 (by omega))
            have HN2 := Lib.hid (any_none HN.out HX.out (decide_eq_false (by rw [HFE.out]; rintro ⟨_, h⟩; injection h with h; exact hfc h)))
            clear hfc
            go_wp2_with fail
            go_roundg g3
            case measure => omega
            case rel => exact ⟨i + 1, by omega, by go_num, HN2, _, rfl⟩
        · have hne : ((e.toNat : Int) == (ch.toNat : Int)) = false := by
            rw [beq_eq_false_iff_ne]
            intro h
            exact hec (UInt8.toNat_inj.1 (by omega))
          have HN2 := Lib.hid (any_none HN.out HX.out (decide_eq_false (by rw [HE.out]; rintro ⟨h, _⟩; injection h with h; exact hec h)))
          clear hec
          go_wp2_with fail
          go_roundg g3
          case measure => omega
          case rel => exact ⟨i + 1, by omega, by go_num, HN2, _, rfl⟩
      · have hdi : ¬ (d : Int) + 1 < (xn : Int) := by omega
        have HN2 := Lib.hid (any_none HN.out HX.out (decide_eq_false (by rw [List.getElem?_eq_none (l := x.reverse) (i := d + 1) (by simp; rw [HXN.out]; omega)]; rintro ⟨_, h⟩; cases h)))
        go_wp2_with fail
        go_roundg g3
        case measure => omega
        case rel => exact ⟨i + 1, by omega, by go_num, HN2, _, rfl⟩

/-- How long the shortest text is. -/
def LeastE (l : List (List UInt8)) (n : Nat) : Prop := (∀ x ∈ l, n ≤ x.length) ∧ (l = [] → n = 0) ∧ (l ≠ [] → ∃ x ∈ l, x.length = n)
theorem least_is {lp : List ByteArray} {n : Nat} (h : LeastE (bl lp) n) : n = minL lp := by
  obtain ⟨h1, h2, h3⟩ := h
  by_cases e : lp = []
  · subst e; exact h2 rfl
  · obtain ⟨s, hs, e2⟩ := minL_mem e
    obtain ⟨x, hx, e3⟩ := h3 (fun e4 => e (by unfold bl at e4; exact List.map_eq_nil_iff.1 e4))
    obtain ⟨t, ht, rfl⟩ := List.mem_map.1 hx
    have a1 := h1 s.data.toList (List.mem_map.2 ⟨s, hs, rfl⟩)
    have a2 := minL_le t ht
    have a3 : s.data.toList.length = s.size := Array.length_toList
    have a4 : t.data.toList.length = t.size := Array.length_toList
    omega
set_option maxHeartbeats 2000000 in
theorem rleastE_ (A : Option Addr) (m c B : Nat) (l : List (List UInt8)) (w : World) (h : Sees w B 1 A m (strVs l)) (hm : m ≤ 1000) (hll : ∀ x ∈ l, x.length ≤ 1000) :
    Calls Tryz.prog 38 #[.slice A m c] w fun e w' => (∃ n : Nat, e = .returned (.int .i64 (n : Int)) ∧ LeastE l n) ∧ w' = w := by
  have HL := Lib.hid (show l.length = m by have := h.1; rw [strVs_len] at this; omega)
  have HS := Lib.hid h
  have HLL := Lib.hid hll
  clear h hll
  go_enter Tryz.func38, Tryz.ntmps38
  go_wp2
  go_loopg [3, 4] m (fun gh v3 v4 wr => (∃ i n : Nat, i + gh = m ∧ v4 = .int .i64 (i : Int) ∧ v3 = .int .i64 (n : Int) ∧ n ≤ 1000 ∧ RowKit.Hid (LeastE (l.take i) n)) ∧ wr = w)
  case atStart => exact ⟨⟨0, 0, by omega, rfl, rfl, Nat.zero_le _, Lib.hid ⟨by simp, fun _ => rfl, fun h => absurd (by simp) h⟩⟩, rfl⟩
  case round =>
    obtain ⟨⟨i, n, hig, rfl, rfl, hn, H⟩, rfl⟩ := hrel
    cases gk with
    | zero =>
      obtain rfl : i = m := by omega
      have H2 := H.out
      rw [List.take_of_length_le (by rw [HL.out]; exact Nat.le_refl _)] at H2
      have H3 := Lib.hid H2
      clear H2
      go_wp2
      go_ret
      exact ⟨⟨n, rfl, H3.out⟩, rfl⟩
    | succ g3 =>
      have hii : (i : Int) < (m : Int) := by omega
      obtain ⟨ad, x, rfl, hx, xc⟩ := word_at HS.out (show i < m by omega)
      have hbx : (⟨x.toArray⟩ : ByteArray).size = x.length := Lib.size_eq _
      have hxl := HLL.out x (List.mem_of_getElem? hx)
      have HT := Lib.hid (show l.take (i + 1) = l.take i ++ [x] by rw [List.take_add_one, hx]; rfl)
      have HTL := Lib.hid (show (l.take i).length = i by rw [List.length_take, HL.out]; omega)
      obtain ⟨xn, hxn⟩ : ∃ q, x.length = q := ⟨_, rfl⟩
      have HXN := Lib.hid hxn
      rw [hxn] at hbx hxl
      clear hx hxn
      by_cases h0 : i = 0
      · have h0i : ((i : Int) == 0) = true := by rw [beq_iff_eq]; omega
        have H1 := Lib.hid (show LeastE (l.take (i + 1)) xn by
          subst h0
          rw [HT.out]
          refine ⟨fun y hy => ?_, fun e => by simp at e, fun _ => ⟨x, by simp, HXN.out⟩⟩
          simp at hy; subst hy; rw [HXN.out]; exact Nat.le_refl _)
        clear h0
        go_wp2
        go_roundg g3
        case measure => omega
        case rel => exact ⟨⟨i + 1, xn, by omega, by go_num, rfl, hxl, H1⟩, rfl⟩
      · have h0i : ((i : Int) == 0) = false := by rw [beq_eq_false_iff_ne]; omega
        have hne : l.take i ≠ [] := fun e => by have := HTL.out; rw [e] at this; exact h0 this.symm
        have HNE := Lib.hid hne
        clear h0 hne
        by_cases hlt : xn < n
        · have hlti : (xn : Int) < (n : Int) := by omega
          have H1 := Lib.hid (show LeastE (l.take (i + 1)) xn by
            rw [HT.out]
            refine ⟨fun y hy => ?_, fun e => by simp at e, fun _ => ⟨x, by simp, HXN.out⟩⟩
            rcases List.mem_append.1 hy with hy | hy
            · have := H.out.1 y hy; omega
            · simp at hy; subst hy; rw [HXN.out]; exact Nat.le_refl _)
          go_wp2
          go_roundg g3
          case measure => omega
          case rel => exact ⟨⟨i + 1, xn, by omega, by go_num, rfl, hxl, H1⟩, rfl⟩
        · have hlti : ¬ (xn : Int) < (n : Int) := by omega
          have H1 := Lib.hid (show LeastE (l.take (i + 1)) n by
            rw [HT.out]
            refine ⟨fun y hy => ?_, fun e => by simp at e, fun _ => ?_⟩
            · rcases List.mem_append.1 hy with hy | hy
              · exact H.out.1 y hy
              · simp at hy; subst hy; rw [HXN.out]; omega
            · obtain ⟨z, hz, e⟩ := H.out.2.2 HNE.out
              exact ⟨z, by simp [hz], e⟩)
          go_wp2
          go_roundg g3
          case measure => omega
          case rel => exact ⟨⟨i + 1, n, by omega, by go_num, rfl, hn, H1⟩, rfl⟩
end Go.Proofs.YtkbdfnmeomkpjaaGreat
