/- A text cut in parts, and the shortest pattern, by the reference; no condition but the sizes. -/
import Derived.Test.YtkbdfnmeomkpjaaGreatWlkC
namespace Go.Proofs.YtkbdfnmeomkpjaaGreat
open Go.RowKit
set_option linter.unusedVariables false
set_option linter.unusedSimpArgs false
set_option maxRecDepth 100000

/-- Texts of the call's own. -/
structure TxO (w W : World) (v : Value) (LL : List (List UInt8)) : Prop where
  row : Row W 9 1 v LL.length (strVs LL)
  own : ∀ b, v.ownBlock = some b → w.heap.size ≤ b
  pure : Pure' w W
theorem TxO.form {w W : World} {v : Value} {LL : List (List UInt8)} (h : TxO w W v LL) : ∃ a cp, v = .slice a LL.length cp := by
  obtain ⟨a, cp, e, _⟩ := h.row.form
  exact ⟨a, cp, e⟩
theorem TxO.more {w W w3 : World} {a : Option Addr} {n cp b1 cap1 : Nat} {L : List (List UInt8)} {x : List UInt8} (h : TxO w W (.slice a n cp) L) (hn : L.length = n)
    (hr : Row w3 9 1 (.slice (some ⟨b1, 0, none⟩) (n + 1) cap1) (n + 1) (strVs L ++ [.string ⟨x.toArray⟩]))
    (hg : (W.alloc (.cells #[.string ⟨x.toArray⟩] 9)).grownBy w3 (Value.slice a n cp).ownBlock)
    (hb : (Value.slice a n cp).ownBlock = some b1 ∨ b1 = W.heap.size + 1) : TxO w w3 (.slice (some ⟨b1, 0, none⟩) (n + 1) cap1) (L ++ [x]) := by
  refine ⟨?_, fun b e => ?_, (h.pure.alloc _).grown hg (fun k hk => .inr (h.own k hk))⟩
  · rw [List.length_append, hn, show strVs (L ++ [x]) = strVs L ++ [.string ⟨x.toArray⟩] by simp [strVs]]
    exact hr
  · simp [Value.ownBlock] at e
    subst e
    rcases hb with q | q
    · exact h.own _ q
    · rw [q]
      have := h.pure.size
      omega
def CutPost (s : List UInt8) (n : Nat) (w : World) (e : Ending) (w' : World) : Prop :=
  ∃ (PL : List (List UInt8)) (A : Option Addr) (c : Nat), e = .returned (.slice A PL.length c) ∧ TxO w w' (.slice A PL.length c) PL ∧ PL.flatten = s ∧ PL.length ≤ n + 1

set_option maxHeartbeats 4000000 in
theorem rcut_ (s : List UInt8) (A : Option Addr) (n c B : Nat) (zs : List Int) (w : World) (h : Sees w B 1 A n (zs.map (Value.int .i64))) (hB : B ≤ w.heap.size) (hs : s.length ≤ 100000) (hn : n ≤ 1000) (hz : ∀ z ∈ zs, -9223372036854775808 ≤ z ∧ z ≤ 9223372036854775807) :
    Calls Tryz.prog 36 #[.string ⟨s.toArray⟩, .slice A n c] w fun e w' => CutPost s n w e w' := by
  have HS := Lib.hid (fun (W : World) (hW : Pure' w W) => h.pure hW hB)
  have HZ := Lib.hid hz
  obtain ⟨i0, hi, hz0, hz1, hz2⟩ := info_parts strInfo2
  have hbs : (⟨s.toArray⟩ : ByteArray).size = s.length := Lib.size_eq _
  obtain ⟨m, hm⟩ : ∃ m, s.length = m := ⟨_, rfl⟩
  have HM := Lib.hid hm
  have HX := Lib.hid (fun (a b : Nat) => show (⟨s.toArray⟩ : ByteArray).extract a (a + b) = ⟨((s.drop a).take b).toArray⟩ from bytes_eq (by simp only [ByteArray.extract, ByteArray.copySlice]; simp [List.drop_take]))
  have HXE := Lib.hid (fun (k : Nat) => show (⟨s.toArray⟩ : ByteArray).extract k m = ⟨(s.drop k).toArray⟩ by rw [← hm, ← hbs, extract_end])
  have HN0 := Lib.hid (show TxO w (w.alloc (.cells #[] 9)) (.slice (some ⟨w.heap.size, 0, none⟩) 0 0) [] from
    ⟨⟨by simp [strVs], .inr ⟨w.heap.size, 0, _, rfl, Nat.zero_le _, Blk.new w _ _, Nat.le_refl _, by decide, by simp, by simp [strVs]⟩⟩, fun b hb => by simp [Value.ownBlock] at hb; omega, (Keeps.refl _ w).alloc _⟩)
  rw [hm] at hbs hs
  clear h hz hm
  go_enter Tryz.func36, Tryz.ntmps36
  go_wp2
  go_loopg [5, 6, 7, 8] n (fun gh v5 v6 v7 v8 wr => ∃ (i a : Nat) (L : List (List UInt8)), i + gh = n ∧ v7 = .int .i64 (i : Int) ∧ v6 = .int .i64 (a : Int) ∧ a ≤ m ∧ L.length = i ∧ RowKit.Hid (L.flatten = s.take a) ∧ RowKit.Hid (TxO w wr v5 L))
  case atStart => exact ⟨0, 0, [], by omega, rfl, rfl, Nat.zero_le _, rfl, Lib.hid rfl, HN0⟩
  case round =>
    obtain ⟨i, a, L, hig, rfl, rfl, ham, hLi, HF, HA⟩ := hrel
    clear HN0
    obtain ⟨a5, c5, rfl⟩ := HA.out.form
    rw [hLi] at HA ⊢
    have HLI := Lib.hid hLi
    clear hLi
    cases gk with
    | zero =>
      obtain rfl : i = n := by omega
      by_cases hlt : a < m
      · have hlti : (a : Int) < (m : Int) := by omega
        have hxe := HXE.out a
        go_wp2_with (at_builtin; refine wpl_append _ rfl (.tmp 48) (.tmp 52) 22 rfl 9 i0 (.string ByteArray.empty) 1 16 Tryz.underlying22 hi hz0 hz1 hz2 rfl (by decide) (.slice a5 i c5) i (strVs L) rfl ?own ⟨wr.heap.size, 0, none⟩ 1 1 [.string ⟨(s.drop a).toArray⟩] rfl rfl ?news ?one (by decide) ?b1 ?b2 ?kk)
        case own => have := Row.alloc HA.out.row (.cells #[.string ⟨(s.drop a).toArray⟩] 9); rw [HLI.out] at this; exact this
        case news => exact news1
        case one => intro u hu; simp at hu; subst hu; rfl
        case b1 => unfold maxLen; omega
        case b2 => omega
        case kk =>
          intro b1 cap1 w3 ho1 hg1 hb1 hl1
          have HM3 := Lib.hid (HA.out.more (x := s.drop a) HLI.out ho1 hg1 hb1)
          have HL3 := Lib.hid (show (L ++ [s.drop a]).length = i + 1 by rw [List.length_append, HLI.out]; rfl)
          clear ho1 hg1 hb1 hxe
          go_wp2
          go_ret
          refine ⟨L ++ [s.drop a], some ⟨b1, 0, none⟩, cap1, by rw [HL3.out]; rfl, by rw [HL3.out]; exact HM3.out, ?_, by rw [HL3.out]; exact Nat.le_refl _⟩
          rw [List.flatten_append, HF.out]
          simp
      · obtain rfl : a = m := by omega
        have hlti : ¬ (a : Int) < (a : Int) := by omega
        go_wp2
        go_ret
        refine ⟨L, a5, c5, by rw [HLI.out]; rfl, by rw [HLI.out]; exact HA.out, ?_, by rw [HLI.out]; omega⟩
        rw [HF.out, List.take_of_length_le (by rw [HM.out]; exact Nat.le_refl _)]
    | succ g3 =>
      have hii : (i : Int) < (n : Int) := by omega
      obtain ⟨ad, z, rfl, hzi, y1⟩ := ints_at (HS.out _ HA.out.pure) (show i < n by omega)
      have hzb := HZ.out z (List.mem_of_getElem? hzi)
      clear hzi
      -- WAYS
      by_cases hz0' : z < 0
      · have hge : ¬ (m : Int) - (a : Int) < 0 := by omega
        have hx0 : (⟨s.toArray⟩ : ByteArray).extract a a = ⟨([] : List UInt8).toArray⟩ := by have := HX.out a 0; rwa [Nat.add_zero, List.take_zero] at this
        have ham2 : (a : Int) ≤ (m : Int) := by omega
        have HFN := Lib.hid (show (L ++ [([] : List UInt8)]).flatten = s.take (a) by rw [List.flatten_append, HF.out]; simp)
        go_wp2_with (at_builtin; refine wpl_append _ rfl (.tmp 32) (.tmp 39) 22 rfl 9 i0 (.string ByteArray.empty) 1 16 Tryz.underlying22 hi hz0 hz1 hz2 rfl (by decide) (.slice a5 i c5) i (strVs L) rfl ?own_1 ⟨wr.heap.size, 0, none⟩ 1 1 [.string ⟨(([] : List UInt8)).toArray⟩] rfl rfl ?news_1 ?one_1 (by decide) ?b1_1 ?b2_1 ?kk_1)
        case own_1 => have := Row.alloc HA.out.row (.cells #[.string ⟨(([] : List UInt8)).toArray⟩] 9); rw [HLI.out] at this; exact this
        try (case news_1 => first | exact news1 | exact fun j u hu => hu)
        case one_1 => first | (intro u hu; simp at hu; subst hu; rfl) | rfl
        case b1_1 => unfold maxLen; omega
        case b2_1 => omega
        case kk_1 =>
          intro b1 cap1 w3 ho1 hg1 hb1 hl1
          have HM3 := Lib.hid (HA.out.more (x := ([] : List UInt8)) HLI.out ho1 hg1 hb1)
          have HL3 := Lib.hid (show (L ++ [([] : List UInt8)]).length = i + 1 by rw [List.length_append, HLI.out]; rfl)
          clear ho1 hg1 hb1
          go_wp2
          go_roundg g3
          case measure => omega
          case rel => exact ⟨i + 1, a, L ++ [([] : List UInt8)], by omega, by go_num, by go_num, by omega, HL3.out, HFN, HM3⟩
      · by_cases hzm : (m : Int) - (a : Int) < z
        · obtain ⟨b, hb⟩ : ∃ b, m - a = b := ⟨_, rfl⟩
          have hbi : (m : Int) - (a : Int) = (b : Int) := by omega
          have e1 : (a : Int) ≤ (a : Int) + (b : Int) := by omega
          have e2 : (a : Int) + (b : Int) ≤ (m : Int) := by omega
          have e3 : ((a : Int) + (b : Int)).toNat = a + b := by omega
          have hab : a + b ≤ m := by omega
          have hbz : (b : Int) < z := by omega
          have hxt := HX.out a b
          clear hb hzm
          have HFN := Lib.hid (show (L ++ [(s.drop a).take b]).flatten = s.take (a + b) by rw [List.flatten_append, HF.out, List.take_add]; simp)
          go_wp2_with (at_builtin; refine wpl_append _ rfl (.tmp 32) (.tmp 39) 22 rfl 9 i0 (.string ByteArray.empty) 1 16 Tryz.underlying22 hi hz0 hz1 hz2 rfl (by decide) (.slice a5 i c5) i (strVs L) rfl ?own_2 ⟨wr.heap.size, 0, none⟩ 1 1 [.string ⟨((s.drop a).take b).toArray⟩] rfl rfl ?news_2 ?one_2 (by decide) ?b1_2 ?b2_2 ?kk_2)
          case own_2 => have := Row.alloc HA.out.row (.cells #[.string ⟨((s.drop a).take b).toArray⟩] 9); rw [HLI.out] at this; exact this
          try (case news_2 => first | exact news1 | exact fun j u hu => hu)
          case one_2 => first | (intro u hu; simp at hu; subst hu; rfl) | rfl
          case b1_2 => unfold maxLen; omega
          case b2_2 => omega
          case kk_2 =>
            intro b1 cap1 w3 ho1 hg1 hb1 hl1
            have HM3 := Lib.hid (HA.out.more (x := (s.drop a).take b) HLI.out ho1 hg1 hb1)
            have HL3 := Lib.hid (show (L ++ [(s.drop a).take b]).length = i + 1 by rw [List.length_append, HLI.out]; rfl)
            clear ho1 hg1 hb1
            go_wp2
            go_roundg g3
            case measure => omega
            case rel => exact ⟨i + 1, a + b, L ++ [(s.drop a).take b], by omega, by go_num, by go_num, by omega, HL3.out, HFN, HM3⟩
        · obtain ⟨b, rfl⟩ : ∃ b : Nat, z = (b : Int) := ⟨z.toNat, by omega⟩
          have e1 : (a : Int) ≤ (a : Int) + (b : Int) := by omega
          have e2 : (a : Int) + (b : Int) ≤ (m : Int) := by omega
          have e3 : ((a : Int) + (b : Int)).toNat = a + b := by omega
          have hab : a + b ≤ m := by omega
          have hb0 : ¬ (b : Int) < 0 := by omega
          obtain ⟨d, hd⟩ : ∃ d, m - a = d := ⟨_, rfl⟩
          have hdi : (m : Int) - (a : Int) = (d : Int) := by omega
          have hdb : ¬ d < b := by omega
          have hdb2 : ¬ (d : Int) < (b : Int) := by omega
          clear hd hzm
          have hxt := HX.out a b
          clear hz0'
          have HFN := Lib.hid (show (L ++ [(s.drop a).take b]).flatten = s.take (a + b) by rw [List.flatten_append, HF.out, List.take_add]; simp)
          go_wp2_with (at_builtin; refine wpl_append _ rfl (.tmp 32) (.tmp 39) 22 rfl 9 i0 (.string ByteArray.empty) 1 16 Tryz.underlying22 hi hz0 hz1 hz2 rfl (by decide) (.slice a5 i c5) i (strVs L) rfl ?own_3 ⟨wr.heap.size, 0, none⟩ 1 1 [.string ⟨((s.drop a).take b).toArray⟩] rfl rfl ?news_3 ?one_3 (by decide) ?b1_3 ?b2_3 ?kk_3)
          case own_3 => have := Row.alloc HA.out.row (.cells #[.string ⟨((s.drop a).take b).toArray⟩] 9); rw [HLI.out] at this; exact this
          try (case news_3 => first | exact news1 | exact fun j u hu => hu)
          case one_3 => first | (intro u hu; simp at hu; subst hu; rfl) | rfl
          case b1_3 => unfold maxLen; omega
          case b2_3 => omega
          case kk_3 =>
            intro b1 cap1 w3 ho1 hg1 hb1 hl1
            have HM3 := Lib.hid (HA.out.more (x := (s.drop a).take b) HLI.out ho1 hg1 hb1)
            have HL3 := Lib.hid (show (L ++ [(s.drop a).take b]).length = i + 1 by rw [List.length_append, HLI.out]; rfl)
            clear ho1 hg1 hb1
            go_wp2
            go_roundg g3
            case measure => omega
            case rel => exact ⟨i + 1, a + b, L ++ [(s.drop a).take b], by omega, by go_num, by go_num, by omega, HL3.out, HFN, HM3⟩

end Go.Proofs.YtkbdfnmeomkpjaaGreat
