/- The numbers of the texts that end with a byte, by the reference; lists of texts held one against the other; how long texts are in all; no condition but the sizes. -/
import Derived.Test.YtkbdfnmeomkpjaaGrdT
import Derived.Test.YtkbdfnmeomkpjaaLst
namespace Go.Proofs.Ytkbdfnmeomkpjaa
open Go.RowKit
set_option linter.unusedVariables false
set_option linter.unusedSimpArgs false
set_option maxRecDepth 100000

set_option maxHeartbeats 4000000 in
theorem rof_ (A : Option Addr) (m c B : Nat) (ch : UInt8) (l : List (List UInt8)) (w : World) (h : Sees w B 1 A m (strVs l)) (hB : B ≤ w.heap.size) (hm : m ≤ 1000) (hll : ∀ x ∈ l, x.length ≤ 1000) :
    Calls Try.prog 23 #[.slice A m c, .int .u8 (ch.toNat : Int)] w (IdsPost (endK l ch.toNat l.length) w) := by
  obtain ⟨i0, hi, hz0, hz1, hz2⟩ := info_parts intInfoG
  have hL : l.length = m := by have := h.1; rw [strVs_len] at this; omega
  rw [hL]
  have HS := Lib.hid (fun (W : World) (hW : Pure' w W) => h.pure hW hB)
  have HLL := Lib.hid hll
  clear h hll hL
  go_enter Try.func23, Try.ntmps23
  go_wp2_with fail
  go_loopg [5, 6] m (fun gh v5 v6 wr => ∃ (i : Nat) (a : Option Addr) (cp : Nat) (E : List Nat), i + gh = m ∧ v6 = .int .i64 (i : Int) ∧ v5 = .slice a E.length cp ∧ RowKit.Hid (E = endK l ch.toNat i) ∧ E.length ≤ i ∧ RowKit.Hid (Row wr 3 1 (.slice a E.length cp) E.length (idVs E)) ∧ RowKit.Hid (∀ b, (Value.slice a E.length cp).ownBlock = some b → w.heap.size ≤ b) ∧ RowKit.Hid (Pure' w wr))
  case atStart => exact ⟨0, _, _, [], by omega, rfl, rfl, Lib.hid (by simp [endK]), Nat.le_refl _, Lib.hid (Row.newAt (cs := #[]) rfl (by decide) rfl rfl), Lib.hid (fun b hb => by simp [Value.ownBlock] at hb; omega), Lib.hid ((Keeps.refl _ w).alloc _)⟩
  case round =>
    obtain ⟨i, a, cp, E, hig, rfl, rfl, HE, hEl, HR, HO, HK⟩ := hrel
    cases gk with
    | zero =>
      obtain rfl : i = m := by omega
      go_wp2_with fail
      go_ret
      exact ⟨a, cp, by rw [← HE.out]; rfl, by rw [← HE.out]; exact HR.out, by rw [← HE.out]; exact HO.out, HK.out⟩
    | succ g3 =>
      have hii : (i : Int) < (m : Int) := by omega
      obtain ⟨ad, x, rfl, hx, xc⟩ := word_at (HS.out wr HK.out) (show i < m by omega)
      have hbx : (⟨x.toArray⟩ : ByteArray).size = x.length := Lib.size_eq _
      have hxl := HLL.out x (List.mem_of_getElem? hx)
      have HG := Lib.hid (show (l.getD i []).reverse[0]? = x.reverse[0]? by rw [List.getD_eq_getElem?_getD, hx]; rfl)
      obtain ⟨xn, hxn⟩ : ∃ q, x.length = q := ⟨_, rfl⟩
      have HXN := Lib.hid hxn
      rw [hxn] at hbx hxl
      clear hx hxn
      obtain ⟨en, hen⟩ : ∃ q, E.length = q := ⟨_, rfl⟩
      have HEN := Lib.hid hen
      rw [hen] at hEl HR HO
      rw [hen]
      clear hen
      by_cases h0 : x = []
      · subst h0
        have HE2 := Lib.hid (show E = endK l ch.toNat (i + 1) by
          rw [endK_succ, if_neg (by rw [HG.out]; simp), List.append_nil]; exact HE.out)
        go_wp2_with fail
        go_quiet (fail)
        go_wp2_with fail
        go_roundg g3
        case measure => omega
        case rel => exact ⟨i + 1, a, cp, E, by omega, by go_num, by rw [HEN.out], HE2, by rw [HEN.out]; omega, by rw [HEN.out]; exact Lib.hid (HR.out.drewN _), by rw [HEN.out]; exact HO, Lib.hid (HK.out.drewN _)⟩
      · obtain ⟨j, hj⟩ : ∃ j, j + 1 = xn := ⟨xn - 1, by
          have : x.length ≠ 0 := fun e => h0 (List.eq_nil_of_length_eq_zero e)
          have := HXN.out
          omega⟩
        have hw1 : IntKind.i64.wrap ((xn : Int) - 1) = (j : Int) := by rw [IntKind.wrap_i64]; omega
        obtain ⟨e, _, hej, hga⟩ := at_c (show j < x.length by rw [HXN.out]; omega)
        have hjx : (j : Int) < (xn : Int) := by omega
        have HLE := Lib.hid (show x.reverse[0]? = some e by
          rw [List.getElem?_reverse (by rw [HXN.out]; omega), ← hej]
          congr 1
          rw [HXN.out]; omega)
        have hel := e.toNat_lt
        have hcl := ch.toNat_lt
        have hb0 : x.isEmpty = false := by
          cases x with
          | nil => exact absurd rfl h0
          | cons _ _ => rfl
        clear hej
        by_cases hec : e = ch
        · subst hec
          have HE2 := Lib.hid (show E ++ [i] = endK l e.toNat (i + 1) by
            rw [endK_succ, if_pos (by rw [HG.out, HLE.out]; simp), HE.out])
          go_wp2_with fail
          go_quiet (fail)
          go_wp2_with (at_builtin; refine wpl_append _ rfl (.tmp 34) (.tmp 36) 41 rfl 3 i0 (.int .i64 0) 1 8 Try.underlying41 hi hz0 hz1 hz2 rfl (by decide) (.slice a en cp) en (idVs E) rfl ?own ⟨wr.heap.size, 0, none⟩ 1 1 [.int .i64 (i : Int)] rfl rfl ?news ?one (by decide) ?b1 ?b2 ?kk)
          case own => exact Row.alloc (Row.drewN HR.out nq) _
          case news => exact news1 (w := wr.drewN nq)
          case one => intro u hu; simp at hu; subst hu; rfl
          case b1 => unfold maxLen; omega
          case b2 => omega
          case kk =>
            intro b1 cap1 w3 ho1 hg1 hb1 hl1
            have hkp := Lib.hid (((HK.out.drewN nq).alloc (.cells #[.int .i64 (i : Int)] 3)).grown hg1 (fun b hb => .inr (HO.out b hb)))
            have HD : RowKit.Hid (w.heap.size ≤ b1) := by
              rcases hb1 with h | h
              · exact Lib.hid (HO.out _ h)
              · exact Lib.hid (by rw [h]; have := HK.out.size; omega)
            have HL2 := Lib.hid (show (E ++ [i]).length = en + 1 by rw [List.length_append, HEN.out]; rfl)
            have HR8 := Lib.hid (show Row w3 3 1 (.slice (some ⟨b1, 0, none⟩) (E ++ [i]).length cap1) (E ++ [i]).length (idVs (E ++ [i])) by
              rw [HL2.out, show idVs (E ++ [i]) = idVs E ++ [.int .i64 (i : Int)] by simp [idVs]]; exact ho1)
            clear ho1 hg1 hb1
            go_wp2_with fail
            go_roundg g3
            case measure => omega
            case rel => exact ⟨i + 1, _, cap1, E ++ [i], by omega, by go_num, by rw [HL2.out], HE2, by rw [HL2.out]; omega, HR8, Lib.hid (fun b hb => by rw [HL2.out] at hb; simp [Value.ownBlock] at hb; rw [← hb]; exact HD.out), hkp⟩
        · have hne : ((e.toNat : Int) == (ch.toNat : Int)) = false := by
            rw [beq_eq_false_iff_ne]
            intro h
            exact hec (UInt8.toNat_inj.1 (by omega))
          have HE2 := Lib.hid (show E = endK l ch.toNat (i + 1) by
            rw [endK_succ, if_neg (by rw [HG.out, HLE.out]; intro h; injection h with h; exact hec (by rw [h]; simp)), List.append_nil]; exact HE.out)
          clear hec
          go_wp2_with fail
          go_quiet (fail)
          go_wp2_with fail
          go_roundg g3
          case measure => omega
          case rel => exact ⟨i + 1, a, cp, E, by omega, by go_num, by rw [HEN.out], HE2, by rw [HEN.out]; omega, by rw [HEN.out]; exact Lib.hid (HR.out.drewN _), by rw [HEN.out]; exact HO, Lib.hid (HK.out.drewN _)⟩

theorem rsame5_ (A1 A2 : Option Addr) (n c1 c2 B1 B2 : Nat) (zs : List (List UInt8)) (w : World) (h1 : Sees w B1 1 A1 n (strVs zs)) (h2 : Sees w B2 1 A2 n (strVs zs)) (hn : n ≤ 1000000000) :
    Calls Try.prog 26 #[.slice A1 n c1, .slice A2 n c2] w fun e w' => e = .returned (.bool true) ∧ ∃ k, w' = w.drewN k := by
  have HS1 := Lib.hid h1
  have HS2 := Lib.hid h2
  clear h1 h2
  go_enter Try.func26, Try.ntmps26
  go_wp2
  go_loopw [5] (fun v5 wr => ∃ k : Nat, k ≤ n ∧ v5 = .int .i64 k ∧ ∃ q, wr = w.drewN q) (fun v5 _ => n - (intOf v5).toNat)
  case atStart => exact ⟨0, Nat.zero_le _, rfl, 0, rfl⟩
  case round =>
    obtain ⟨k, hk, rfl, q, rfl⟩ := hrel
    by_cases hlt : k < n
    · obtain ⟨ad1, z, rfl, hz1, hc1⟩ := word_at HS1.out hlt
      obtain ⟨ad2, z2, rfl, hz2, hc2⟩ := word_at HS2.out hlt
      obtain rfl : z = z2 := by rw [hz1] at hz2; injection hz2
      clear hz1 hz2
      go_wp2
      go_quiet (fail)
      go_wp2
      go_roundw
      case rel => exact ⟨k + 1, by omega, by go_num, _, rfl⟩
      case measure => simp [intOf]; omega
    · obtain rfl : k = n := by omega
      go_wp2
      go_ret
      exact ⟨rfl, _, rfl⟩
def totL (l : List (List UInt8)) : Nat := (l.map List.length).sum
set_option maxHeartbeats 1000000 in
theorem rtotal_ (A : Option Addr) (m c B : Nat) (l : List (List UInt8)) (w : World) (h : Sees w B 1 A m (strVs l)) (hm : m ≤ 1000) (hll : ∀ x ∈ l, x.length ≤ 1000) :
    Calls Try.prog 25 #[.slice A m c] w fun e w' => e = .returned (.int .i64 (totL l : Int)) ∧ w' = w := by
  have HL := Lib.hid (show l.length = m by have := h.1; rw [strVs_len] at this; omega)
  have HS := Lib.hid h
  have HLL := Lib.hid hll
  have HT := Lib.hid (show totL l = (l.map List.length).sum from rfl)
  generalize totL l = r at *
  clear h hll
  go_enter Try.func25, Try.ntmps25
  go_wp2
  go_loopg [3, 4] m (fun gh v3 v4 wr => (∃ i n : Nat, i + gh = m ∧ v4 = .int .i64 (i : Int) ∧ v3 = .int .i64 (n : Int) ∧ n ≤ 1000 * i ∧ RowKit.Hid (n = ((l.take i).map List.length).sum)) ∧ wr = w)
  case atStart => exact ⟨⟨0, 0, by omega, rfl, rfl, Nat.le_refl _, Lib.hid (by simp)⟩, rfl⟩
  case round =>
    obtain ⟨⟨i, n, hig, rfl, rfl, hn, H⟩, rfl⟩ := hrel
    cases gk with
    | zero =>
      obtain rfl : i = m := by omega
      have HF := Lib.hid (show n = r by rw [HT.out, H.out, List.take_of_length_le (by rw [HL.out]; exact Nat.le_refl _)])
      go_wp2
      go_ret
      exact ⟨congrArg (fun (z : Nat) => Ending.returned (Value.int IntKind.i64 (z : Int))) HF.out, rfl⟩
    | succ g3 =>
      have hii : (i : Int) < (m : Int) := by omega
      obtain ⟨ad, x, rfl, hx, xc⟩ := word_at HS.out (show i < m by omega)
      have hbx : (⟨x.toArray⟩ : ByteArray).size = x.length := Lib.size_eq _
      have hxl := HLL.out x (List.mem_of_getElem? hx)
      have H2 := Lib.hid (show n + x.length = ((l.take (i + 1)).map List.length).sum by
        rw [List.take_add_one, hx, List.map_append, List.sum_append, ← H.out]; simp)
      obtain ⟨xn, hxn⟩ : ∃ q, x.length = q := ⟨_, rfl⟩
      rw [hxn] at hbx hxl H2
      clear hx hxn
      go_wp2
      go_roundg g3
      case measure => omega
      case rel => exact ⟨⟨i + 1, n + xn, by omega, by go_num, by go_num, by omega, H2⟩, rfl⟩
end Go.Proofs.Ytkbdfnmeomkpjaa
