/- The states of a set, by the reference; no condition but the sizes. -/
import Derived.Test.YtkbdfnmeomkpjaaRefF
namespace Go.Proofs.Ytkbdfnmeomkpjaa
open Go.RowKit
set_option linter.unusedVariables false
set_option linter.unusedSimpArgs false
set_option maxRecDepth 100000

/-- Texts of the call's own. -/
structure Sw (w W : World) (v : Value) (LL : List (List UInt8)) : Prop where
  row : Row W 9 1 v LL.length (strVs LL)
  own : ∀ b, v.ownBlock = some b → w.heap.size ≤ b
  pure : Pure' w W
theorem Sw.then_ {w W W' : World} {v : Value} {LL : List (List UInt8)} (h : Sw w W v LL) (hk : Pure' W W') : Sw w W' v LL := ⟨h.row.keep hk (fun _ _ hf => hf), h.own, h.pure.trans hk (fun _ _ hf => hf)⟩
theorem Sw.form {w W : World} {v : Value} {LL : List (List UInt8)} (h : Sw w W v LL) : ∃ a cp, v = .slice a LL.length cp := by
  obtain ⟨a, cp, e, _⟩ := h.row.form
  exact ⟨a, cp, e⟩
theorem most_step {l : List (List UInt8)} {x : List UInt8} {k : Nat} (hx : l[k]? = some x) : mostL (l.take (k + 1)) = max (mostL (l.take k)) x.length := by
  rw [List.take_add_one, hx]; simp [mostL]
theorem roundL_step {l out : List (List UInt8)} {x : List UInt8} {k n : Nat} (hx : l[k]? = some x) : roundL (l.take (k + 1)) out n = stepL n (roundL (l.take k) out n) x := by
  rw [List.take_add_one, hx]; simp [roundL]
theorem stepL_ne {n : Nat} {out : List (List UInt8)} {x : List UInt8} (h : out ≠ []) : stepL n out x ≠ [] := by
  unfold stepL; split
  · simp
  · exact h

theorem roundL_ne : ∀ (l out : List (List UInt8)) (n : Nat), out ≠ [] → roundL l out n ≠ []
  | [], out, n, h => h
  | x :: l, out, n, h => roundL_ne l _ n (stepL_ne h)
theorem statesN_ne (l : List (List UInt8)) : ∀ k, statesN l k ≠ []
  | 0 => by simp [statesN]
  | k + 1 => by rw [statesN_succ]; exact roundL_ne _ _ _ (statesN_ne l k)
set_option maxHeartbeats 2000000 in
theorem rstates_ (A : Option Addr) (n c B : Nat) (l : List (List UInt8)) (w : World) (h : Sees w B 1 A n (strVs l)) (hB : B ≤ w.heap.size) (hn : n ≤ 12) (hll : ∀ x ∈ l, x.length ≤ 20) :
    Calls Try.prog 31 #[.slice A n c] w fun e w' => ∃ A' c', e = .returned (.slice A' (statesL l).length c') ∧ Sw w w' (.slice A' (statesL l).length c') (statesL l) := by
  have HL := Lib.hid (show l.length = n by have := h.1; rw [strVs_len] at this; omega)
  have HS := Lib.hid (fun (W : World) (hW : Pure' w W) => h.pure hW hB)
  have HLL := Lib.hid hll
  obtain ⟨i0, hi, hz0, hz1, hz2⟩ := info_parts strInfo2
  have hMl : mostL l ≤ 20 := mostL_max l 0 20 (by omega) hll
  have HFEW := Lib.hid (fun (k n' : Nat) (hk : k ≤ 20) => show (statesN l k).length ≤ 241 from by
    have h1 := statesN_len l k
    have h2 : k * l.length ≤ 20 * 12 := Nat.mul_le_mul hk (by rw [HL.out]; exact hn)
    omega)
  have HN0 := Lib.hid (show Sw w (w.alloc (.cells #[.string ⟨#[]⟩] 9)) (.slice (some ⟨w.heap.size, 0, none⟩) 1 1) [[]] from
    ⟨⟨by simp [strVs], .inr ⟨w.heap.size, 1, _, rfl, Nat.zero_le _, Blk.new w _ _, Nat.le_refl _, by decide, by simp, by simp [strVs]⟩⟩, fun b hb => by simp [Value.ownBlock] at hb; omega, (Keeps.refl _ w).alloc _⟩)
  clear h hll
  go_enter Try.func31, Try.ntmps31
  go_wp2
  generalize hW0 : w.alloc (.cells #[.string ⟨#[]⟩] 9) = W0 at *
  clear hW0
  go_loopg [4, 5] n (fun gh v4 v5 wr => ∃ k : Nat, k + gh = n ∧ v5 = .int .i64 (k : Int) ∧ v4 = .int .i64 (mostL (l.take k) : Int) ∧ wr = W0)
  case atStart => exact ⟨0, by omega, rfl, rfl, rfl⟩
  case round =>
    obtain ⟨k, hkg, rfl, rfl, rfl⟩ := hrel
    cases gk with
    | zero =>
      obtain rfl : k = n := by omega
      rw [List.take_of_length_le (by rw [HL.out]; exact Nat.le_refl _)]
      obtain ⟨M, hM⟩ : ∃ M, mostL l = M := ⟨_, rfl⟩
      have HM := Lib.hid hM
      rw [hM] at hMl ⊢
      clear hM
      go_wp2
      go_loopg [3, 6, 7] M (fun gh v3 v6 v7 wy => ∃ d : Nat, d + gh = M ∧ v6 = .int .i64 ((d : Int) + 1) ∧ RowKit.Hid (Sw w wy v3 (statesN l d)))
      case atStart => exact ⟨0, by omega, rfl, HN0⟩
      case round =>
        obtain ⟨d, hdg, rfl, HA⟩ := hrel
        obtain ⟨a, cp, rfl⟩ := HA.out.form
        cases gk with
        | zero =>
          obtain rfl : d = M := by omega
          have hdi : ¬ (d : Int) + 1 ≤ (d : Int) := by omega
          have HST := Lib.hid (show statesN l d = statesL l by unfold statesL; rw [HM.out])
          rw [HST.out] at HA ⊢
          go_wp2
          go_ret
          exact ⟨a, cp, rfl, HA.out⟩
        | succ g3 =>
          have hdi : (d : Int) + 1 ≤ (M : Int) := by omega
          go_wp2
          go_loopg [3, 7] k (fun gh v3 v7 wz => ∃ i : Nat, i + gh = k ∧ v7 = .int .i64 (i : Int) ∧ RowKit.Hid (Sw w wz v3 (roundL (l.take i) (statesN l d) (d + 1))))
          case atStart => exact ⟨0, by omega, rfl, HA⟩
          case round =>
            obtain ⟨i, hik, rfl, HB2⟩ := hrel
            obtain ⟨a2, cp2, rfl⟩ := HB2.out.form
            rename_i gz _
            cases gk with
            | zero =>
              obtain rfl : i = k := by omega
              have HSS := Lib.hid (show roundL (l.take i) (statesN l d) (d + 1) = statesN l (d + 1) by rw [statesN_succ, List.take_of_length_le (by rw [HL.out]; exact Nat.le_refl _)])
              rw [HSS.out] at HB2 ⊢
              go_wp2
              go_roundg g3
              case measure => omega
              case rel => exact ⟨d + 1, by omega, by go_num, HB2⟩
            | succ g4 =>
              have hrs := roundL_step (out := statesN l d) (n := d + 1) (List.getElem?_eq_getElem (l := l) (i := i) (by rw [HL.out]; omega))
              obtain ⟨ad, x, rfl, hx, xc⟩ := word_at (HS.out _ HB2.out.pure) (show i < k by omega)
              rw [(List.getElem?_eq_some_iff.1 hx).2] at hrs
              have hbx : (⟨x.toArray⟩ : ByteArray).size = x.length := Lib.size_eq _
              have hxl := HLL.out x (List.mem_of_getElem? hx)
              have hne := roundL_ne (l.take i) (statesN l d) (d + 1) (statesN_ne l d)
              have hol := roundL_len (l.take i) (statesN l d) (d + 1)
              have hsl := HFEW.out d 0 (by omega)
              have htl : (l.take i).length ≤ 12 := by rw [List.length_take, HL.out]; omega
              have HRS := Lib.hid hrs
              clear hrs hx
              generalize roundL (l.take i) (statesN l d) (d + 1) = out at *
              obtain ⟨q, hq⟩ : ∃ q, out.length = q + 1 := ⟨out.length - 1, by have := List.length_pos_iff.2 hne; omega⟩
              have hrow : Row wr 9 1 (.slice a2 (q + 1) cp2) (q + 1) (strVs out) := by have := HB2.out.row; rwa [hq] at this
              rw [hq]
              obtain ⟨ad2, y, rfl, hy, yc⟩ := word_at hrow.sees (show q < q + 1 by omega)
              have hlast : lastOf out = y := by
                unfold lastOf
                rw [List.getLastD_eq_getLast?, List.getLast?_eq_getElem?, hq, Nat.add_sub_cancel, hy]; rfl
              have hq1 : ((q + 1 : Nat) : Int) - 1 = (q : Int) := by omega
              have hxt : (⟨x.toArray⟩ : ByteArray).extract 0 (d + 1) = ⟨(x.take (d + 1)).toArray⟩ := bytes_eq (by simp [ByteArray.extract, ByteArray.copySlice])
              have HLA := Lib.hid hlast
              have HNE := Lib.hid hne
              have hqb : q ≤ 1000 := by omega
              have HB3 : RowKit.Hid (Sw w wr (.slice (some ad2) (q + 1) cp2) out) := by have := HB2; rw [hq] at this; exact this
              have HQ := Lib.hid hq
              clear hy hlast hne hq hol hsl htl HB2
              by_cases hle : d + 1 ≤ x.length
              · have hlei : (d : Int) + 1 ≤ (x.length : Int) := by omega
                by_cases he : x.take (d + 1) = y
                · have hst : stepL (d + 1) out x = out := by unfold stepL; rw [if_neg (fun h => h.2 (he.trans HLA.out.symm))]
                  rw [hst] at HRS
                  have heb : (x.take (d + 1) == y) = true := by simpa using he
                  clear hrow hst he
                  go_wp2_with fail
                  go_region
                  have HA2 := Lib.hid (HB3.out.then_ ((Keeps.refl (fun _ => False) wr).drew))
                  go_wp2
                  go_roundg g4
                  case measure => omega
                  case rel => exact ⟨i + 1, by omega, by go_num, by rw [HRS.out]; exact HA2⟩
                · have hst : stepL (d + 1) out x = out ++ [x.take (d + 1)] := by unfold stepL; rw [if_pos ⟨hle, fun h => he (h.trans HLA.out)⟩]
                  rw [hst] at HRS
                  have heb : (x.take (d + 1) == y) = false := by simpa using he
                  clear hrow hst he
                  go_wp2_with fail
                  go_region
                  have HA2 := Lib.hid (HB3.out.then_ ((Keeps.refl (fun _ => False) wr).drew))
                  go_wp2_with (at_builtin; refine wpl_append _ rfl (.tmp 60) (.tmp 67) 22 rfl 9 i0 (.string ByteArray.empty) 1 16 Try.underlying22 hi hz0 hz1 hz2 rfl (by decide) (.slice (some ad2) (q + 1) cp2) (q + 1) (strVs out) rfl ?own ⟨wr.heap.size, 0, none⟩ 1 1 [.string ⟨(x.take (d + 1)).toArray⟩] rfl rfl ?news ?one (by decide) ?b1 ?b2 ?kk)
                  case own => have := Row.alloc HA2.out.row (.cells #[.string ⟨(x.take (d + 1)).toArray⟩] 9); rw [HQ.out] at this; exact this
                  case news => exact news1
                  case one => intro u hu; simp at hu; subst hu; rfl
                  case b1 => unfold maxLen; omega
                  case b2 => omega
                  case kk =>
                    intro b1 cap1 w3 ho1 hg1 hb1 hl1
                    have HK := Lib.hid ((HA2.out.pure.alloc _).grown hg1 (fun k hk => .inr (HA2.out.own k hk)))
                    have HD : RowKit.Hid (w.heap.size ≤ b1) := by
                      rcases hb1 with h | h
                      · exact Lib.hid (HA2.out.own _ h)
                      · exact Lib.hid (by rw [h]; have := HA2.out.pure.size; simp [World.alloc] at this ⊢; omega)
                    have HN3 : RowKit.Hid (Sw w w3 (.slice (some ⟨b1, 0, none⟩) (q + 1 + 1) cap1) (out ++ [x.take (d + 1)])) := Lib.hid (by
                      refine ⟨?_, fun b hb => by simp [Value.ownBlock] at hb; rw [← hb]; exact HD.out, HK.out⟩
                      have e : (out ++ [x.take (d + 1)]).length = q + 1 + 1 := by rw [List.length_append, HQ.out]; rfl
                      rw [e]
                      have e2 : strVs (out ++ [x.take (d + 1)]) = strVs out ++ [.string ⟨(x.take (d + 1)).toArray⟩] := by simp [strVs]
                      rw [e2]; exact ho1)
                    clear ho1 hg1 hb1
                    have HLN := Lib.hid (show (out ++ [x.take (d + 1)]).length = q + 1 + 1 by rw [List.length_append, HQ.out]; rfl)
                    go_wp2
                    go_roundg g4
                    case measure => omega
                    case rel => exact ⟨i + 1, by omega, by go_num, by rw [HRS.out]; exact HN3⟩
              · have hlei : ¬ (d : Int) + 1 ≤ (x.length : Int) := by omega
                have hst : stepL (d + 1) out x = out := by unfold stepL; rw [if_neg (fun h => hle h.1)]
                rw [hst] at HRS
                clear hrow hst
                go_wp2_with fail
                have hlei2 : decide ((d : Int) + 1 ≤ (x.length : Int)) = false := by simp; omega
                clear hlei
                go_region
                have HA2 := Lib.hid (HB3.out.then_ ((Keeps.refl (fun _ => False) wr).drew))
                go_wp2
                go_roundg g4
                case measure => omega
                case rel => exact ⟨i + 1, by omega, by go_num, by rw [HRS.out]; exact HA2⟩
    | succ g3 =>
      have hki : (k : Int) < (n : Int) := by omega
      obtain ⟨ad, x, rfl, hx, xc⟩ := word_at (HS.out _ HN0.out.pure) (show k < n by omega)
      have hbx : (⟨x.toArray⟩ : ByteArray).size = x.length := Lib.size_eq _
      have hms := most_step hx
      clear hx
      by_cases hgt : mostL (l.take k) < x.length
      · have hgti : (mostL (l.take k) : Int) < (x.length : Int) := by omega
        have hms2 : mostL (l.take (k + 1)) = x.length := by omega
        clear hms
        go_wp2
        go_roundg g3
        case measure => omega
        case rel => exact ⟨k + 1, by omega, by go_num, by rw [hms2], rfl⟩
      · have hgti : ¬ (mostL (l.take k) : Int) < (x.length : Int) := by omega
        have hms2 : mostL (l.take (k + 1)) = mostL (l.take k) := by omega
        clear hms
        go_wp2
        go_roundg g3
        case measure => omega
        case rel => exact ⟨k + 1, by omega, by go_num, by rw [hms2], rfl⟩

end Go.Proofs.Ytkbdfnmeomkpjaa
