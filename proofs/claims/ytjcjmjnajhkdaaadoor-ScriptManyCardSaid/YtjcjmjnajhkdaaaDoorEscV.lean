import Derived.Test.YtjcjmjnajhkdaaaDoorEscU
import Derived.Test.YtjcjmjnajhkdaaaDoorEscR
namespace Go.Proofs.YtjcjmjnajhkdaaaDoor
open Go.RowKit
set_option linter.unusedVariables false
set_option linter.unusedSimpArgs false
set_option maxRecDepth 100000

/-- What stands in the reference's Unquote: out is read, the signs of out stand at the start. -/
theorem runq_ends {s out : List UInt8} (h : signsL out = s) (h0 : s ≠ []) (h45 : s ≠ [45]) : unqL s = some out := by
  refine unq_iff.2 ?_
  unfold quoteL
  have e1 : out ≠ [] := fun e => h0 (by rw [← h, e]; rfl)
  have e2 : out ≠ [45] := fun e => h45 (by rw [← h, e]; decide +kernel)
  rw [if_neg e1, if_neg e2, h]
theorem runq_fails {s out rest : List UInt8} (h : signsL out ++ rest = s) (hr : rest ≠ []) (h45 : s ≠ [45]) (h2d : s ≠ [92, 120, 50, 100]) (hn : ∀ c : UInt8, ¬ signL c <+: rest) : unqL s = none := by
  refine unq_none fun o ho => ?_
  have hso : signsL o = s := by
    unfold quoteL at ho
    split at ho
    · exact absurd ho.symm h45
    · split at ho
      · exact absurd (ho.symm.trans (by decide +kernel)) h2d
      · exact ho
  obtain ⟨d, _, hd⟩ := signs_cut (hso.trans h.symm)
  cases d with
  | nil => exact hr (by simpa [signsL] using hd.symm)
  | cons c d => exact hn c ⟨signsL d, by simpa [signsL] using hd⟩

/-- The reference's state: out is read, rest is left. -/
def RuSt (s : List UInt8) (w wr : World) (out rest : List UInt8) (a : Option Addr) (c : Nat) : Prop :=
  Row wr 5 1 (.slice a out.length c) out.length (out.map byteV) ∧ signsL out ++ rest = s ∧ Pure' w wr ∧ (∀ b, (Value.slice a out.length c).ownBlock = some b → w.heap.size ≤ b)

theorem RuSt.pure {s : List UInt8} {w wr w2 : World} {out rest : List UInt8} {a : Option Addr} {c : Nat} (h : RuSt s w wr out rest a c) (hk : Pure' wr w2) : RuSt s w w2 out rest a c :=
  ⟨h.1.keep hk (fun _ _ h => h), h.2.1, h.2.2.1.trans hk (fun _ _ h => h), h.2.2.2⟩
theorem signs_ge : ∀ l, l.length ≤ (signsL l).length
  | [] => Nat.le_refl _
  | c :: l => by
    have h1 := signs_ge l
    have h2 := List.length_pos_iff.2 (sign_ne c)
    simp only [signsL, List.flatMap_cons, List.length_append, List.length_cons] at *
    omega

set_option maxHeartbeats 2000000 in
theorem runquote_big (s : List UInt8) (w : World) (hs : s.length ≤ 100000) (h45 : s ≠ [45]) (h2d : s ≠ [92, 120, 50, 100]) (h0 : s ≠ []) : Calls Tryd.prog 46 #[.string ⟨s.toArray⟩] w fun e w' => e = .returned (unqV s) ∧ Pure' w w' := by
  obtain ⟨i0, hi, hz0, hz1, hz2⟩ := info_parts u8info'
  have q1 : (s == [45]) = false := by simpa using h45
  have q2 : (s == [92, 120, 50, 100]) = false := by simpa using h2d
  have q3 : s.isEmpty = false := by cases s with | nil => exact absurd rfl h0 | cons _ _ => rfl
  have hsz : ((⟨s.toArray⟩ : ByteArray)).size = s.length := by simp [ByteArray.size]
  have HS := Lib.hid rsign_
  have H0 := Lib.hid h0
  have H1 := Lib.hid h45
  have H2 := Lib.hid h2d
  have HR0 := Lib.hid (show RuSt s w (w.alloc (.cells #[] 5)) [] s (some ⟨w.heap.size, 0, none⟩) 0 from ⟨by have := row_new w [] 0 rfl (by decide); exact this, rfl, (Keeps.refl _ w).alloc _, by intro b hb; simp [Value.ownBlock] at hb; omega⟩)
  clear h0 h45 h2d
  generalize hS : (⟨s.toArray⟩ : ByteArray) = S at *
  generalize hn : s.length = n at *
  go_enter Tryd.func46, Tryd.ntmps46
  subst hS
  go_wp2
  go_loopw [4, 5] (fun v4 v5 wr => ∃ (out rest : List UInt8) (a : Option Addr) (c : Nat), v4 = .slice a out.length c ∧ v5 = .int .i64 (signsL out).length ∧ RuSt s w wr out rest a c) (fun _ v5 _ => n - (intOf v5).toNat)
  case atStart => exact ⟨[], s, _, 0, rfl, rfl, HR0.out⟩
  case round =>
    obtain ⟨out, rest, a, c, rfl, rfl, hst⟩ := hrel
    have HT := Lib.hid hst
    have hl : (signsL out).length + rest.length = n := by rw [← hn, ← hst.2.1, List.length_append]
    clear hst
    by_cases hr : rest = []
    · subst hr
      have hcv := conv_row (dst := 9) Tryd.underlying87 Tryd.underlying5 Tryd.underlying9 HT.out.1
      have hle : (signsL out).length = n := by simpa using hl
      have hv := Lib.hid (show unqV s = .tuple #[.string ⟨out.toArray⟩, .int .i64 0] by unfold unqV; rw [runq_ends (by simpa using HT.out.2.1) H0.out H1.out])
      go_wp2
      go_ret2
      rw [hv.out]
      exact ⟨rfl, HT.out.2.2.1⟩
    · have hlt : (signsL out).length < n := by have := List.length_pos_iff.2 hr; omega
      go_wp2
      go_loopw [4, 5, 6, 7] (fun v4 v5 v6 v7 wi => ∃ (k : Nat) (fd : Bool) (out' rest' : List UInt8) (a' : Option Addr) (c' : Nat), k ≤ 256 ∧ v7 = .int .i64 k ∧ v6 = .bool fd ∧ v4 = .slice a' out'.length c' ∧ v5 = .int .i64 (signsL out').length ∧ RuSt s w wi out' rest' a' c' ∧ (fd = false → rest' = rest ∧ ∀ x : UInt8, x.toNat < k → ¬ signL x <+: rest) ∧ (fd = true → rest'.length < rest.length)) (fun _ _ _ v7 _ => 256 - (intOf v7).toNat)
      case atStart => exact ⟨0, false, out, rest, a, c, by omega, rfl, rfl, rfl, rfl, HT.out, fun _ => ⟨rfl, fun x h => absurd h (Nat.not_lt_zero _)⟩, fun h => nomatch h⟩
      case round =>
        obtain ⟨k, fd, out', rest', a', c', hk, rfl, rfl, rfl, rfl, hst, hf, ht⟩ := hrel
        have HT2 := Lib.hid hst
        have HF := Lib.hid hf
        have HD := Lib.hid ht
        clear hst hf ht
        cases fd with
        | true =>
          have HD0 := Lib.hid (HD.out rfl)
          have hl2 : (signsL out').length + rest'.length = n := by rw [← hn, ← HT2.out.2.1, List.length_append]
          clear HD HF
          by_cases hk2 : (k : Int) < 256
          · go_wp2
            go_roundw
            case rel => exact ⟨out', rest', a', c', rfl, rfl, HT2.out⟩
            case measure => have := HD0.out; simp [intOf]; omega
          · go_wp2
            go_roundw
            case rel => exact ⟨out', rest', a', c', rfl, rfl, HT2.out⟩
            case measure => have := HD0.out; simp [intOf]; omega
        | false =>
          have HF0 := Lib.hid (HF.out rfl)
          clear HF HD
          by_cases hk2 : k < 256
          · have hk64 : (k : Int) < 256 := by omega
            have hb : ((UInt8.ofNat k).toNat : Int) = k := by simp; omega
            have HS1 : Hid (∀ w, Calls Tryd.prog 59 #[.int .u8 k] w fun e w' => e = .returned (.string ⟨(signL (UInt8.ofNat k)).toArray⟩) ∧ Pure' w w') := Lib.hid (fun w => by have := rsign_ (UInt8.ofNat k) w; rwa [hb] at this)
            have hpre : (signL (UInt8.ofNat k)) <+: rest ↔ (s.drop (signsL out').length).take (signL (UInt8.ofNat k)).length = signL (UInt8.ofNat k) := by
              have e1 : s.drop (signsL out').length = rest := by rw [← HT2.out.2.1, List.drop_left, HF0.out.1]
              rw [e1, List.prefix_iff_eq_take, eq_comm]
            have hA : (signsL out').length + rest.length = n := by rw [← hn, ← HT2.out.2.1, List.length_append, HF0.out.1]
            have hT := sign_len (UInt8.ofNat k)
            have HX : Hid (∀ A B : Nat, (⟨s.toArray⟩ : ByteArray).extract A (A + B) = ⟨((s.drop A).take B).toArray⟩) := Lib.hid (fun A B => bytes_eq (by simp [ByteArray.extract, ByteArray.copySlice, List.take_drop]))
            have HO := Lib.hid (HT2.out.2.2.2)
            generalize hAA : (signsL out').length = A at *
            generalize hTT : signL (UInt8.ofNat k) = T at *
            generalize hBB : T.length = B at *
            have hts : (⟨T.toArray⟩ : ByteArray).size = B := by simp [ByteArray.size, hBB]
            have b1 : (A : Int) ≤ 100000 := by omega
            have b2 : (B : Int) ≤ 4 := by omega
            by_cases hfit : B ≤ n - A
            · have f1 : (B : Int) ≤ (n : Int) - (A : Int) := by omega
              have f2 : (A : Int) + (B : Int) ≤ (n : Int) := by omega
              have hx := HX.out A B
              generalize hY : (s.drop A).take B = Y at *
              cases hyt : (Y == T) with
              | true =>
                have HPre := Lib.hid (hpre.2 (eq_of_beq hyt))
                have HNew := Lib.hid (show signsL (out' ++ [UInt8.ofNat k]) = signsL out' ++ T by rw [signs_append, signs_one, hTT])
                clear hpre
                go_wp2_with (first | (go_at_call 59; refine (HS1.out _).mono ?_; rintro e w2 ⟨rfl, hk3⟩; have HK3 := Lib.hid hk3; clear hk3) | (at_builtin; refine wpl_append _ rfl (.tmp 49) (.tmp 52) 87 rfl 5 i0 (.int .u8 0) 1 1 Tryd.underlying87 hi hz0 hz1 hz2 rfl (by decide) (.slice a' out'.length c') out'.length (out'.map byteV) rfl ?own ⟨w2.heap.size, 0, none⟩ 1 1 [.int .u8 k] rfl rfl ?news ?one (by decide) ?b1 ?b2 ?k))
                case own => exact (HT2.out.1.keep HK3.out (fun _ _ h => h)).alloc _
                case news => exact news1
                case one => exact fun u hu => by simp at hu; subst hu; rfl
                case b1 => have := signs_ge out'; unfold maxLen; omega
                case b2 => have := signs_ge out'; omega
                case k =>
                  intro g cap w3 hrow3 hgrow hg hgl
                  have HR3 := Lib.hid hrow3
                  have HG3 := Lib.hid hgrow
                  have HGB := Lib.hid hg
                  clear hrow3 hgrow hg
                  go_wp2
                  go_roundw
                  case rel =>
                    obtain ⟨tl, htl⟩ := HPre.out
                    have hP3 : Pure' w w3 := (((HT2.out.2.2.1.trans HK3.out (fun _ _ h => h)).alloc _)).grown HG3.out (fun k hk => .inr (HO.out k hk))
                    refine ⟨k + 1, true, out' ++ [UInt8.ofNat k], tl, some ⟨g, 0, none⟩, cap, by omega, by go_num, rfl, by simp, ?_, ⟨?_, ?_, hP3, ?_⟩, (fun h => nomatch h), fun _ => ?_⟩
                    · rw [HNew.out, List.length_append, hAA, hBB]; simp
                    · have e : byteV (UInt8.ofNat k) = .int .u8 k := by unfold byteV; rw [hb]
                      rw [List.map_append, List.map_cons, List.map_nil, e]
                      have := HR3.out
                      simpa using this
                    · rw [HNew.out, List.append_assoc, htl, ← HF0.out.1]; exact HT2.out.2.1
                    · intro x hx
                      have hxg : g = x := by simpa [Value.ownBlock] using hx
                      rcases HGB.out with h | h
                      · exact hxg ▸ HO.out g h
                      · have h' : g = w2.heap.size + 1 := h
                        have := (HT2.out.2.2.1.trans HK3.out (fun _ _ h => h)).size
                        omega
                    · have hTne : 0 < T.length := List.length_pos_iff.2 (by rw [← hTT]; exact sign_ne _)
                      rw [← htl, List.length_append]; omega
                  case measure => simp [intOf]; omega
              | false =>
                have HNO : Hid (¬ T <+: rest) := Lib.hid (fun h => by rw [hpre.1 h] at hyt; simp at hyt)
                clear hpre
                go_wp2_with (go_at_call 59; refine (HS1.out _).mono ?_; rintro e w2 ⟨rfl, hk3⟩; have HK3 := Lib.hid hk3; clear hk3)
                go_roundw
                case rel =>
                  refine ⟨k + 1, false, out', rest', a', c', by omega, by go_num, rfl, rfl, by rw [hAA], HT2.out.pure HK3.out, fun _ => ⟨HF0.out.1, fun x hx => ?_⟩, fun h => nomatch h⟩
                  by_cases hxk : x.toNat = k
                  · have : x = UInt8.ofNat k := by rw [← hxk]; simp
                    rw [this, hTT]
                    exact HNO.out
                  · exact HF0.out.2 x (by omega)
                case measure => simp [intOf]; omega
            · have f1 : (n : Int) - (A : Int) < (B : Int) := by omega
              have HNO : Hid (¬ T <+: rest) := Lib.hid (fun h => by have := h.length_le; omega)
              clear hpre
              go_wp2_with (go_at_call 59; refine (HS1.out _).mono ?_; rintro e w2 ⟨rfl, hk3⟩; have HK3 := Lib.hid hk3; clear hk3)
              go_roundw
              case rel =>
                refine ⟨k + 1, false, out', rest', a', c', by omega, by go_num, rfl, rfl, by rw [hAA], HT2.out.pure HK3.out, fun _ => ⟨HF0.out.1, fun x hx => ?_⟩, fun h => nomatch h⟩
                by_cases hxk : x.toNat = k
                · have : x = UInt8.ofNat k := by rw [← hxk]; simp
                  rw [this, hTT]
                  exact HNO.out
                · exact HF0.out.2 x (by omega)
              case measure => simp [intOf]; omega
          · obtain rfl : k = 256 := by omega
            have hv := Lib.hid (show unqV s = .tuple #[.string ⟨#[]⟩, .int .i64 3] by unfold unqV; rw [runq_fails HT.out.2.1 hr H1.out H2.out (fun x => HF0.out.2 x x.toNat_lt)])
            go_wp2
            go_ret2
            rw [hv.out]
            exact ⟨rfl, HT2.out.2.2.1⟩

theorem unqV_2d : unqV [92, 120, 50, 100] = .tuple #[.string ⟨#[45]⟩, .int .i64 0] := by unfold unqV; rw [unq_iff.2 (show quoteL [45] = [92, 120, 50, 100] by decide +kernel)]
theorem unqV_nil : unqV [] = .tuple #[.string ⟨#[]⟩, .int .i64 3] := by unfold unqV; rw [unq_none (fun o h => quote_ne o h)]
set_option maxHeartbeats 1000000 in
theorem runquote_ (s : List UInt8) (w : World) (hs : s.length ≤ 100000) : Calls Tryd.prog 46 #[.string ⟨s.toArray⟩] w fun e w' => e = .returned (unqV s) ∧ Pure' w w' := by
  by_cases h45 : s = [45]
  · subst h45
    rw [unqV_dash]
    go_enter Tryd.func46, Tryd.ntmps46
    go_wp2
    go_ret2
    exact ⟨rfl, Keeps.refl _ _⟩
  · by_cases h2d : s = [92, 120, 50, 100]
    · subst h2d
      rw [unqV_2d]
      go_enter Tryd.func46, Tryd.ntmps46
      go_wp2
      go_ret2
      exact ⟨rfl, Keeps.refl _ _⟩
    · by_cases h0 : s = []
      · subst h0
        rw [unqV_nil]
        go_enter Tryd.func46, Tryd.ntmps46
        go_wp2
        go_ret2
        exact ⟨rfl, Keeps.refl _ _⟩
      · exact runquote_big s w hs h45 h2d h0
end Go.Proofs.YtjcjmjnajhkdaaaDoor
