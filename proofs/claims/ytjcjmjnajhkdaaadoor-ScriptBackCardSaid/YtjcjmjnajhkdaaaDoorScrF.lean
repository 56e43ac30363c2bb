/- How the reference parts a text into lines, and reads a number; no condition but the sizes. -/
import Derived.Test.YtjcjmjnajhkdaaaDoorScrE
import Derived.Test.YtjcjmjnajhkdaaaDoorDg
namespace Go.Proofs.YtjcjmjnajhkdaaaDoor
open Go.RowKit
set_option linter.unusedVariables false
set_option linter.unusedSimpArgs false
set_option maxRecDepth 100000

theorem seg_line {s : List UInt8} {f k : Nat} (h : f ≤ k) (hc : s[k]? = some 10) (hs : ∀ c ∈ (s.drop f).take (k - f), c ≠ 10) : linesL (s.drop f) = (s.drop f).take (k - f) :: linesL (s.drop (k + 1)) := by
  have hk : k < s.length := (List.getElem?_eq_some_iff.1 hc).1
  have e : s.drop f = (s.drop f).take (k - f) ++ 10 :: s.drop (k + 1) := by
    have h1 := List.take_append_drop (k - f) (s.drop f)
    rw [List.drop_drop, show f + (k - f) = k by omega, List.drop_eq_getElem_cons hk, (List.getElem?_eq_some_iff.1 hc).2] at h1
    exact h1.symm
  conv => lhs; rw [e]
  exact lines_cons _ _ hs
theorem seg_last {s : List UInt8} {f : Nat} (hs : ∀ c ∈ (s.drop f).take (s.length - f), c ≠ 10) : linesL (s.drop f) = [(s.drop f).take (s.length - f)] := by
  have e : (s.drop f).take (s.length - f) = s.drop f := List.take_of_length_le (by simp)
  rw [e] at hs ⊢
  have := lines_run (s.drop f) [] hs
  simpa [linesL] using this

def LinesPost (s : List UInt8) (w : World) (e : Ending) (w' : World) : Prop := ∃ A c, e = .returned (.slice A (linesL s).length c) ∧ Sees w' w'.heap.size 1 A (linesL s).length (strVs (linesL s)) ∧ (∀ ad, A = some ad → ∃ g, ad = ⟨g, 0, none⟩ ∧ w.heap.size ≤ g) ∧ Pure' w w'
set_option maxHeartbeats 1000000 in
theorem rsplit_ (s : List UInt8) (w : World) (hs : s.length ≤ 1000000) : Calls Tryd.prog 20 #[.string ⟨s.toArray⟩] w fun e w' => LinesPost s w e w' := by
  obtain ⟨i0, hi, hz0, hz1, hz2⟩ := info_parts strInfo
  have hsz : ((⟨s.toArray⟩ : ByteArray)).size = s.length := by simp [ByteArray.size]
  have HG := Lib.hid (fun k => @get_c s k)
  generalize hn : s.length = n at *
  have HN := Lib.hid hn
  clear hn
  go_enter Tryd.func20, Tryd.ntmps20
  go_wp2
  go_loopw [3, 4, 5] (fun v3 v4 v5 wr => ∃ (k f : Nat) (acc : List (List UInt8)), k ≤ n + 1 ∧ f ≤ k ∧ v5 = .int .i64 k ∧ v4 = .int .i64 f ∧
      acc.length ≤ k ∧ Row wr 9 1 v3 acc.length (strVs acc) ∧ (∀ b, v3.ownBlock = some b → w.heap.size ≤ b) ∧
      (k ≤ n → acc ++ linesL (s.drop f) = linesL s ∧ ∀ c ∈ (s.drop f).take (k - f), c ≠ 10) ∧ (k = n + 1 → acc = linesL s) ∧ Pure' w wr) (fun _ _ v5 _ => n + 1 - (intOf v5).toNat)
  case atStart =>
    exact ⟨0, 0, [], Nat.zero_le _, Nat.le_refl _, rfl, rfl, Nat.zero_le _, row_empty w _, by intro b hb; simp [Value.ownBlock] at hb; omega, fun _ => by simp, fun h => by omega, (Keeps.refl _ w).alloc _⟩
  case round =>
    obtain ⟨k, f, acc, hk, hf, rfl, rfl, ha, hr, hown, h1, h2, hp⟩ := hrel
    obtain ⟨a, cp, rfl, hcp⟩ := hr.form
    have HR := Lib.hid hr
    have HO := Lib.hid hown
    have H1 := Lib.hid h1
    have H2 := Lib.hid h2
    have HP := Lib.hid hp
    clear hr hown h1 h2 hp
    by_cases hkn : k ≤ n
    · obtain ⟨word, hword⟩ : ∃ word, (s.drop f).take (k - f) = word := ⟨_, rfl⟩
      have hext : (⟨s.toArray⟩ : ByteArray).extract f k = ⟨word.toArray⟩ := by rw [word_of s f k hf, hword]
      have HE := Lib.hid hext
      have HWd := Lib.hid hword
      clear hext hword
      have fin : Hid (((k < n ∧ s[k]? = some 10) ∨ k = n) → (k < n → (acc ++ [word]) ++ linesL (s.drop (k + 1)) = linesL s) ∧ (k = n → acc ++ [word] = linesL s)) := Lib.hid (by
        intro hc
        obtain ⟨g1, g2⟩ := H1.out hkn
        refine ⟨fun hlt => ?_, fun he => ?_⟩
        · have h10 : s[k]? = some 10 := by
            rcases hc with h | h
            · exact h.2
            · omega
          rw [seg_line hf h10 g2, HWd.out] at g1
          rw [List.append_assoc]
          exact g1
        · subst he
          rw [← HN.out] at g2 HWd
          rw [seg_last g2, HWd.out] at g1
          exact g1)
      by_cases hc : (k < n ∧ s[k]? = some 10) ∨ k = n
      · have hfin := fin.out hc
        have HF := Lib.hid hfin
        have hcase : k = n ∨ (k < n ∧ (∃ hk' : k < n, ∀ h', (⟨s.toArray⟩ : ByteArray)[k]'h' = 10)) := by
          rcases hc with h | h
          · refine .inr ⟨h.1, h.1, fun h' => ?_⟩
            have := (List.getElem?_eq_some_iff.1 h.2).2
            exact this
          · exact .inl h
        clear hc hfin fin
        have grow : ∀ (w1 : World), Hid (∀ b1 cap1, Row w1 9 1 (.slice (some ⟨b1, 0, none⟩) (acc.length + 1) cap1) (acc.length + 1) (strVs acc ++ [.string ((⟨s.toArray⟩ : ByteArray).extract f k)]) → Row w1 9 1 (.slice (some ⟨b1, 0, none⟩) (acc ++ [word]).length cap1) (acc ++ [word]).length (strVs (acc ++ [word]))) := fun w1 => Lib.hid (by
          intro b1 cap1 h
          rw [HE.out] at h
          simpa [strVs] using h)
        rcases hcase with rfl | ⟨hlt, _, hb⟩
        · skip
          go_wp2_with (at_builtin; refine wpl_append _ rfl (.tmp 23) (.tmp 28) 23 rfl 9 i0 (.string ByteArray.empty) 1 16 Tryd.underlying23 hi hz0 hz1 hz2 rfl (by decide) (.slice a acc.length cp) acc.length (strVs acc) rfl ?own ⟨wr.heap.size, 0, none⟩ 1 1 [.string ((⟨s.toArray⟩ : ByteArray).extract f k)] rfl rfl ?news ?one (by decide) ?b1 ?b2 ?k)
          case own => exact Row.alloc HR.out _
          case one => first | rfl | exact strV_one _
          case b1 => unfold maxLen; omega
          case b2 => omega
          case k =>
            intro b1 cap1 w1 ho1 hg1 hb1 hl1
            have HK := Lib.hid ((HP.out.alloc _).grown hg1 (fun k hk => .inr (HO.out k hk)))
            have HD : Hid (w.heap.size ≤ b1) := by
              rcases hb1 with h | h
              · exact Lib.hid (HO.out _ h)
              · exact Lib.hid (by rw [h]; have := HP.out.size; simp [World.alloc]; omega)
            have HR1 := Lib.hid ((grow w1).out b1 cap1 ho1)
            clear ho1 hg1 hb1
            go_wp2
            go_roundw
            case rel => exact ⟨k + 1, k + 1, acc ++ [word], by omega, by omega, by go_num, by go_num, by simp; omega, by have := HR1.out; simpa using this, fun b hb => by simp [Value.ownBlock] at hb; rw [← hb]; exact HD.out, fun h => absurd h (by omega), fun h => HF.out.2 trivial, HK.out⟩
            case measure => first | (simp [intOf]; done) | (simp [intOf]; omega)
        · have t1 : (((10 : UInt8).toNat : Int) == 10) = true := rfl
          go_wp2_with (at_builtin; refine wpl_append _ rfl (.tmp 23) (.tmp 28) 23 rfl 9 i0 (.string ByteArray.empty) 1 16 Tryd.underlying23 hi hz0 hz1 hz2 rfl (by decide) (.slice a acc.length cp) acc.length (strVs acc) rfl ?own2 ⟨wr.heap.size, 0, none⟩ 1 1 [.string ((⟨s.toArray⟩ : ByteArray).extract f k)] rfl rfl ?news2 ?one2 (by decide) ?b12 ?b22 ?k2)
          case own2 => exact Row.alloc HR.out _
          case news2 => exact news1
          case one2 => first | rfl | exact strV_one _
          case b12 => unfold maxLen; omega
          case b22 => omega
          case k2 =>
            intro b1 cap1 w1 ho1 hg1 hb1 hl1
            have HK := Lib.hid ((HP.out.alloc _).grown hg1 (fun k hk => .inr (HO.out k hk)))
            have HD : Hid (w.heap.size ≤ b1) := by
              rcases hb1 with h | h
              · exact Lib.hid (HO.out _ h)
              · exact Lib.hid (by rw [h]; have := HP.out.size; simp [World.alloc]; omega)
            have HR1 := Lib.hid ((grow w1).out b1 cap1 ho1)
            clear ho1 hg1 hb1
            go_wp2
            go_roundw
            case rel => exact ⟨k + 1, k + 1, acc ++ [word], by omega, by omega, by go_num, by go_num, by simp; omega, by have := HR1.out; simpa using this, fun b hb => by simp [Value.ownBlock] at hb; rw [← hb]; exact HD.out, fun h => ⟨HF.out.1 (by omega), by simp⟩, fun h => HF.out.2 (by first | rfl | omega), HK.out⟩
            case measure => first | (simp [intOf]; done) | (simp [intOf]; omega)
      · have hlt : k < n := by omega
        obtain ⟨c, hd, hg⟩ := HG.out k hlt
        have hck : s[k]? = some c := by
          have : (s.drop k)[0]? = some c := by rw [hd]; rfl
          simpa using this
        have hc10 : c ≠ 10 := fun h => hc (.inl ⟨hlt, by rw [hck, h]⟩)
        have t1 : ((c.toNat : Int) == 10) = false := by
          have : c.toNat ≠ 10 := fun h => hc10 (UInt8.toNat_inj.1 h)
          simp; omega
        have HH := Lib.hid (show acc ++ linesL (s.drop f) = linesL s ∧ ∀ x ∈ (s.drop f).take (k + 1 - f), x ≠ 10 by
          obtain ⟨g1, g2⟩ := H1.out hkn
          refine ⟨g1, ?_⟩
          rw [word_more hf hck]
          intro x hx
          rcases List.mem_append.1 hx with hx | hx
          · exact g2 x hx
          · simp at hx; subst hx; exact hc10)
        clear fin hc hd hck hc10
        go_wp2
        go_roundw
        case rel => exact ⟨k + 1, f, acc, by omega, by omega, by go_num, rfl, by omega, HR.out, HO.out, fun _ => HH.out, fun h => by omega, HP.out⟩
        case measure => first | (simp [intOf]; done) | (simp [intOf]; omega)
    · obtain rfl : k = n + 1 := by omega
      obtain rfl : acc = linesL s := H2.out rfl
      go_wp2
      go_ret
      exact ⟨_, _, rfl, HR.out.sees, own_form HR.out HO.out, HP.out⟩

set_option maxHeartbeats 1000000 in
theorem rnumber_ (s : List UInt8) (w : World) (hs : s.length ≤ 100000) : Calls Tryd.prog 49 #[.string ⟨s.toArray⟩] w fun e w' => e = .returned (.tuple #[.int .i64 (parseV s iMin iMax).1, .bool (decide ((parseV s iMin iMax).2 = 0))]) ∧ w = w' := by
  obtain ⟨pr, hpr⟩ : ∃ pr, parseV s iMin iMax = pr := ⟨_, rfl⟩
  obtain ⟨z, e⟩ := pr
  have hp := fun w => rparse_ s iMin iMax w (by omega) (by decide) (by decide)
  unfold parseR at hp
  rw [hpr] at hp ⊢
  have HP := Lib.hid hp
  clear hp hpr
  go_enter Tryd.func49, Tryd.ntmps49
  go_wp2_with (go_at_call 47; refine (HP.out _).mono ?_; rintro e w1 ⟨rfl, rfl⟩)
  go_ret2
  exact ⟨by simp; rw [Bool.eq_iff_iff]; simp, rfl⟩

end Go.Proofs.YtjcjmjnajhkdaaaDoor
