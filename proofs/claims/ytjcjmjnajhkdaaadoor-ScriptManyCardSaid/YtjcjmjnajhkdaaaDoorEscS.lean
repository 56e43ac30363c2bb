/- The same texts? And the words of a line, by the program and by the reference; no condition but the sizes. -/
import Derived.Test.YtjcjmjnajhkdaaaDoorEscP
import Derived.Test.YtjcjmjnajhkdaaaDoorEscU
namespace Go.Proofs.YtjcjmjnajhkdaaaDoor
open Go.RowKit
set_option linter.unusedVariables false
set_option linter.unusedSimpArgs false
set_option maxRecDepth 100000

theorem texts_at {w : World} {B n k : Nat} {A : Option Addr} {l : List ByteArray} (h : Sees w B 1 A n (l.map Value.string)) (hk : k < n) : ∃ (ad : Addr) (hl : k < l.length), A = some ad ∧ w.cell? (ad.add k) = some (.string l[k]) := by
  obtain ⟨ad, u, hA, hu, hc⟩ := h.at_ hk
  have hl : k < l.length := by have := h.1; simp at this; omega
  refine ⟨ad, hl, hA, ?_⟩
  rw [List.getElem?_map, List.getElem?_eq_getElem hl] at hu
  simp only [Option.map_some, Option.some.injEq] at hu
  rw [hc, hu]

set_option maxHeartbeats 1000000 in
theorem same_ (A1 A2 : Option Addr) (n c1 c2 B : Nat) (l : List ByteArray) (w : World) (h1 : Sees w B 1 A1 n (l.map Value.string)) (h2 : Sees w B 1 A2 n (l.map Value.string)) (hn : n ≤ 1000000000) :
    Calls Tryd.prog 23 #[.slice A1 n c1, .slice A2 n c2] w fun e w' => e = .returned (.bool true) ∧ ∃ k, w' = w.drewN k := by
  have HS1 := Lib.hid h1
  have HS2 := Lib.hid h2
  clear h1 h2
  go_enter Tryd.func23, Tryd.ntmps23
  go_wp2
  go_loopw [5] (fun v5 wr => ∃ k : Nat, k ≤ n ∧ v5 = .int .i64 k ∧ ∃ q, wr = w.drewN q) (fun v5 _ => n - (intOf v5).toNat)
  case atStart => exact ⟨0, Nat.zero_le _, rfl, 0, rfl⟩
  case round =>
    obtain ⟨k, hk, rfl, q, rfl⟩ := hrel
    by_cases hlt : k < n
    · obtain ⟨ad1, hkl, rfl, hc1⟩ := texts_at HS1.out hlt
      obtain ⟨ad2, _, rfl, hc2⟩ := texts_at HS2.out hlt
      generalize l[k] = x at *
      go_wp2
      go_quiet (fail)
      go_wp2
      go_roundw
      case rel => exact ⟨k + 1, by omega, by go_num, _, rfl⟩
      case measure => simp [intOf]; omega
    · obtain rfl : k = n := by omega
      go_wp2
      go_ret
      exact ⟨rfl, _, rfl⟩

theorem words1 (W : World) (x : Nat) : Calls Tryd.prog 41 #[.int .i32 x] W fun e w' => e = .returned (.bool (isSp x)) ∧ w' = W := by
  have hb : isSp x = ((x : Int) == 32) := by
    unfold isSp
    cases h : (x == 32)
    · simp at h; simp; omega
    · simp at h; simp; omega
  have HB := Lib.hid hb
  clear hb
  go_enter Tryd.func41, Tryd.ntmps41
  go_wp2
  go_ret
  rw [HB.out]
  exact ⟨rfl, rfl⟩

theorem owns_mono {w : World} {base : Nat} {e : TypeId} {size : Nat} {v : Value} {n : Nat} {xs : List Value} (h : w.ownsRow base e size v n xs) : Row w e size v n xs := by
  refine ⟨h.1, ?_⟩
  rcases h.2 with h2 | ⟨g, cap, cur, h1, _, r⟩
  · exact .inl h2
  · exact .inr ⟨g, cap, cur, h1, Nat.zero_le _, r⟩
theorem row_empty (w : World) (e : TypeId) : Row (w.alloc (.cells #[] e)) e 1 (.slice (some ⟨w.heap.size, 0, none⟩) 0 0) 0 [] :=
  ⟨rfl, .inr ⟨w.heap.size, 0, #[], rfl, Nat.zero_le _, Blk.new w e #[], Nat.le_refl _, Nat.zero_le _, rfl, rfl⟩⟩
theorem get_c {s : List UInt8} {k : Nat} (h : k < s.length) : ∃ c, s.drop k = c :: s.drop (k + 1) ∧ ∀ h', (⟨s.toArray⟩ : ByteArray)[k]'h' = c := ⟨s[k], List.drop_eq_getElem_cons h, fun _ => rfl⟩
theorem strV_one (x : ByteArray) : ∀ u ∈ [Value.string x], u.oneCell' = true := by intro u hu; simp at hu; subst hu; rfl

/-- What both give: the words, in a row of its own. -/
def WordsPost (l : List UInt8) (w : World) (e : Ending) (w' : World) : Prop :=
  ∃ A c, e = .returned (.slice A (wordsL l).length c) ∧ Sees w' w'.heap.size 1 A (wordsL l).length (((wordsL l).map (fun x => (⟨x.toArray⟩ : ByteArray))).map Value.string) ∧ Pure' w w'

/-- .. and where it lies. -/
def WordsPost2 (l : List UInt8) (w : World) (e : Ending) (w' : World) : Prop :=
  ∃ A c, e = .returned (.slice A (wordsL l).length c) ∧ Sees w' w'.heap.size 1 A (wordsL l).length (((wordsL l).map (fun x => (⟨x.toArray⟩ : ByteArray))).map Value.string) ∧ (∀ ad, A = some ad → ∃ g, ad = ⟨g, 0, none⟩ ∧ w.heap.size ≤ g) ∧ Pure' w w'
theorem WordsPost2.less {l : List UInt8} {w w' : World} {e : Ending} (h : WordsPost2 l w e w') : WordsPost l w e w' := by
  obtain ⟨A, c, h1, h2, _, h3⟩ := h
  exact ⟨A, c, h1, h2, h3⟩
theorem own_form {w0 w : World} {e : TypeId} {size n m cp : Nat} {a : Option Addr} {xs : List Value} (h : Row w e size (.slice a m cp) n xs) (ho : ∀ b, (Value.slice a m cp).ownBlock = some b → w0.heap.size ≤ b) : ∀ ad, a = some ad → ∃ g, ad = ⟨g, 0, none⟩ ∧ w0.heap.size ≤ g := by
  intro ad e
  subst e
  rcases h.2 with ⟨h, _⟩ | ⟨g, cap, cur, hv, _⟩
  · cases h
  · cases hv
    exact ⟨g, rfl, ho g rfl⟩

set_option maxHeartbeats 1000000 in
theorem words2_ (l : List UInt8) (w : World) (hs : l.length ≤ 1000000) : Calls Tryd.prog 18 #[.string ⟨l.toArray⟩] w fun e w' => WordsPost2 l w e w' := by
  have cF := Tryd.strings_FieldsFunc_runes 41 #[] (enters_of Tryd.func41 (by kernel_rfl) rfl) isSp ⟨l.toArray⟩ w (by show l.toArray.size ≤ _; simp; omega)
    (fun W x hx hb => (words1 W x).mono fun e w' ⟨he, hw⟩ => ⟨he, 0, hw⟩)
  rw [fields_words, List.length_map] at cF
  have CF := Lib.hid cF
  clear cF
  go_enter Tryd.func18, Tryd.ntmps18
  go_wp2_with (go_at_call 40; refine CF.out.mono ?_; rintro e w1 ⟨A, rfl, hA, hrow, hbel⟩; have HR := Lib.hid hrow; have HB := Lib.hid hbel; clear hrow hbel)
  go_ret
  exact ⟨_, _, rfl, Row.sees (owns_mono HR.out), (fun ad e => by cases e; exact ⟨_, rfl, hA⟩), Keeps.of_below HB.out⟩
theorem words_ (l : List UInt8) (w : World) (hs : l.length ≤ 1000000) : Calls Tryd.prog 18 #[.string ⟨l.toArray⟩] w fun e w' => WordsPost l w e w' := (words2_ l w hs).mono fun _ _ h => h.less

theorem strInfo : (Tryd.prog.info? 9).map (fun i => (i.zero, i.size, i.bytes)) = some (some (.string ByteArray.empty), 1, 16) := by kernel_rfl

set_option maxHeartbeats 1000000 in
theorem rwords2_ (s : List UInt8) (w : World) (hs : s.length ≤ 1000000) : Calls Tryd.prog 21 #[.string ⟨s.toArray⟩] w fun e w' => WordsPost2 s w e w' := by
  obtain ⟨i0, hi, hz0, hz1, hz2⟩ := info_parts strInfo
  have hsz : ((⟨s.toArray⟩ : ByteArray)).size = s.length := by simp [ByteArray.size]
  have HG := Lib.hid (fun k => @get_c s k)
  have HX : Hid (∀ A : Nat, (⟨s.toArray⟩ : ByteArray).extract A (A + 1) = ⟨((s.drop A).take 1).toArray⟩) := Lib.hid (fun A => bytes_eq (by simp [ByteArray.extract, ByteArray.copySlice, List.take_drop]))
  generalize hn : s.length = n at *
  go_enter Tryd.func21, Tryd.ntmps21
  go_wp2
  go_loopw [3, 4, 5] (fun v3 v4 v5 wr => ∃ (k : Nat) (word : List UInt8) (acc : List (List UInt8)), k ≤ n + 1 ∧ v5 = .int .i64 k ∧ v4 = .string ⟨word.toArray⟩ ∧ word.length ≤ k ∧
      acc.length ≤ k ∧ Row wr 9 1 v3 acc.length ((acc.map (fun x => (⟨x.toArray⟩ : ByteArray))).map Value.string) ∧ (∀ b, v3.ownBlock = some b → w.heap.size ≤ b) ∧
      (k ≤ n → acc ++ wordsF (s.drop k) word = wordsL s) ∧ (k = n + 1 → acc = wordsL s) ∧ Pure' w wr) (fun _ _ v5 _ => n + 1 - (intOf v5).toNat)
  case atStart =>
    exact ⟨0, [], [], Nat.zero_le _, rfl, rfl, Nat.zero_le _, Nat.zero_le _, row_empty w _, by intro b hb; simp [Value.ownBlock] at hb; omega, fun _ => by simp [wordsL], fun h => by omega, (Keeps.refl _ w).alloc _⟩
  case round =>
    obtain ⟨k, word, acc, hk, rfl, rfl, hw, ha, hr, hown, h1, h2, hp⟩ := hrel
    obtain ⟨a, cp, rfl, hcp⟩ := hr.form
    have HR := Lib.hid hr
    have HO := Lib.hid hown
    have H1 := Lib.hid h1
    have H2 := Lib.hid h2
    have HP := Lib.hid hp
    clear hr hown h1 h2 hp
    by_cases hlt : k < n
    · obtain ⟨c, hd, hg⟩ := HG.out k hlt
      have hh := H1.out (by omega)
      rw [hd, wordsF] at hh
      have HDr := Lib.hid hd
      clear hd
      by_cases h32 : c = 32
      · rw [if_pos h32] at hh
        have t1 : ((c.toNat : Int) != 32) = false := by subst h32; rfl
        clear h32
        by_cases hwd : word = []
        · subst hwd
          rw [if_pos rfl] at hh
          have HH := Lib.hid hh
          clear hh
          go_wp2
          go_roundw
          case rel => exact ⟨k + 1, [], acc, by omega, by go_num, rfl, Nat.zero_le _, by omega, HR.out, HO.out, fun _ => HH.out, fun h => by omega, HP.out⟩
          case measure => simp [intOf]; omega
        · rw [if_neg hwd] at hh
          have q3 : word.isEmpty = false := by cases word with | nil => exact absurd rfl hwd | cons _ _ => rfl
          have HH := Lib.hid hh
          clear hh hwd
          go_wp2_with (at_builtin; refine wpl_append _ rfl (.tmp 32) (.tmp 34) 23 rfl 9 i0 (.string ByteArray.empty) 1 16 Tryd.underlying23 hi hz0 hz1 hz2 rfl (by decide) (.slice a acc.length cp) acc.length ((acc.map (fun x => (⟨x.toArray⟩ : ByteArray))).map Value.string) rfl ?own ⟨wr.heap.size, 0, none⟩ 1 1 [.string ⟨word.toArray⟩] rfl rfl ?news ?one (by decide) ?b1 ?b2 ?k)
          case own => exact Row.alloc HR.out _
          case news => exact news1
          case one => exact strV_one _
          case b1 => unfold maxLen; omega
          case b2 => omega
          case k =>
            intro b1 cap1 w1 ho1 hg1 hb1 hl1
            have HK := Lib.hid ((HP.out.alloc _).grown hg1 (fun k hk => .inr (HO.out k hk)))
            have HD : Hid (w.heap.size ≤ b1) := by
              rcases hb1 with h | h
              · exact Lib.hid (HO.out _ h)
              · exact Lib.hid (by rw [h]; have := HP.out.size; simp [World.alloc]; omega)
            have HR1 : Hid (Row w1 9 1 (.slice (some ⟨b1, 0, none⟩) (acc ++ [word]).length cap1) (acc ++ [word]).length (((acc ++ [word]).map (fun x => (⟨x.toArray⟩ : ByteArray))).map Value.string)) := Lib.hid (by simpa using ho1)
            clear ho1 hg1 hb1
            go_wp2
            go_roundw
            case rel => exact ⟨k + 1, [], acc ++ [word], by omega, by go_num, rfl, Nat.zero_le _, by simp; omega, by have := HR1.out; simpa using this, fun b hb => by simp [Value.ownBlock] at hb; rw [← hb]; exact HD.out, fun _ => by have := HH.out; simpa using this, fun h => by omega, HK.out⟩
            case measure => simp [intOf]; omega

      · rw [if_neg h32] at hh
        have t1 : ((c.toNat : Int) != 32) = true := by
          have : c.toNat ≠ 32 := fun h => h32 (UInt8.toNat_inj.1 h)
          simp; omega
        have HH := Lib.hid hh
        clear h32 hh
        have hA' : (⟨word.toArray⟩ : ByteArray).size ≤ 1000001 := by simp [ByteArray.size]; omega
        go_wp2
        go_roundw
        case rel =>
          refine ⟨k + 1, word ++ [c], acc, by omega, by go_num, ?_, by simp; omega, by omega, HR.out, HO.out, fun _ => HH.out, fun h => by omega, HP.out⟩
          rw [HX.out, HDr.out]
          exact congrArg Value.string (bytes_eq (by simp))
        case measure => simp [intOf]; omega
    · by_cases hkn : k = n
      · have hh := H1.out (by omega)
        rw [List.drop_eq_nil_of_le (by omega), wordsF] at hh
        by_cases hwd : word = []
        · subst hwd
          rw [if_pos rfl] at hh
          have HH := Lib.hid hh
          clear hh
          go_wp2
          go_roundw
          case rel => exact ⟨k + 1, [], acc, by omega, by go_num, rfl, Nat.zero_le _, by omega, HR.out, HO.out, fun h => by omega, fun _ => by have := HH.out; simpa using this, HP.out⟩
          case measure => simp [intOf]; omega
        · rw [if_neg hwd] at hh
          have q3 : word.isEmpty = false := by cases word with | nil => exact absurd rfl hwd | cons _ _ => rfl
          have HH := Lib.hid hh
          clear hh hwd
          go_wp2_with (at_builtin; refine wpl_append _ rfl (.tmp 32) (.tmp 34) 23 rfl 9 i0 (.string ByteArray.empty) 1 16 Tryd.underlying23 hi hz0 hz1 hz2 rfl (by decide) (.slice a acc.length cp) acc.length ((acc.map (fun x => (⟨x.toArray⟩ : ByteArray))).map Value.string) rfl ?own ⟨wr.heap.size, 0, none⟩ 1 1 [.string ⟨word.toArray⟩] rfl rfl ?news ?one (by decide) ?b1 ?b2 ?k)
          case own => exact Row.alloc HR.out _
          case news => exact news1
          case one => exact strV_one _
          case b1 => unfold maxLen; omega
          case b2 => omega
          case k =>
            intro b1 cap1 w1 ho1 hg1 hb1 hl1
            have HK := Lib.hid ((HP.out.alloc _).grown hg1 (fun k hk => .inr (HO.out k hk)))
            have HD : Hid (w.heap.size ≤ b1) := by
              rcases hb1 with h | h
              · exact Lib.hid (HO.out _ h)
              · exact Lib.hid (by rw [h]; have := HP.out.size; simp [World.alloc]; omega)
            have HR1 : Hid (Row w1 9 1 (.slice (some ⟨b1, 0, none⟩) (acc ++ [word]).length cap1) (acc ++ [word]).length (((acc ++ [word]).map (fun x => (⟨x.toArray⟩ : ByteArray))).map Value.string)) := Lib.hid (by simpa using ho1)
            clear ho1 hg1 hb1
            go_wp2
            go_roundw
            case rel => exact ⟨k + 1, [], acc ++ [word], by omega, by go_num, rfl, Nat.zero_le _, by simp; omega, by have := HR1.out; simpa using this, fun b hb => by simp [Value.ownBlock] at hb; rw [← hb]; exact HD.out, fun h => by omega, fun _ => HH.out, HK.out⟩
            case measure => simp [intOf]; omega

      · obtain rfl : acc = wordsL s := H2.out (by omega)
        go_wp2
        go_ret
        exact ⟨_, _, rfl, HR.out.sees, own_form HR.out HO.out, HP.out⟩
theorem rwords_ (s : List UInt8) (w : World) (hs : s.length ≤ 1000000) : Calls Tryd.prog 21 #[.string ⟨s.toArray⟩] w fun e w' => WordsPost s w e w' := (rwords2_ s w hs).mono fun _ _ h => h.less

end Go.Proofs.YtjcjmjnajhkdaaaDoor
