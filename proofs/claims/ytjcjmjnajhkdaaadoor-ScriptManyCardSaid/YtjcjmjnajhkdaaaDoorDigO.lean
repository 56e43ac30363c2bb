/- The numbers of a row, by the reference; no condition but the sizes. -/
import Derived.Test.YtjcjmjnajhkdaaaDoorDigM
namespace Go.Proofs.YtjcjmjnajhkdaaaDoor
open Go.RowKit
set_option linter.unusedVariables false
set_option linter.unusedSimpArgs false
set_option maxRecDepth 100000

theorem nums_empty (w : World) : Nums w (w.alloc (.cells #[] 3)) (.slice (some ⟨w.heap.size, 0, none⟩) 0 0) [] :=
  ⟨⟨rfl, .inr ⟨w.heap.size, 0, #[], rfl, Nat.zero_le _, Blk.new w _ #[], Nat.le_refl _, Nat.zero_le _, rfl, rfl⟩⟩, fun b hb => by simp [Value.ownBlock] at hb; omega, (Keeps.refl _ w).alloc _⟩
theorem word_of (s : List UInt8) (f k : Nat) (h : f ≤ k) : (⟨s.toArray⟩ : ByteArray).extract f k = ⟨((s.drop f).take (k - f)).toArray⟩ := bytes_eq (by
  simp [ByteArray.extract, ByteArray.copySlice, List.take_drop])
theorem word_more {s : List UInt8} {f k : Nat} {c : UInt8} (h : f ≤ k) (hc : s[k]? = some c) : (s.drop f).take (k + 1 - f) = (s.drop f).take (k - f) ++ [c] := by
  rw [show k + 1 - f = (k - f) + 1 by omega, List.take_add_one, List.getElem?_drop, show f + (k - f) = k by omega, hc]
  rfl
theorem word_none (s : List UInt8) (f : Nat) : (s.drop f).take (f - f) = [] := by rw [Nat.sub_self]; rfl

set_option maxHeartbeats 2000000 in
theorem rparserow2_ (s : List UInt8) (least most : Int) (w : World) (hs : s.length ≤ 100000) (hl : -9223372036854775808 ≤ least ∧ least ≤ 9223372036854775807) (hm : -9223372036854775808 ≤ most ∧ most ≤ 9223372036854775807) :
    Calls Tryd.prog 50 #[.string ⟨s.toArray⟩, .int .i64 least, .int .i64 most] w fun e w' => RowPost2 s least most w e w' := by
  obtain ⟨i0, hi, hz0, hz1, hz2⟩ := info_parts i64info
  by_cases h45 : s = [45]
  · subst h45
    have HE := Lib.hid (nums_empty w)
    go_enter Tryd.func50, Tryd.ntmps50
    go_wp2
    go_ret2
    exact ⟨_, 0, rfl, HE.out⟩
  have HE := Lib.hid (nums_empty w)
  have HRV := Lib.hid (rowV_all (least := least) (most := most) h45)
  have q1 : (s == [45]) = false := by simpa using h45
  clear h45
  have hsz : ((⟨s.toArray⟩ : ByteArray)).size = s.length := by simp [ByteArray.size]
  have HPA := Lib.hid (fun p w (h : p.length ≤ 100000) => rparse_ p least most w (by omega) hl hm)
  clear hl hm
  generalize hn : s.length = n at *
  have HN := Lib.hid hn
  clear hn
  go_enter Tryd.func50, Tryd.ntmps50
  go_wp2
  go_loopw [8, 9, 10] (fun v8 v9 v10 wr => ∃ (f k : Nat) (acc : List Int), f ≤ k ∧ k ≤ n + 1 ∧ v9 = .int .i64 f ∧ v10 = .int .i64 k ∧ acc.length ≤ k ∧ Nums w wr v8 acc ∧
      (k ≤ n → rowP least most (sF (s.drop k) ((s.drop f).take (k - f))) acc = rowP least most (splitL s) []) ∧ (k = n + 1 → (acc, (0 : Int)) = rowP least most (splitL s) [])) (fun _ _ v10 _ => n + 1 - (intOf v10).toNat)
  case atStart => exact ⟨0, 0, [], Nat.le_refl _, Nat.zero_le _, rfl, rfl, Nat.zero_le _, HE.out, fun _ => rfl, fun h => by omega⟩
  case round =>
    obtain ⟨f, k, acc, hfk, hk, rfl, rfl, hak, hnum, h1, h2⟩ := hrel
    obtain ⟨a, cp, rfl, hcp⟩ := hnum.row.form
    have HNU := Lib.hid hnum
    have H1 := Lib.hid h1
    have H2 := Lib.hid h2
    clear hnum h1 h2
    by_cases hlt : k < n
    · obtain ⟨c, hdk⟩ : ∃ c, s[k]? = some c := ⟨_, List.getElem?_eq_getElem (by rw [HN.out]; exact hlt)⟩
      have hg := byte_at hdk
      have hcl := c.toNat_lt
      have hdr : s.drop k = c :: s.drop (k + 1) := by
        have hl := (List.getElem?_eq_some_iff.1 hdk).1
        rw [List.drop_eq_getElem_cons hl]
        rw [List.getElem?_eq_getElem hl] at hdk
        injection hdk with hdk
        rw [hdk]
      have hrp := H1.out (by omega)
      rw [hdr, sF] at hrp
      by_cases h44 : c = 44
      · have t44 : ((c.toNat : Int) != 44) = false := by subst h44; rfl
        rw [if_pos h44] at hrp
        clear h44 hdk
        have HX := Lib.hid (word_of s f k hfk)
        have hwl : ((s.drop f).take (k - f)).length ≤ 100000 := by rw [List.length_take, List.length_drop, HN.out]; omega
        obtain ⟨W, hW⟩ : ∃ W, (s.drop f).take (k - f) = W := ⟨_, rfl⟩
        rw [hW] at hrp hwl HX
        clear hW
        by_cases h0 : (parseV W least most).2 = 0
        · have hp := fun w => HPA.out W w hwl
          rw [parse_ok h0] at hp
          rw [rowP_go h0] at hrp
          obtain ⟨z, hz⟩ : ∃ z, (parseV W least most).1 = z := ⟨_, rfl⟩
          rw [hz] at hp hrp
          have HP1 := Lib.hid hp
          have HRP := Lib.hid hrp
          clear hp hrp h0 hz
          go_wp2_with (first
            | (go_at_call 47; rw [HX.out]; refine (HP1.out _).mono ?_; rintro e w2 ⟨rfl, rfl⟩)
            | (at_builtin; refine wpl_append _ rfl (.tmp 46) (.tmp 48) 27 rfl 3 i0 (.int .i64 0) 1 8 Tryd.underlying27 hi hz0 hz1 hz2 rfl (by decide) (.slice a acc.length cp) acc.length (acc.map (Value.int .i64)) rfl ?own ⟨wr.heap.size, 0, none⟩ 1 1 [.int .i64 z] rfl rfl ?news ?one (by decide) ?b1 ?b2 ?k))
          case own => exact Row.alloc HNU.out.row _
          case news => exact news1
          case one => exact intV_one _
          case b1 => unfold maxLen; omega
          case b2 => omega
          case k =>
            intro b1 cap1 w3 ho1 hg1 hb1 hl1
            have HK := Lib.hid ((HNU.out.pure.alloc _).grown hg1 (fun k hk => .inr (HNU.out.own k hk)))
            have HD : Hid (w.heap.size ≤ b1) := by
              rcases hb1 with h | h
              · exact Lib.hid (HNU.out.own _ h)
              · exact Lib.hid (by rw [h]; have := HNU.out.pure.size; simp [World.alloc]; omega)
            have HN3 : Hid (Nums w w3 (.slice (some ⟨b1, 0, none⟩) (acc ++ [z]).length cap1) (acc ++ [z])) := Lib.hid ⟨by simpa using ho1, fun b hb => by simp [Value.ownBlock] at hb; rw [← hb]; exact HD.out, HK.out⟩
            clear ho1 hg1 hb1
            go_wp2
            go_roundw
            case rel => exact ⟨k + 1, k + 1, acc ++ [z], Nat.le_refl _, by omega, by go_num, by go_num, by rw [List.length_append, List.length_singleton]; omega, by have := HN3.out; simpa using this, fun _ => by rw [word_none]; exact HRP.out, fun h => by omega⟩
            case measure => simp [intOf] <;> omega
        · obtain ⟨er, he, hpr, her⟩ := parse_no h0
          have hp := fun w => HPA.out W w hwl
          rw [hpr] at hp
          rw [rowP_stop h0, he] at hrp
          have HP1 := Lib.hid hp
          have HRP := Lib.hid (HRV.out.trans hrp.symm)
          have her' : (er != 0) = true := by simpa using her
          clear hp hrp h0 he hpr
          go_wp2_with (go_at_call 47; rw [HX.out]; refine (HP1.out _).mono ?_; rintro e w2 ⟨rfl, rfl⟩)
          go_ret2
          unfold RowPost2
          rw [HRP.out]
          exact ⟨none, 0, rfl, nums_nil HNU.out.pure⟩

      · have t44 : ((c.toNat : Int) != 44) = true := by
          have : c.toNat ≠ 44 := fun e => h44 (UInt8.toNat_inj.1 e)
          simp; omega
        rw [if_neg h44, ← word_more hfk hdk] at hrp
        have HRP := Lib.hid hrp
        clear h44 hdk hrp hdr
        go_wp2
        go_roundw
        case rel => exact ⟨f, k + 1, acc, by omega, by omega, rfl, by go_num, by omega, HNU.out, fun _ => HRP.out, fun h => by omega⟩
        case measure => simp [intOf] <;> omega
    · by_cases hkn : k = n
      · obtain rfl : k = n := hkn
        have hrp := H1.out (by omega)
        rw [List.drop_eq_nil_of_le (by rw [HN.out]; omega), sF] at hrp
        have HX := Lib.hid (word_of s f k hfk)
        have hwl : ((s.drop f).take (k - f)).length ≤ 100000 := by rw [List.length_take, List.length_drop, HN.out]; omega
        obtain ⟨W, hW⟩ : ∃ W, (s.drop f).take (k - f) = W := ⟨_, rfl⟩
        rw [hW] at hrp hwl HX
        clear hW
        by_cases h0 : (parseV W least most).2 = 0
        · have hp := fun w => HPA.out W w hwl
          rw [parse_ok h0] at hp
          rw [rowP_go h0] at hrp
          obtain ⟨z, hz⟩ : ∃ z, (parseV W least most).1 = z := ⟨_, rfl⟩
          rw [hz] at hp hrp
          have HP1 := Lib.hid hp
          have HRP := Lib.hid hrp
          clear hp hrp h0 hz
          go_wp2_with (first
            | (go_at_call 47; rw [HX.out]; refine (HP1.out _).mono ?_; rintro e w2 ⟨rfl, rfl⟩)
            | (at_builtin; refine wpl_append _ rfl (.tmp 46) (.tmp 48) 27 rfl 3 i0 (.int .i64 0) 1 8 Tryd.underlying27 hi hz0 hz1 hz2 rfl (by decide) (.slice a acc.length cp) acc.length (acc.map (Value.int .i64)) rfl ?own ⟨wr.heap.size, 0, none⟩ 1 1 [.int .i64 z] rfl rfl ?news ?one (by decide) ?b1 ?b2 ?k))
          case own => exact Row.alloc HNU.out.row _
          case news => exact news1
          case one => exact intV_one _
          case b1 => unfold maxLen; omega
          case b2 => omega
          case k =>
            intro b1 cap1 w3 ho1 hg1 hb1 hl1
            have HK := Lib.hid ((HNU.out.pure.alloc _).grown hg1 (fun k hk => .inr (HNU.out.own k hk)))
            have HD : Hid (w.heap.size ≤ b1) := by
              rcases hb1 with h | h
              · exact Lib.hid (HNU.out.own _ h)
              · exact Lib.hid (by rw [h]; have := HNU.out.pure.size; simp [World.alloc]; omega)
            have HN3 : Hid (Nums w w3 (.slice (some ⟨b1, 0, none⟩) (acc ++ [z]).length cap1) (acc ++ [z])) := Lib.hid ⟨by simpa using ho1, fun b hb => by simp [Value.ownBlock] at hb; rw [← hb]; exact HD.out, HK.out⟩
            clear ho1 hg1 hb1
            go_wp2
            go_roundw
            case rel => exact ⟨k + 1, k + 1, acc ++ [z], Nat.le_refl _, by omega, by go_num, by go_num, by rw [List.length_append, List.length_singleton]; omega, by have := HN3.out; simpa using this, fun h => by omega, fun _ => by have := HRP.out; rw [rowP] at this; exact this⟩
            case measure => simp [intOf] <;> omega
        · obtain ⟨er, he, hpr, her⟩ := parse_no h0
          have hp := fun w => HPA.out W w hwl
          rw [hpr] at hp
          rw [rowP_stop h0, he] at hrp
          have HP1 := Lib.hid hp
          have HRP := Lib.hid (HRV.out.trans hrp.symm)
          have her' : (er != 0) = true := by simpa using her
          clear hp hrp h0 he hpr
          go_wp2_with (go_at_call 47; rw [HX.out]; refine (HP1.out _).mono ?_; rintro e w2 ⟨rfl, rfl⟩)
          go_ret2
          unfold RowPost2
          rw [HRP.out]
          exact ⟨none, 0, rfl, nums_nil HNU.out.pure⟩

      · have hrp := H2.out (by omega)
        have HRP := Lib.hid (HRV.out.trans hrp.symm)
        clear hrp
        go_wp2
        go_ret2
        unfold RowPost2
        rw [HRP.out]
        exact ⟨_, _, rfl, HNU.out⟩
theorem rparserow_ (s : List UInt8) (least most : Int) (w : World) (hs : s.length ≤ 100000) (hl : -9223372036854775808 ≤ least ∧ least ≤ 9223372036854775807) (hm : -9223372036854775808 ≤ most ∧ most ≤ 9223372036854775807) :
    Calls Tryd.prog 50 #[.string ⟨s.toArray⟩, .int .i64 least, .int .i64 most] w fun e w' => RowPost s least most w e w' := (rparserow2_ s least most w hs hl hm).mono fun _ _ h => h.less

end Go.Proofs.YtjcjmjnajhkdaaaDoor
