import Derived.Test.YtacodojaolnhnaaLaw07
namespace Go.Proofs.Ytacodojaolnhnaa
open Go.RowKit
set_option linter.unusedVariables false
set_option linter.unusedSimpArgs false
set_option maxRecDepth 100000
attribute [local go_sem] gmax2 gmin2 gmax_two gmin_two

set_option maxHeartbeats 1000000 in
theorem tail_nil (n : Int) (w : World) : Calls Try.prog 20 #[.pointer none, .int .i64 n] w fun e w' => e = .returned (.string ⟨#[]⟩) ∧ Pure' w w' := by
  obtain ⟨i0, hi, hz0, hz1, hz2⟩ := info_parts u8info
  have hm : Hid (((0 : Nat) : Int) = min (max n 0) 0) := Lib.hid (by omega)
  go_enter Try.func20, Try.ntmps20
  go_wp2_with (first
    | (go_at_call 21; refine (len_nil _).mono ?_; rintro e w' ⟨rfl, rfl⟩)
    | (at_make; refine wpl_make _ rfl (.tmp 12) (.tmp 12) 69 rfl 5 i0 (.int .u8 0) Try.underlying69 hi hz0 hz1 rfl .i64 .i64 _ _ 0 rfl rfl ?hl ?hc ?b2 ?b3 ?k))
  case hl => exact hm.out.symm
  case hc => exact hm.out.symm
  case b2 => omega
  case b3 => exact Nat.zero_le _
  case k =>
    intro w1 ho hg hlt
    have hcv := conv_row (dst := 9) (bs := []) Try.underlying69 Try.underlying5 Try.underlying9 ho
    have HK := Lib.hid ((Keeps.refl (fun _ => False) w).grown hg (fun k hk => by cases hk))
    clear ho hg
    generalize hb : w.heap.size = b at *
    go_wp2
    go_loop [16] (fun v => v = .int .i64 0) (fun v => 0)
    case atStart => rfl
    case round =>
      subst hrel
      go_wp2
      go_ret
      exact ⟨rfl, HK.out⟩

theorem ends_nil (t : ByteArray) (w : World) (ht : t.size < 1000000000000) : Calls Try.prog 19 #[.pointer none, .string t] w fun e w' => e = .returned (.bool t.toList.isEmpty) ∧ w = w' := by
  have hl : t.toList.length = t.size := by rw [ByteArray.toList_eq]; simp
  by_cases h : t.size = 0
  · have HD : Hid (t.toList.isEmpty = true) := Lib.hid (by rw [List.isEmpty_iff_length_eq_zero, hl, h])
    have h1 : ¬ ((0 : Int) < t.size) := by omega
    clear h hl
    go_enter Try.func19, Try.ntmps19
    go_wp2
    go_loop [10] (fun v => v = .int .i64 0) (fun v => 0)
    case atStart => rfl
    case round =>
      subst hrel
      go_wp2
      go_ret
      exact ⟨by rw [HD.out]; rfl, rfl⟩
  · have HD : Hid (t.toList.isEmpty = false) := Lib.hid (by cases hh : t.toList with
      | nil => rw [hh] at hl; simp at hl; omega
      | cons _ _ => rfl)
    have h1 : ((0 : Int) < t.size) := by omega
    clear h hl
    go_enter Try.func19, Try.ntmps19
    go_wp2
    go_loop [10] (fun v => v = .int .i64 0) (fun v => 0)
    case atStart => rfl
    case round =>
      subst hrel
      go_wp2_with (go_at_call 18; refine (at_nil _ _).mono ?_; rintro e w' ⟨rfl, rfl⟩)
      go_ret
      exact ⟨by rw [HD.out]; rfl, rfl⟩

set_option maxHeartbeats 1000000 in
theorem none_walk (s : ByteArray) (d n : Int) (w : World) (hs : s.size ≤ maxLen) : Calls Try.prog 5 #[.string s, .int .i64 d, .int .i64 n] w fun e w' => e = .returned (.bool true) ∧ Pure' w w' := by
  unfold maxLen at hs
  by_cases h : 500 < s.size
  · go_enter Try.func5, Try.ntmps5
    go_wp2_with (go_at_call 13; refine (awake07 _).mono ?_; rintro e w1 ⟨rfl, hp1⟩)
    go_ret
    exact ⟨rfl, by assumption⟩
  · go_enter Try.func5, Try.ntmps5
    go_wp2_with (first
      | (go_at_call 16; refine (write_nil _ _ (by omega)).mono ?_; rintro e w' ⟨rfl, rfl⟩)
      | (go_at_call 15; refine (push_nil _ _).mono ?_; rintro e w' ⟨rfl, rfl⟩)
      | (go_at_call 18; refine (at_nil _ _).mono ?_; rintro e w' ⟨rfl, rfl⟩)
      | (go_at_call 21; refine (len_nil _).mono ?_; rintro e w' ⟨rfl, rfl⟩)
      | (go_at_call 22; refine (seen_nil _).mono ?_; rintro e w' ⟨rfl, rfl⟩)
      | (go_at_call 20; refine (tail_nil _ _).mono ?_; rintro e w1 ⟨rfl, hp1⟩)
      | (go_at_call 19; refine (ends_nil _ _ (by omega)).mono ?_; rintro e w' ⟨rfl, rfl⟩)
      | (go_at_call 13; refine (awake07 _).mono ?_; rintro e w2 ⟨rfl, hp2⟩))
    go_ret
    exact ⟨rfl, hp1.trans hp2 fun _ _ h => h⟩

theorem none_row (w : World) (s : ByteArray) (d n : Int) (hs : s.size ≤ maxLen) (hd : -9223372036854775808 ≤ d ∧ d ≤ 9223372036854775807) (hn : -9223372036854775808 ≤ n ∧ n ≤ 9223372036854775807) :
    Calls Try.prog 5 #[.string s, .int .i64 d, .int .i64 n] w fun e w' => e = .returned (.bool true) ∧ Pure' w w' := none_walk s d n w hs
end Go.Proofs.Ytacodojaolnhnaa
