import Derived.Test.YtacodojaolnhnaaEscV
namespace Go.Proofs.Ytacodojaolnhnaa
open Go.RowKit
set_option linter.unusedVariables false
set_option linter.unusedSimpArgs false
set_option maxRecDepth 100000

theorem unq41 : unqV [92, 120, 52, 49] = .tuple #[.string ⟨#[]⟩, .int .i64 3] := by
  unfold unqV
  rw [unq_none fun o h => ?_]
  have hr := quote_reads h (by decide)
  obtain ⟨t, e, ht⟩ := reads_next (c := 65) (r := []) (by decide +kernel) hr
  rw [reads_nil ht] at e
  subst e
  revert h
  decide +kernel

theorem awk1 (w : World) : Calls Try.prog 41 #[.string ⟨#[92, 120, 52, 49]⟩] w fun e w' => e = .returned (.tuple #[.string ⟨#[]⟩, .int .i64 3]) ∧ Pure' w w' := by
  have := unquote_ [92, 120, 52, 49] w (by decide)
  rw [unq41] at this
  exact this
theorem awk2 (w : World) : Calls Try.prog 24 #[.string ⟨#[97, 32, 98, 92]⟩] w fun e w' => e = .returned (.string ⟨#[97, 92, 120, 50, 48, 98, 92, 92]⟩) ∧ Pure' w w' := by
  have := quote_ [97, 32, 98, 92] w (by decide)
  rw [show quoteL [97, 32, 98, 92] = [97, 92, 120, 50, 48, 98, 92, 92] by decide +kernel] at this
  exact this
theorem awk3 (w : World) : Calls Try.prog 26 #[.int .u8 65] w fun e w' => e = .returned (.bool true) ∧ w = w' := by
  have := plain_ 65 w
  rw [show plainB 65 = true by decide +kernel, show ((65 : UInt8).toNat : Int) = 65 by rfl] at this
  exact this
theorem awk4 (w : World) : Calls Try.prog 26 #[.int .u8 32] w fun e w' => e = .returned (.bool false) ∧ w = w' := by
  have := plain_ 32 w
  rw [show plainB 32 = false by decide +kernel, show ((32 : UInt8).toNat : Int) = 32 by rfl] at this
  exact this
theorem awk5 (c : Int) (h : c = 65 ∨ c = 32) (w : World) : Calls Try.prog 26 #[.int .u8 c] w fun e w' => e = .returned (.bool (decide (c = 65))) ∧ w = w' := by
  rcases h with rfl | rfl
  · exact awk3 w
  · exact awk4 w
set_option maxHeartbeats 400000 in
theorem awake_ (w : World) : Calls Try.prog 23 #[] w fun e w' => e = .returned (.bool true) ∧ Pure' w w' := by
  have H1 := Lib.hid awk1
  obtain ⟨q, hq⟩ : ∃ q : ByteArray, q = ⟨#[97, 92, 120, 50, 48, 98, 92, 92]⟩ := ⟨_, rfl⟩
  have H2 := Lib.hid (hq ▸ awk2)
  have T : (q.toList == [97, 92, 120, 50, 48, 98, 92, 92]) = true := by rw [hq]; decide +kernel
  clear hq
  have H3 := Lib.hid awk5
  go_enter Try.func23, Try.ntmps23
  go_wp2_with (first
    | (go_at_call 41; refine (H1.out _).mono ?_; rintro e w1 ⟨rfl, hk⟩; have HK1 := Lib.hid hk; clear hk)
    | (go_at_call 24; refine (H2.out _).mono ?_; rintro e w2 ⟨rfl, hk⟩; have HK2 := Lib.hid hk; clear hk)
    | (go_at_call 26; refine (H3.out _ (by decide) _).mono ?_; rintro e w3 ⟨rfl, rfl⟩))
  go_ret
  exact ⟨rfl, HK1.out.trans HK2.out (fun _ _ h => h)⟩
end Go.Proofs.Ytacodojaolnhnaa
