/- What EscapeQuotes answers; no condition. -/
import Derived.Test.YtacodojaolnhnaaEscW
namespace Go.Proofs.Ytacodojaolnhnaa
open Go.RowKit
set_option linter.unusedVariables false
set_option linter.unusedSimpArgs false
set_option maxRecDepth 100000

theorem uint8_of {c : Int} (h : 0 ≤ c ∧ c ≤ 255) : ∃ u : UInt8, c = u.toNat := by
  refine ⟨UInt8.ofNat c.toNat, ?_⟩
  rw [UInt8.toNat_ofNat']
  omega

set_option maxHeartbeats 1000000 in
theorem quotes_walk (l : List UInt8) (c : UInt8) (w : World) (hs : l.length ≤ maxLen) : Calls Try.prog 6 #[.string ⟨l.toArray⟩, .int .u8 c.toNat] w fun e w' => e = .returned (.bool true) ∧ Pure' w w' := by
  have hsz : ((⟨l.toArray⟩ : ByteArray)).size = l.length := by simp [ByteArray.size]
  unfold maxLen at hs
  by_cases h : 500 < l.length
  · go_enter Try.func6, Try.ntmps6
    go_wp2_with (go_at_call 23; refine (awake_ _).mono ?_; rintro e w1 ⟨rfl, hp1⟩)
    go_ret
    exact ⟨rfl, by assumption⟩
  · have H1 := Lib.hid (fun w => quote_ l w (by omega))
    have H2 := Lib.hid (fun w => rquote_ l w (by omega))
    have H3 := Lib.hid (plain_ c)
    have H4 := Lib.hid (rplain_ c)
    have H5 := Lib.hid awake_
    go_enter Try.func6, Try.ntmps6
    go_wp2_with (first
      | (go_at_call 24; refine (H1.out _).mono ?_; rintro e w1 ⟨rfl, hk⟩; have HK1 := Lib.hid hk; clear hk)
      | (go_at_call 25; refine (H2.out _).mono ?_; rintro e w1 ⟨rfl, hk⟩; have HK2 := Lib.hid hk; clear hk)
      | (go_at_call 26; refine (H3.out _).mono ?_; rintro e w3 ⟨rfl, rfl⟩)
      | (go_at_call 27; refine (H4.out _).mono ?_; rintro e w3 ⟨rfl, rfl⟩)
      | (go_at_call 23; refine (H5.out _).mono ?_; rintro e w2 ⟨rfl, hk⟩; have HK3 := Lib.hid hk; clear hk))
    go_ret
    exact ⟨rfl, (HK1.out.trans HK2.out (fun _ _ h => h)).trans HK3.out (fun _ _ h => h)⟩

theorem quotes_row (w : World) (s : ByteArray) (c : Int) (hs : s.size ≤ maxLen) (hc : 0 ≤ c ∧ c ≤ 255) :
    Calls Try.prog 6 #[.string s, .int .u8 c] w fun e w' => e = .returned (.bool true) ∧ Pure' w w' := by
  obtain ⟨u, rfl⟩ := uint8_of hc
  have hl : s.data.toList.length ≤ maxLen := by
    rw [← Lib.size_eq]; exact hs
  exact quotes_walk s.data.toList u w hl
end Go.Proofs.Ytacodojaolnhnaa
