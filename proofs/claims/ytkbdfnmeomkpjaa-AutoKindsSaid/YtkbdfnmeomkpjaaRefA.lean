/- Where a text stands in a list, by the reference; no condition but the sizes. -/
import Derived.Test.YtkbdfnmeomkpjaaLnkU
namespace Go.Proofs.Ytkbdfnmeomkpjaa
open Go.RowKit
set_option linter.unusedVariables false
set_option linter.unusedSimpArgs false
set_option maxRecDepth 100000

/-- The first place of a text, or -1. -/
def FindPost (LL : List (List UInt8)) (p : List UInt8) (e : Ending) : Prop :=
  (∃ t : Nat, e = .returned (.int .i64 (t : Int)) ∧ LL[t]? = some p) ∨ (e = .returned (.int .i64 (-1)) ∧ p ∉ LL)
theorem not_beq {x p : List UInt8} (h : x ≠ p) : ((⟨x.toArray⟩ : ByteArray).toList == (⟨p.toArray⟩ : ByteArray).toList) = false := by
  rw [bytes_beq]
  cases hb : ((⟨x.toArray⟩ : ByteArray).data.toList == (⟨p.toArray⟩ : ByteArray).data.toList) with
  | false => rfl
  | true => exact absurd (by simpa using hb) h

set_option maxHeartbeats 1000000 in
theorem rfind16_ (A : Option Addr) (n c B : Nat) (LL : List (List UInt8)) (p : List UInt8) (w : World) (h : Sees w B 1 A n (strVs LL)) (hn : n ≤ 100000) :
    Calls Try.prog 85 #[.slice A n c, .string ⟨p.toArray⟩] w fun e w' => FindPost LL p e ∧ w' = w := by
  have HS := Lib.hid h
  have HL := Lib.hid (show LL.length = n by have := h.1; rw [strVs_len] at this; omega)
  clear h
  go_enter Try.func85, Try.ntmps85
  go_wp2
  go_loopg [5] n (fun gh v5 wr => ∃ k : Nat, k + gh = n ∧ v5 = .int .i64 (k : Int) ∧ RowKit.Hid (p ∉ LL.take k) ∧ wr = w)
  case atStart => exact ⟨0, by omega, rfl, Lib.hid (by simp), rfl⟩
  case round =>
    obtain ⟨k, hkg, rfl, HNI, rfl⟩ := hrel
    cases gk with
    | zero =>
      obtain rfl : k = n := by omega
      have HNO := Lib.hid (show p ∉ LL by have := HNI.out; rwa [List.take_of_length_le (by rw [HL.out]; exact Nat.le_refl _)] at this)
      go_wp2
      go_ret
      exact ⟨.inr ⟨rfl, HNO.out⟩, rfl⟩
    | succ g3 =>
      have hki : (k : Int) < (n : Int) := by omega
      obtain ⟨ad, x, rfl, hx, xc⟩ := word_at HS.out (show k < n by omega)
      by_cases hxp : x = p
      · subst hxp
        have HX := Lib.hid hx
        clear hx
        go_wp2
        go_ret
        exact ⟨.inl ⟨k, rfl, HX.out⟩, rfl⟩
      · have hne : (x == p) = false := by simpa using hxp
        have HN2 := Lib.hid (show p ∉ LL.take (k + 1) by
          rw [List.take_add_one, hx]
          intro hm
          rcases List.mem_append.1 hm with hm | hm
          · exact HNI.out hm
          · simp at hm; exact hxp hm.symm)
        clear hx hxp
        go_wp2
        go_roundg g3
        case measure => omega
        case rel => exact ⟨k + 1, by omega, by go_num, HN2, rfl⟩

set_option maxHeartbeats 1000000 in
theorem rfind10_ (A : Option Addr) (n c B : Nat) (LL : List (List UInt8)) (p : List UInt8) (w : World) (h : Sees w B 1 A n (strVs LL)) (hn : n ≤ 100000) :
    Calls Try.prog 87 #[.slice A n c, .string ⟨p.toArray⟩] w fun e w' => FindPost LL p e ∧ w' = w := by
  have HS := Lib.hid h
  have HL := Lib.hid (show LL.length = n by have := h.1; rw [strVs_len] at this; omega)
  clear h
  go_enter Try.func87, Try.ntmps87
  go_wp2
  go_loopg [5] n (fun gh v5 wr => ∃ k : Nat, k + gh = n ∧ v5 = .int .i64 (k : Int) ∧ RowKit.Hid (p ∉ LL.take k) ∧ wr = w)
  case atStart => exact ⟨0, by omega, rfl, Lib.hid (by simp), rfl⟩
  case round =>
    obtain ⟨k, hkg, rfl, HNI, rfl⟩ := hrel
    cases gk with
    | zero =>
      obtain rfl : k = n := by omega
      have HNO := Lib.hid (show p ∉ LL by have := HNI.out; rwa [List.take_of_length_le (by rw [HL.out]; exact Nat.le_refl _)] at this)
      go_wp2
      go_ret
      exact ⟨.inr ⟨rfl, HNO.out⟩, rfl⟩
    | succ g3 =>
      have hki : (k : Int) < (n : Int) := by omega
      obtain ⟨ad, x, rfl, hx, xc⟩ := word_at HS.out (show k < n by omega)
      by_cases hxp : x = p
      · subst hxp
        have HX := Lib.hid hx
        clear hx
        go_wp2
        go_ret
        exact ⟨.inl ⟨k, rfl, HX.out⟩, rfl⟩
      · have hne : (x == p) = false := by simpa using hxp
        have HN2 := Lib.hid (show p ∉ LL.take (k + 1) by
          rw [List.take_add_one, hx]
          intro hm
          rcases List.mem_append.1 hm with hm | hm
          · exact HNI.out hm
          · simp at hm; exact hxp hm.symm)
        clear hx hxp
        go_wp2
        go_roundg g3
        case measure => omega
        case rel => exact ⟨k + 1, by omega, by go_num, HN2, rfl⟩

end Go.Proofs.Ytkbdfnmeomkpjaa
