/- What a set of patterns tells of itself (Least, Len, At), and whether a byte is noted in a row of four words; no condition but the sizes. -/
import Derived.Test.YtkbdfnmeomkpjaaGreatTriB
namespace Go.Proofs.YtkbdfnmeomkpjaaGreat
open Go.RowKit
set_option linter.unusedVariables false
set_option linter.unusedSimpArgs false
set_option maxRecDepth 100000

set_option maxHeartbeats 1000000 in
theorem sleast_ (x : Option Addr) (lp : List ByteArray) (w : World) (h : SetP w x lp) : Calls Tryz.prog 54 #[.pointer x] w fun e w' => e = .returned (.int .i64 (minL lp)) ∧ w = w' := by
  rcases h with ⟨rfl, rfl⟩ | ⟨g, A, c, t, rfl, hne, hb, hs⟩
  · go_enter Tryz.func54, Tryz.ntmps54
    go_wp2
    go_ret
    exact ⟨rfl, rfl⟩
  · have c2 := hb.cell 1
    clear hb hs hne
    generalize minL lp = m at c2 ⊢
    go_enter Tryz.func54, Tryz.ntmps54
    go_wp2
    go_ret
    exact ⟨rfl, rfl⟩
set_option maxHeartbeats 1000000 in
theorem slen_ (x : Option Addr) (lp : List ByteArray) (w : World) (h : SetP w x lp) : Calls Tryz.prog 55 #[.pointer x] w fun e w' => e = .returned (.int .i64 (lp.length : Int)) ∧ w = w' := by
  rcases h with ⟨rfl, rfl⟩ | ⟨g, A, c, t, rfl, hne, hb, hs⟩
  · go_enter Tryz.func55, Tryz.ntmps55
    go_wp2
    go_ret
    exact ⟨rfl, rfl⟩
  · have c2 := hb.cell 0
    clear hb hs hne
    generalize lp.length = m at c2 ⊢
    go_enter Tryz.func55, Tryz.ntmps55
    go_wp2
    go_ret
    exact ⟨rfl, rfl⟩
set_option maxHeartbeats 1000000 in
theorem sat_ (x : Option Addr) (lp : List ByteArray) (k : Nat) (w : World) (h : SetP w x lp) (hk : k < lp.length) : Calls Tryz.prog 56 #[.pointer x, .int .i64 (k : Int)] w fun e w' => (∃ y : List UInt8, e = .returned (.tuple #[.string ⟨y.toArray⟩, .bool true]) ∧ (bl lp)[k]? = some y) ∧ w = w' := by
  have HLEN := Lib.hid (slen_ x lp w h)
  rcases h with ⟨rfl, rfl⟩ | ⟨g, A, c, t, rfl, hne, hb, hs⟩
  · exact absurd hk (by simp)
  · have c0 := hb.cell 0
    rw [strVs_bl] at hs
    obtain ⟨ad, y, rfl, hy, hc⟩ := word_at hs hk
    have HY := Lib.hid hy
    have hkn : ¬ ((lp.length : Int) ≤ (k : Int)) := by omega
    clear hb hs hne hy
    generalize lp.length = n at *
    go_enter Tryz.func56, Tryz.ntmps56
    go_wp2_with fail
    refine HLEN.out.mono ?_
    rintro r w1 ⟨rfl, rfl⟩
    go_wp2_with fail
    go_ret2
    exact ⟨⟨y, rfl, HY.out⟩, rfl⟩
theorem has_bit (c u : Nat) (hu : u < 18446744073709551616) : (bits BinOp.and IntKind.u64 ((u : Int) / 2 ^ (c % 64)) 1 == 1) = decide (u / 2 ^ (c % 64) % 2 = 1) := by
  have e : ((u : Int) / 2 ^ (c % 64)) = ((u / 2 ^ (c % 64) : Nat) : Int) := by simp
  have hle : u / 2 ^ (c % 64) ≤ u := Nat.div_le_self _ _
  rw [e]
  generalize u / 2 ^ (c % 64) = v at *
  rw [and_one_u64 v (by omega) (by omega)]
  by_cases h : v % 2 = 1
  · rw [decide_eq_true h]; exact beq_iff_eq.2 (by omega)
  · rw [decide_eq_false h]; exact beq_eq_false_iff_ne.2 (by omega)
set_option maxHeartbeats 1000000 in
/-- Is a byte noted in a row of four words? -/
theorem has_ (b o : Nat) (c u : Nat) (w : World) (hc : c < 256) (hu : w.cell? ⟨b, o + c / 64, none⟩ = some (.int .u64 (u : Int))) (hu2 : u < 18446744073709551616) :
    Calls Tryz.prog 103 #[.pointer (some ⟨b, o, none⟩), .int .u8 (c : Int)] w fun e w' => e = .returned (.bool (decide (u / 2 ^ (c % 64) % 2 = 1))) ∧ w = w' := by
  rw [← has_bit c u hu2]
  go_enter Tryz.func103, Tryz.ntmps103
  go_wp2_with fail
  go_ret
  exact ⟨rfl, rfl⟩
-- GEN
end Go.Proofs.YtkbdfnmeomkpjaaGreat
