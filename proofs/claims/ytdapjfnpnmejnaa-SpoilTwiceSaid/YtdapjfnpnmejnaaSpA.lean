/- Numbers read from bytes and written as bytes, by the program; no condition but the sizes. -/
import Derived.Test.YtdapjfnpnmejnaaSpH
import Derived.Test.YtdapjfnpnmejnaaBndA
import Derived.Lib.VarintBits
namespace Go.Proofs.Ytdapjfnpnmejnaa
open Go.RowKit
set_option linter.unusedVariables false
set_option linter.unusedSimpArgs false
set_option maxRecDepth 100000

theorem at_c {s : List UInt8} {k : Nat} (h : k < s.length) : ∃ c, s.drop k = c :: s.drop (k + 1) ∧ s[k]? = some c ∧ ∀ h', (⟨s.toArray⟩ : ByteArray)[k]'h' = c := ⟨s[k], List.drop_eq_getElem_cons h, List.getElem?_eq_getElem h, fun _ => rfl⟩

theorem wrap_in {n : Int} (h1 : -9223372036854775808 ≤ n) (h2 : n ≤ 9223372036854775807) : wrap64 n = n := by unfold wrap64; omega
theorem alloc_size (w : World) (o : Obj) : (w.alloc o).heap.size = w.heap.size + 1 := by show (w.heap.push o).size = _; exact Array.size_push _
def vresV (r : Res Nat) : Value := match r with
  | .ok (n, z) => .tuple #[.int .i64 n, .int .i64 z, .int .i64 0]
  | .error e => .tuple #[.int .i64 0, .int .i64 0, .int .i64 e]
theorem pow7 (j : Nat) : (2 : Nat) ^ (7 * j) = 128 ^ j := by rw [Nat.pow_mul]
theorem pow_le9 (j : Nat) (h : j ≤ 8) : 128 ^ j ≤ 72057594037927936 := by
  have := Nat.pow_le_pow_right (show 0 < 128 by decide) h
  have e : (128 : Nat) ^ 8 = 72057594037927936 := by decide
  omega
theorem or_step (a c j : Nat) (ha : a < 128 ^ j) (hj : j ≤ 8) (hc : c < 128) : bits .or .i64 (a : Int) ((c : Int) * 2 ^ (7 * j)) = ((a + c * 128 ^ j : Nat) : Int) := by
  have h8 := pow_le9 j hj
  have hp : 1 ≤ 128 ^ j := Nat.one_le_pow _ _ (by decide)
  have hm : c * 128 ^ j ≤ 127 * 128 ^ j := Nat.mul_le_mul_right _ (by omega)
  have e2 : ((2 : Int) ^ (7 * j)) = ((128 ^ j : Nat) : Int) := by rw [← pow7]; simp
  have two63 : (2 : Int) ^ 63 = 9223372036854775808 := by decide
  rw [bits_join_low .i64 63 (by decide) (fun n h0 h1 => by rw [two63] at h1; rw [IntKind.wrap_i64]; omega) (7 * j) (a : Int) ((c : Int) * 2 ^ (7 * j)) (by omega) (by rw [e2]; exact_mod_cast ha) (by rw [two63]; omega) (by rw [e2]; exact_mod_cast Nat.zero_le _) (by simp) (by rw [e2, two63, ← Int.natCast_mul]; omega), e2]
  simp

theorem or_step2 (a c j : Nat) (ha : a < 128 ^ j) (hj : j ≤ 8) : bits .or .i64 (a : Int) (wrap64 ((c : Int) % 128 * 2 ^ (7 * j))) = ((a + c % 128 * 128 ^ j : Nat) : Int) := by
  have h8 := pow_le9 j hj
  have hm : c % 128 * 128 ^ j ≤ 127 * 128 ^ j := Nat.mul_le_mul_right _ (by omega)
  have e2 : ((2 : Int) ^ (7 * j)) = ((128 ^ j : Nat) : Int) := by rw [← pow7]; simp
  have e3 : (c : Int) % 128 = ((c % 128 : Nat) : Int) := by omega
  rw [e3, wrap_in (by rw [e2, ← Int.natCast_mul]; omega) (by rw [e2, ← Int.natCast_mul]; omega), or_step a (c % 128) j ha hj (by omega)]
set_option maxHeartbeats 1000000 in
theorem vtake_ (s : List UInt8) (w : World) (hs : s.length ≤ 1000000) : Calls Try.prog 104 #[.string ⟨s.toArray⟩] w fun e w' => e = .returned (vresV (takeV s)) ∧ w = w' := by
  have hsa : ((⟨s.toArray⟩ : ByteArray)).size = s.length := by simp [ByteArray.size]
  have HA := Lib.hid (fun k => @at_c s k)
  have HDN : Hid (s.drop s.length = []) := Lib.hid (by simp)
  go_enter Try.func104, Try.ntmps104
  go_wp2
  generalize hls : s.length = ls at *
  go_loopw [2, 3] (fun v2 v3 wr => ∃ j a : Nat, j ≤ 9 ∧ v3 = .int .i64 j ∧ v2 = .int .i64 a ∧ a < 128 ^ j ∧ j ≤ ls ∧ Hid (shiftR a j (numL (9 - j) (s.drop j) (decide (j = 0))) = takeV s) ∧ wr = w) (fun _ v3 _ => 9 - (intOf v3).toNat)
  case atStart => exact ⟨0, 0, by omega, rfl, rfl, by decide, by omega, Lib.hid (shiftR_zero _), rfl⟩
  case round =>
    obtain ⟨j, a, hj, rfl, rfl, ha, hjl, HR, rfl⟩ := hrel
    by_cases h9 : j < 9
    · obtain ⟨k, hk⟩ : ∃ k, 9 - j = k + 1 := ⟨8 - j, by omega⟩
      have hr := HR.out
      rw [hk] at hr
      by_cases hle : j = ls
      · rw [hle, HDN.out, numL] at hr
        have HF : Hid (takeV s = .error 4) := Lib.hid hr.symm
        clear hr
        subst hle
        go_wp2
        go_ret3
        rw [HF.out]
        exact ⟨rfl, rfl⟩
      · have hlt : j < ls := by omega
        obtain ⟨c, hd, _, hg⟩ := HA.out j (by omega)
        have hcl := c.toNat_lt
        have hand : bits .and .u8 (c.toNat : Int) 127 = (c.toNat : Int) % 128 := u8_and127 _ (by omega) (by omega)
        have hn : ((j : Int) == (ls : Int)) = false := by rw [beq_eq_false_iff_ne]; omega
        rw [hd] at hr
        have hp9 : a + c.toNat % 128 * 128 ^ j < 128 ^ (j + 1) := by
          have hm : c.toNat % 128 * 128 ^ j ≤ 127 * 128 ^ j := Nat.mul_le_mul_right _ (by omega)
          rw [Nat.pow_succ]; omega
        have hor := or_step2 a c.toNat j ha (by omega)
        have HX : Hid (9 - (j + 1) = k) := Lib.hid (by omega)
        by_cases hc : c.toNat < 128
        · rw [numL, if_pos hc] at hr
          by_cases h0 : c.toNat = 0
          · by_cases hj0 : j = 0
            · rw [if_neg (by intro h; simp [hj0] at h), shiftR] at hr
              have HF : Hid (takeV s = .ok (a + c.toNat % 128 * 128 ^ j, j + 1)) := Lib.hid (by rw [← hr, Nat.mod_eq_of_lt hc, Nat.mul_comm])
              generalize a + c.toNat % 128 * 128 ^ j = x at *
              have t0 : ((c.toNat : Int) == 0) = true := by simp [h0]
              have hj1 : j < 1 := by omega
              clear hr hd hp9 ha hj0 h0
              go_wp2
              go_ret3
              rw [HF.out]
              exact ⟨by simp [vresV], rfl⟩
            · rw [if_pos ⟨h0, by simp [hj0]⟩, shiftR] at hr
              have HF : Hid (takeV s = .error 3) := Lib.hid hr.symm
              generalize a + c.toNat % 128 * 128 ^ j = x at *
              have t0 : ((c.toNat : Int) == 0) = true := by simp [h0]
              have hj1 : 0 < j := by omega
              clear hr hd hp9 ha hj0 h0
              go_wp2
              go_ret3
              rw [HF.out]
              exact ⟨rfl, rfl⟩
          · rw [if_neg (fun h => h0 h.1), shiftR] at hr
            have HF : Hid (takeV s = .ok (a + c.toNat % 128 * 128 ^ j, j + 1)) := Lib.hid (by rw [← hr, Nat.mod_eq_of_lt hc, Nat.mul_comm])
            generalize a + c.toNat % 128 * 128 ^ j = x at *
            have t0 : ((c.toNat : Int) == 0) = false := by rw [beq_eq_false_iff_ne]; omega
            clear hr hd hp9 ha h0
            go_wp2
            go_ret3
            rw [HF.out]
            exact ⟨by simp [vresV], rfl⟩
        · rw [shiftR_step hc] at hr
          have HR2 : Hid (shiftR (a + c.toNat % 128 * 128 ^ j) (j + 1) (numL (9 - (j + 1)) (s.drop (j + 1)) (decide (j + 1 = 0))) = takeV s) := Lib.hid (by rw [HX.out]; simpa using hr)
          generalize a + c.toNat % 128 * 128 ^ j = x at *
          have HP := Lib.hid hp9
          clear hr hd hp9 ha
          go_wp2
          go_roundw
          case rel => exact ⟨j + 1, x, by omega, by go_num, rfl, HP.out, by omega, HR2, trivial⟩
          case measure => simp [intOf] <;> omega
    · obtain rfl : j = 9 := by omega
      have HF : Hid (takeV s = .error 5) := Lib.hid (by have := HR.out; rw [show 9 - 9 = 0 from rfl, numL] at this; exact this.symm)
      go_wp2
      go_ret3
      rw [HF.out]
      exact ⟨rfl, rfl⟩
end Go.Proofs.Ytdapjfnpnmejnaa
