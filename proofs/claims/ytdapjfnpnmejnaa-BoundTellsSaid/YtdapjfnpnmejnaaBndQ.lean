/- Whether a record may be written, and what is written of it, by the reference: how long it is; no condition but the sizes. -/
import Derived.Test.YtdapjfnpnmejnaaBndP
namespace Go.Proofs.Ytdapjfnpnmejnaa
open Go.RowKit
set_option linter.unusedVariables false
set_option linter.unusedSimpArgs false
set_option maxRecDepth 100000

def BoolPost (w : World) (e : Ending) (w' : World) : Prop := ∃ b, e = .returned (.bool b) ∧ Pure' w w'
set_option maxHeartbeats 2000000 in
theorem rcheck_ (kind n r : Int) (A : Option Addr) (m c B : Nat) (ids : List Int) (w : World) (hs : Sees w B 1 A m (ids.map (Value.int .i64))) (hB : B ≤ w.heap.size) (hm : m ≤ 1000) :
    Calls Try.prog 58 #[recV kind n r A m c] w fun e w' => BoolPost w e w' := by
  have hll : ids.length = m := by have := hs.1; simpa using this
  have HI := Lib.hid ris_
  unfold recV
  have hb := Blk.new w 33 #[.int .i64 kind, .int .i64 n, .int .i64 r, .slice A m c]
  have c0 := hb.cell 0
  have c1 := hb.cell 1
  have c2 := hb.cell 2
  have c3 := hb.cell 3
  have HP := Lib.hid ((Keeps.refl (fun _ => False) w).alloc (.cells #[.int .i64 kind, .int .i64 n, .int .i64 r, .slice A m c] 33))
  have HS := Lib.hid (hs.pure HP.out hB)
  clear hs hll hb
  by_cases h4 : kind = 4
  · have t4 : (kind == 4) = true := by simpa using h4
    clear h4
    go_enter Try.func58, Try.ntmps58
    go_wp2
    go_loopw [3] (fun v3 wr => ∃ (k q : Nat), k ≤ m ∧ v3 = .int .i64 k ∧ wr = (w.alloc (.cells #[.int .i64 kind, .int .i64 n, .int .i64 r, .slice A m c] 33)).drewN q) (fun v3 _ => m - (intOf v3).toNat)
    case atStart => exact ⟨0, 0, Nat.zero_le _, rfl, rfl⟩
    case round =>
      obtain ⟨k, q, hk, rfl, rfl⟩ := hrel
      by_cases hlt : k < m
      · obtain ⟨ad, z, rfl, hz, hdr, hc⟩ := nums_at HS.out hlt
        clear hz hdr
        by_cases hz1 : z < 0
        · have d1 : decide (z < 0) = true := by simpa using hz1
          clear hz1
          go_wp2
          go_quiet (fail)
          go_wp2
          go_ret
          exact ⟨_, rfl, (HP.out.drewN _).drewN _⟩
        have d1 : decide (z < 0) = false := by simpa using hz1
        by_cases hz2 : 65534 < z
        · have d2 : decide (65534 < z) = true := by simpa using hz2
          clear hz1 hz2
          go_wp2
          go_quiet (fail)
          go_wp2
          go_ret
          exact ⟨_, rfl, (HP.out.drewN _).drewN _⟩
        have d2 : decide (65534 < z) = false := by simpa using hz2
        clear hz1 hz2
        by_cases hk0 : k = 0
        · have d3 : decide ((0 : Int) < (k : Int)) = false := by simp; omega
          have d3n : decide (0 < k) = false := by simp; omega
          clear hk0
          go_wp2
          go_quiet (fail)
          go_wp2
          go_roundw
          case rel => exact ⟨k + 1, _, by omega, by go_num, rfl⟩
          case measure => simp [intOf] <;> omega
        have hk1 : 0 < k := by omega
        have d3 : decide ((0 : Int) < (k : Int)) = true := by simpa using hk1
        obtain ⟨ad2, zp, had, hz, hdr, hcp⟩ := nums_at HS.out (show k - 1 < m by omega)
        obtain rfl : ad = ad2 := by injection had
        clear hz hdr had hk0
        by_cases hle : z ≤ zp
        · have d4 : decide (z ≤ zp) = true := by simpa using hle
          clear hle
          go_wp2
          go_quiet (fail)
          go_wp2
          go_ret
          exact ⟨_, rfl, (HP.out.drewN _).drewN _⟩
        · have d4 : decide (z ≤ zp) = false := by simpa using hle
          clear hle
          go_wp2
          go_quiet (fail)
          go_wp2
          go_roundw
          case rel => exact ⟨k + 1, _, by omega, by go_num, rfl⟩
          case measure => simp [intOf] <;> omega
      · obtain rfl : k = m := by omega
        go_wp2
        all_goals go_ret
        all_goals exact ⟨_, rfl, ((Keeps.refl (fun _ => False) w).alloc _).drewN _⟩
  · have t4 : (kind == 4) = false := by rw [beq_eq_false_iff_ne]; exact h4
    clear h4
    go_enter Try.func58, Try.ntmps58
    go_wp2_with (go_at_call 52; refine (HI.out _ _).mono ?_; rintro r w1 ⟨rfl, rfl⟩)
    all_goals go_ret
    all_goals exact ⟨_, rfl, (Keeps.refl (fun _ => False) w).alloc _⟩
end Go.Proofs.Ytdapjfnpnmejnaa
