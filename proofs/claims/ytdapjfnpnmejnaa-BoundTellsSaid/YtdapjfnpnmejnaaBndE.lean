/- How many bytes a record has, by the program; no condition but the sizes. -/
import Derived.Test.YtdapjfnpnmejnaaBndD
namespace Go.Proofs.Ytdapjfnpnmejnaa
open Go.RowKit
set_option linter.unusedVariables false
set_option linter.unusedSimpArgs false
set_option maxRecDepth 100000

/-- A record as it is handed over. -/
def recV (kind n r : Int) (A : Option Addr) (m c : Nat) : Value := .agg #[.int .i64 kind, .int .i64 n, .int .i64 r, .slice A m c]
theorem wrap_range (n : Int) : -9223372036854775808 ≤ wrap64 n ∧ wrap64 n ≤ 9223372036854775807 := by unfold wrap64; omega
theorem szV_wrap (n : Int) : szV (wrap64 n) ≤ 9 := szV_le _ (wrap_range n).2
theorem wrap_in {n : Int} (h1 : -9223372036854775808 ≤ n) (h2 : n ≤ 9223372036854775807) : wrap64 n = n := by unfold wrap64; omega

def exactV (kind n r : Int) (ids : List Int) : Nat := if kind = 4 then 1 + szV ids.length + idsV ids 0 else 1 + szV n + szV r

set_option maxHeartbeats 1000000 in
theorem exact_ (kind n r : Int) (A : Option Addr) (m c B : Nat) (ids : List Int) (w : World) (hs : Sees w B 1 A m (ids.map (Value.int .i64))) (hB : B ≤ w.heap.size) (hm : m ≤ 1000)
    (hn : -9223372036854775808 ≤ n ∧ n ≤ 9223372036854775807) (hr : -9223372036854775808 ≤ r ∧ r ≤ 9223372036854775807) (hk : -9223372036854775808 ≤ kind ∧ kind ≤ 9223372036854775807) :
    Calls Try.prog 27 #[recV kind n r A m c] w fun e w' => e = .returned (.int .i64 (exactV kind n r ids : Nat)) ∧ Pure' w w' := by
  have hll : ids.length = m := by have := hs.1; simpa using this
  have HZ := Lib.hid size_v
  unfold recV
  have hb := Blk.new w 33 #[.int .i64 kind, .int .i64 n, .int .i64 r, .slice A m c]
  have c0 := hb.cell 0
  have c1 := hb.cell 1
  have c2 := hb.cell 2
  have c3 := hb.cell 3
  have HP := Lib.hid ((Keeps.refl (fun _ => False) w).alloc (.cells #[.int .i64 kind, .int .i64 n, .int .i64 r, .slice A m c] 33))
  obtain ⟨hn1, hn2⟩ := hn
  obtain ⟨hr1, hr2⟩ := hr
  obtain ⟨hk1, hk2⟩ := hk
  by_cases h4 : kind = 4
  · have HE : Hid (exactV kind n r ids = 1 + szV m + idsV ids 0) := Lib.hid (by unfold exactV; rw [if_pos h4, hll])
    have HS := Lib.hid (hs.pure HP.out hB)
    have HN := Lib.hid hll
    have hz0 := szV_le m (by omega)
    have hzm : szV m ≤ 9 := hz0
    have t4 : (kind == 4) = true := by simpa using h4
    have HW : Hid (∀ x : Int, szV (wrap64 x) ≤ 9) := Lib.hid szV_wrap
    clear h4 hs hll hb
    go_enter Try.func27, Try.ntmps27
    go_wp2_with (go_at_call 60; refine (HZ.out _ _ (by omega) (by omega)).mono ?_; rintro e w1 ⟨rfl, rfl⟩)
    go_loopw [3, 4, 26] (fun v3 v4 v26 wr => ∃ (k : Nat) (a : Int) (s : Nat), k ≤ m ∧ v26 = .int .i64 k ∧ v4 = .int .i64 a ∧ v3 = .int .i64 s ∧ s ≤ 10 + 9 * k ∧ s + idsV (ids.drop k) a = 1 + szV m + idsV ids 0 ∧ wr = w.alloc (.cells #[.int .i64 kind, .int .i64 n, .int .i64 r, .slice A m c] 33)) (fun _ _ v26 _ => m - (intOf v26).toNat)
    case atStart => exact ⟨0, 0, 1 + szV m, Nat.zero_le _, rfl, rfl, by go_num, by omega, rfl, rfl⟩
    case round =>
      obtain ⟨k, a, s, hk, rfl, rfl, rfl, hsb, hsum, rfl⟩ := hrel
      by_cases hlt : k < m
      · obtain ⟨ad, z, rfl, hz, hdr, hc⟩ := nums_at HS.out hlt
        rw [hdr, idsV] at hsum
        have hw9 := HW.out (z - a)
        generalize hsz : szV (wrap64 (z - a)) = q at *
        have HSZ := Lib.hid hsz
        have HSUM := Lib.hid hsum
        clear hsz hsum hz hdr
        go_wp2_with (go_at_call 60; refine (HZ.out _ _ (wrap_range _).1 (wrap_range _).2).mono ?_; rintro e w1 ⟨rfl, rfl⟩; rw [HSZ.out])
        go_roundw
        case rel => exact ⟨k + 1, z, s + q, by omega, by go_num, rfl, by go_num, by omega, by have := HSUM.out; omega, trivial⟩
        case measure => simp [intOf] <;> omega
      · obtain rfl : k = m := by omega
        rw [List.drop_eq_nil_of_le (by rw [HN.out]; exact Nat.le_refl _), idsV] at hsum
        have HSUM := Lib.hid hsum
        clear hsum
        go_wp2
        go_ret
        rw [HE.out, ← HSUM.out]
        exact ⟨rfl, HP.out⟩
  · have HE : Hid (exactV kind n r ids = 1 + szV n + szV r) := Lib.hid (by unfold exactV; rw [if_neg h4])
    have t4 : (kind == 4) = false := by simpa using h4
    have hz1 := szV_le n hn2
    have hz2 := szV_le r hr2
    clear h4 hb hs
    go_enter Try.func27, Try.ntmps27
    go_wp2
    go_quiet ((go_at_call 60; refine (HZ.out _ _ (by omega) (by omega)).mono ?_; rintro e w1 ⟨rfl, rfl⟩; exact ⟨rfl, _, rfl⟩))
    go_wp2
    go_ret
    rw [HE.out]
    exact ⟨by go_num, HP.out.drewN _⟩
end Go.Proofs.Ytdapjfnpnmejnaa
