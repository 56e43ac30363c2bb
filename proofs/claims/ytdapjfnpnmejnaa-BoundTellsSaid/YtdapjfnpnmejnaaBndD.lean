/- What a set of patterns tells, the bounds of a judge and of a scanner, and how many bytes a record has, by the program; no condition but the sizes. -/
import Derived.Test.YtdapjfnpnmejnaaBndC
namespace Go.Proofs.Ytdapjfnpnmejnaa
open Go.RowKit
set_option linter.unusedVariables false
set_option linter.unusedSimpArgs false
set_option maxRecDepth 100000
attribute [local go_sem] gmax2 gmin2 gmax_two gmin_two

/-- A set of n patterns, as far as its methods tell of it. -/
def SetIs (w : World) (x : Option Addr) (n least most : Nat) : Prop :=
  (x = none ∧ n = 0 ∧ least = 0 ∧ most = 0) ∨ ∃ (g : Nat) (A : Option Addr) (c : Nat) (t : Int), x = some ⟨g, 0, none⟩ ∧ Blk w g 73 #[.slice A n c, .int .i64 least, .int .i64 most, .int .i64 t]
theorem SetIs.pure {w w' : World} {x : Option Addr} {n least most : Nat} (h : SetIs w x n least most) (hk : Pure' w w') : SetIs w' x n least most := by
  rcases h with h | ⟨g, A, c, t, hx, hb⟩
  · exact .inl h
  · exact .inr ⟨g, A, c, t, hx, hb.keep hk fun hf => hf⟩

set_option maxHeartbeats 1000000 in
theorem most_ {w : World} {x : Option Addr} {n least most : Nat} (h : SetIs w x n least most) : Calls Try.prog 55 #[.pointer x] w fun e w' => e = .returned (.int .i64 most) ∧ w = w' := by
  rcases h with ⟨rfl, rfl, rfl, rfl⟩ | ⟨g, A, c, t, rfl, hb⟩
  · go_enter Try.func55, Try.ntmps55
    go_wp2
    go_ret
    exact ⟨rfl, rfl⟩
  · have c2 := hb.cell 2
    clear hb
    go_enter Try.func55, Try.ntmps55
    go_wp2
    go_ret
    exact ⟨rfl, rfl⟩
set_option maxHeartbeats 1000000 in
theorem least_ {w : World} {x : Option Addr} {n least most : Nat} (h : SetIs w x n least most) : Calls Try.prog 57 #[.pointer x] w fun e w' => e = .returned (.int .i64 least) ∧ w = w' := by
  rcases h with ⟨rfl, rfl, rfl, rfl⟩ | ⟨g, A, c, t, rfl, hb⟩
  · go_enter Try.func57, Try.ntmps57
    go_wp2
    go_ret
    exact ⟨rfl, rfl⟩
  · have c2 := hb.cell 1
    clear hb
    go_enter Try.func57, Try.ntmps57
    go_wp2
    go_ret
    exact ⟨rfl, rfl⟩
set_option maxHeartbeats 1000000 in
theorem len_ {w : World} {x : Option Addr} {n least most : Nat} (h : SetIs w x n least most) : Calls Try.prog 56 #[.pointer x] w fun e w' => e = .returned (.int .i64 n) ∧ w = w' := by
  rcases h with ⟨rfl, rfl, rfl, rfl⟩ | ⟨g, A, c, t, rfl, hb⟩
  · go_enter Try.func56, Try.ntmps56
    go_wp2
    go_ret
    exact ⟨rfl, rfl⟩
  · have c2 := hb.cell 0
    clear hb
    go_enter Try.func56, Try.ntmps56
    go_wp2
    go_ret
    exact ⟨rfl, rfl⟩

set_option maxHeartbeats 1000000 in
theorem judge_ (x : Option Addr) (n least most : Nat) (s c : Int) (w : World) (hx : SetIs w x n least most) (hn : n ≤ 65535) (hs : -9223372036854775808 ≤ s ∧ s ≤ 9223372036854775807) (hc : -9223372036854775808 ≤ c ∧ c ≤ 9223372036854775807) :
    Calls Try.prog 20 #[.pointer x, .int .i64 s, .int .i64 c] w fun r w' => r = .returned (judgeR n most s c) ∧ Pure' w w' := by
  obtain ⟨hs1, hs2⟩ := hs
  obtain ⟨hc1, hc2⟩ := hc
  have HM := Lib.hid (most_ hx)
  have HL := Lib.hid (len_ hx)
  have HT := Lib.hid times_
  have HS := Lib.hid sum_
  have HO := Lib.hid over_
  have HMIN := Lib.hid (show min (n : Int) 65535 = n by omega)
  obtain ⟨tv, te, ht⟩ := guardR_form [s, c] [most, 2, s, c, 19, mulV 9 n]
  have HR : Hid (judgeR n most s c = .tuple #[.int .i64 tv, .int .i64 te]) := Lib.hid ht
  have HG := Lib.hid (show ∀ (er v : Int), ((er = 0 ∧ sumV [(most : Int), 2, s, c, 19, mulV 9 n] 0 = some v) ∨ ((er != 0) = true ∧ v = 0 ∧ sumV [(most : Int), 2, s, c, 19, mulV 9 n] 0 = none)) → overR v er [s, c] = .tuple #[.int .i64 tv, .int .i64 te] from fun _ _ hh => by rw [over_sum hh]; exact ht)
  clear ht hx
  go_enter Try.func20, Try.ntmps20
  go_wp2_with (first
    | (go_at_call 55; refine HM.out.mono ?_; rintro r w1 ⟨rfl, rfl⟩)
    | (go_at_call 56; refine HL.out.mono ?_; rintro r w1 ⟨rfl, rfl⟩)
    | (go_at_call 50; rw [HMIN.out]; refine (HT.out _ _ _ (by omega) (by omega)).mono ?_; rintro r w1 ⟨rfl, hk1⟩; have HP0 := Lib.hid hk1; clear hk1)
    | (go_at_call 49; refine (HS.out _ _ _ _ [most, 2, s, c, 19, mulV 9 n] _ (sees_list _ _ [.int .i64 most, .int .i64 2, .int .i64 s, .int .i64 c, .int .i64 19, .int .i64 (mulV 9 n)] 6 rfl) (Nat.le_refl _) (by decide)).mono ?_; rintro r w2 ⟨er, v, rfl, hv, hk2⟩; have HV := Lib.hid (HG.out _ _ hv); have HP3 := Lib.hid ((HP0.out.alloc _).then_ hk2); clear hv hk2)
    | (go_at_call 51; refine (HO.out _ _ _ _ _ _ [s, c] _ (sees_list _ _ [.int .i64 s, .int .i64 c] 2 rfl) (by decide)).mono ?_; rintro r w3 ⟨rfl, rfl⟩; rw [HV.out]))
  go_ret2
  rw [HR.out]
  exact ⟨rfl, HP3.out.alloc _⟩

set_option maxHeartbeats 1000000 in
theorem scan_ (x : Option Addr) (n least most : Nat) (s : Int) (w : World) (hx : SetIs w x n least most) :
    Calls Try.prog 23 #[.pointer x, .int .i64 s] w fun r w' => r = .returned (scanR most least s) ∧ Pure' w w' := by
  have HM := Lib.hid (most_ hx)
  have HL := Lib.hid (least_ hx)
  have HS := Lib.hid sum_
  have HO := Lib.hid over_
  obtain ⟨tv, te, ht⟩ := guardR_form [s] [most, 2, least, s]
  have HR : Hid (scanR most least s = .tuple #[.int .i64 tv, .int .i64 te]) := Lib.hid ht
  have HG := Lib.hid (show ∀ (er v : Int), ((er = 0 ∧ sumV [(most : Int), 2, least, s] 0 = some v) ∨ ((er != 0) = true ∧ v = 0 ∧ sumV [(most : Int), 2, least, s] 0 = none)) → overR v er [s] = .tuple #[.int .i64 tv, .int .i64 te] from fun _ _ hh => by rw [over_sum hh]; exact ht)
  clear ht hx
  go_enter Try.func23, Try.ntmps23
  go_wp2_with (first
    | (go_at_call 55; refine HM.out.mono ?_; rintro r w1 ⟨rfl, rfl⟩)
    | (go_at_call 57; refine HL.out.mono ?_; rintro r w1 ⟨rfl, rfl⟩)
    | (go_at_call 49; refine (HS.out _ _ _ _ [most, 2, least, s] _ (sees_list _ _ [.int .i64 most, .int .i64 2, .int .i64 least, .int .i64 s] 4 rfl) (Nat.le_refl _) (by decide)).mono ?_; rintro r w2 ⟨er, v, rfl, hv, hk2⟩; have HV := Lib.hid (HG.out _ _ hv); have HP3 := Lib.hid (((Keeps.refl (fun _ => False) _).alloc _).then_ hk2); clear hv hk2)
    | (go_at_call 51; refine (HO.out _ _ _ _ _ _ [s] _ (sees_list _ _ [.int .i64 s] 1 rfl) (by decide)).mono ?_; rintro r w3 ⟨rfl, rfl⟩; rw [HV.out]))
  go_ret2
  rw [HR.out]
  exact ⟨rfl, HP3.out.alloc _⟩

set_option maxHeartbeats 1000000 in
theorem size_v (n : Int) (w : World) (h1 : -9223372036854775808 ≤ n) (h2 : n ≤ 9223372036854775807) : Calls Try.prog 60 #[.int .i64 n] w fun e w' => e = .returned (.int .i64 (szV n : Nat)) ∧ w = w' := by
  by_cases h : n < 0
  · have HZ : Hid (szV n = 0) := Lib.hid (by unfold szV; rw [if_pos h])
    go_enter Try.func60, Try.ntmps60
    go_wp2
    go_ret
    rw [HZ.out]
    exact ⟨rfl, rfl⟩
  · obtain ⟨k, rfl⟩ : ∃ k : Nat, n = k := ⟨n.toNat, by omega⟩
    have hz : szV k = max 1 ((Lib.bitLen k + 6) / 7) := by unfold szV; rw [if_neg h, Int.toNat_natCast, sizeL_bits k (by omega)]
    have hL := fun w => Try.bits_Len64 k w (by omega) (by omega)
    have hle : Lib.bitLen k ≤ 64 := Lib.bitLen_le k 64 (Nat.le_refl _) (by omega)
    rw [Int.toNat_natCast] at hL
    generalize Lib.bitLen k = b at *
    have HZ := Lib.hid hz
    have HL := Lib.hid hL
    clear hz hL
    go_enter Try.func60, Try.ntmps60
    go_wp2_with (go_at_call 92; refine (HL.out _).mono ?_; rintro r w1 ⟨rfl, rfl⟩)
    go_ret
    rw [HZ.out, show ((max 1 ((b + 6) / 7) : Nat) : Int) = max 1 (((b : Int) + 6) / 7) by omega]
    exact ⟨rfl, rfl⟩
end Go.Proofs.Ytdapjfnpnmejnaa
