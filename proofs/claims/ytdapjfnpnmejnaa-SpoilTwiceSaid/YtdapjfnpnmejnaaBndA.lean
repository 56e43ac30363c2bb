/- Offsets, by the program and by the reference: what the walks give; no condition but that the numbers are ints. -/
import Derived.Test.YtdapjfnpnmejnaaBndL
import Derived.Test.YtdapjfnpnmejnaaShelf
namespace Go.Proofs.Ytdapjfnpnmejnaa
open Go.RowKit
set_option linter.unusedVariables false
set_option linter.unusedSimpArgs false
set_option maxRecDepth 100000

theorem ret_b {a b : Bool} (h : a = b) : Ending.returned (.bool a) = .returned (.bool b) := by rw [h]
theorem is_ (n : Int) (w : World) : Calls Try.prog 48 #[.int .i64 n] w fun e w' => e = .returned (.bool (isO n)) ∧ w = w' := by
  go_enter Try.func48, Try.ntmps48
  by_cases h1 : n < 0
  · have HB := Lib.hid (isO_no.2 (.inl h1))
    go_wp2
    go_ret
    rw [HB.out]
    exact ⟨rfl, rfl⟩
  · by_cases h2 : 4611686018427387903 < n
    · have HB := Lib.hid (isO_no.2 (.inr h2))
      go_wp2
      go_ret
      rw [HB.out]
      exact ⟨ret_b (decide_eq_false (by omega)), rfl⟩
    · have HB := Lib.hid (isO_iff.2 ⟨by omega, by omega⟩ : isO n = true)
      go_wp2
      go_ret
      rw [HB.out]
      exact ⟨rfl, rfl⟩
theorem ris_ (n : Int) (w : World) : Calls Try.prog 52 #[.int .i64 n] w fun e w' => e = .returned (.bool (isO n)) ∧ w = w' := by
  go_enter Try.func52, Try.ntmps52
  by_cases h1 : n < 0
  · have HB := Lib.hid (isO_no.2 (.inl h1))
    go_wp2
    go_ret
    rw [HB.out]
    exact ⟨rfl, rfl⟩
  · by_cases h2 : 4611686018427387903 < n
    · have HB := Lib.hid (isO_no.2 (.inr h2))
      go_wp2
      go_ret
      rw [HB.out]
      exact ⟨ret_b (decide_eq_false (by omega)), rfl⟩
    · have HB := Lib.hid (isO_iff.2 ⟨by omega, by omega⟩ : isO n = true)
      go_wp2
      go_ret
      rw [HB.out]
      exact ⟨rfl, rfl⟩

/-- The number at place k of a row that came in. -/
theorem nums_at {w : World} {B n k : Nat} {A : Option Addr} {zs : List Int} (h : Sees w B 1 A n (zs.map (Value.int .i64))) (hk : k < n) : ∃ (ad : Addr) (z : Int), A = some ad ∧ zs[k]? = some z ∧ zs.drop k = z :: zs.drop (k + 1) ∧ w.cell? (ad.add k) = some (.int .i64 z) := by
  obtain ⟨ad, u, hA, hu, hc⟩ := h.at_ hk
  have hl : k < zs.length := by have := h.1; simp at this; omega
  refine ⟨ad, zs[k], hA, List.getElem?_eq_getElem hl, List.drop_eq_getElem_cons hl, ?_⟩
  rw [List.getElem?_map, List.getElem?_eq_getElem hl] at hu
  simp only [Option.map_some, Option.some.injEq] at hu
  rw [hc, hu]
theorem sees_list (w : World) (e : TypeId) (us : List Value) (n : Nat) (hn : us.length = n) : Sees (w.alloc (.cells us.toArray e)) (w.alloc (.cells us.toArray e)).heap.size 1 (some ⟨w.heap.size, 0, none⟩) n us := by
  refine ⟨by omega, fun _ => ⟨_, rfl, ?_, fun j u hu => ?_⟩⟩
  · show w.heap.size < (w.heap.push _).size
    rw [Array.size_push]; exact Nat.lt_succ_self _
  · rw [show (⟨w.heap.size, 0, none⟩ : Addr).add j = ⟨w.heap.size, j, none⟩ from by unfold Addr.add; split <;> simp_all, (Blk.new w e us.toArray).cell]
    simpa using hu

set_option maxHeartbeats 1000000 in
theorem all_ (A : Option Addr) (n c B : Nat) (zs : List Int) (w : World) (h : Sees w B 1 A n (zs.map (Value.int .i64))) (hn : n ≤ 1000) :
    Calls Try.prog 123 #[.slice A n c] w fun e w' => e = .returned (.bool (zs.all isO)) ∧ w = w' := by
  have hll : zs.length = n := by have := h.1; simpa using this
  have HS := Lib.hid h
  have HN := Lib.hid hll
  have HI := Lib.hid is_
  clear h hll
  go_enter Try.func123, Try.ntmps123
  go_wp2
  go_loopw [7] (fun v5 wr => ∃ k : Nat, k ≤ n ∧ v5 = .int .i64 k ∧ (zs.drop k).all isO = zs.all isO ∧ wr = w) (fun v5 _ => n - (intOf v5).toNat)
  case atStart => exact ⟨0, Nat.zero_le _, rfl, rfl, rfl⟩
  case round =>
    obtain ⟨k, hk, rfl, hd, rfl⟩ := hrel
    by_cases hlt : k < n
    · obtain ⟨ad, z, rfl, hz, hdr, hc⟩ := nums_at HS.out hlt
      rw [hdr, List.all_cons] at hd
      have HD := Lib.hid hd
      clear hd hdr hz
      cases hb : isO z with
      | true =>
        have HB := Lib.hid hb
        clear hb
        go_wp2_with (go_at_call 48; refine (HI.out _ _).mono ?_; rintro e w1 ⟨rfl, rfl⟩; rw [HB.out])
        go_roundw
        case rel => exact ⟨k + 1, by omega, by go_num, by have := HD.out; rw [HB.out] at this; simpa using this, trivial⟩
        case measure => simp [intOf]; omega
      | false =>
        have HB := Lib.hid hb
        clear hb
        go_wp2_with (go_at_call 48; refine (HI.out _ _).mono ?_; rintro e w1 ⟨rfl, rfl⟩; rw [HB.out])
        go_ret
        rw [← HD.out, HB.out]
        exact ⟨rfl, rfl⟩
    · obtain rfl : k = n := by omega
      rw [List.drop_eq_nil_of_le (by rw [HN.out]; exact Nat.le_refl _)] at hd
      have HD := Lib.hid hd
      clear hd
      go_wp2
      go_ret
      rw [← HD.out]
      exact ⟨rfl, rfl⟩

/-- A sum, or why there is none. -/
def addR (a b : Int) : Value := if isO a = true ∧ isO b = true then (if a > 4611686018427387903 - b then .tuple #[.int .i64 0, .int .i64 10] else .tuple #[.int .i64 (a + b), .int .i64 0]) else .tuple #[.int .i64 0, .int .i64 2]
set_option maxHeartbeats 1000000 in
theorem add_ (a b : Int) (w : World) : Calls Try.prog 89 #[.int .i64 a, .int .i64 b] w fun e w' => e = .returned (addR a b) ∧ Pure' w w' := by
  have HA := Lib.hid all_
  have HAL : Hid ([a, b].all isO = (isO a && isO b)) := Lib.hid (by simp)
  by_cases ho : isO a = true ∧ isO b = true
  · have HB : Hid ([a, b].all isO = true) := Lib.hid (by rw [HAL.out, ho.1, ho.2]; rfl)
    obtain ⟨ha1, ha2⟩ := isO_iff.1 ho.1
    obtain ⟨hb1, hb2⟩ := isO_iff.1 ho.2
    have hR : addR a b = (if a > 4611686018427387903 - b then .tuple #[.int .i64 0, .int .i64 10] else .tuple #[.int .i64 (a + b), .int .i64 0]) := by unfold addR; rw [if_pos ho]
    by_cases hg : a > 4611686018427387903 - b
    · rw [if_pos hg] at hR
      have HR := Lib.hid hR
      clear hR ho
      go_enter Try.func89, Try.ntmps89
      go_wp2_with (go_at_call 123; refine (HA.out _ _ _ _ [a, b] _ (sees_list _ _ [.int .i64 a, .int .i64 b] 2 rfl) (by decide)).mono ?_; rintro e w1 ⟨rfl, rfl⟩; rw [HB.out])
      go_ret2
      rw [HR.out]
      exact ⟨rfl, (Keeps.refl _ w).alloc _⟩
    · rw [if_neg hg] at hR
      have HR := Lib.hid hR
      clear hR ho
      go_enter Try.func89, Try.ntmps89
      go_wp2_with (go_at_call 123; refine (HA.out _ _ _ _ [a, b] _ (sees_list _ _ [.int .i64 a, .int .i64 b] 2 rfl) (by decide)).mono ?_; rintro e w1 ⟨rfl, rfl⟩; rw [HB.out])
      go_ret2
      rw [HR.out]
      exact ⟨rfl, (Keeps.refl _ w).alloc _⟩
  · have HB : Hid ([a, b].all isO = false) := Lib.hid (by
      rw [HAL.out]
      cases h1 : isO a <;> cases h2 : isO b <;> simp_all)
    have HR : Hid (addR a b = .tuple #[.int .i64 0, .int .i64 2]) := Lib.hid (by unfold addR; rw [if_neg ho])
    clear ho
    go_enter Try.func89, Try.ntmps89
    go_wp2_with (go_at_call 123; refine (HA.out _ _ _ _ [a, b] _ (sees_list _ _ [.int .i64 a, .int .i64 b] 2 rfl) (by decide)).mono ?_; rintro e w1 ⟨rfl, rfl⟩; rw [HB.out])
    go_ret2
    rw [HR.out]
    exact ⟨rfl, (Keeps.refl _ w).alloc _⟩

/-- A product, or why there is none. -/
def MulPost (a n : Int) (w : World) (e : Ending) (w' : World) : Prop :=
  ∃ er v : Int, e = .returned (.tuple #[.int .i64 v, .int .i64 er]) ∧ ((er = 0 ∧ v = mulV a n ∧ (v == -1) = false) ∨ ((er != 0) = true ∧ v = 0 ∧ mulV a n = -1)) ∧ Pure' w w'
set_option maxHeartbeats 1000000 in
theorem mul_ (a n : Int) (w : World) (ha : -9223372036854775808 ≤ a ∧ a ≤ 9223372036854775807) (hn : -9223372036854775808 ≤ n ∧ n ≤ 9223372036854775807) : Calls Try.prog 90 #[.int .i64 a, .int .i64 n] w fun e w' => MulPost a n w e w' := by
  have HA := Lib.hid all_
  have HAL : Hid ([a, n].all isO = (isO a && isO n)) := Lib.hid (by simp)
  by_cases ho : isO a = true ∧ isO n = true
  · have HB : Hid ([a, n].all isO = true) := Lib.hid (by rw [HAL.out, ho.1, ho.2]; rfl)
    obtain ⟨ha1, ha2⟩ := isO_iff.1 ho.1
    obtain ⟨hn1, hn2⟩ := isO_iff.1 ho.2
    obtain ⟨x, rfl⟩ : ∃ x : Nat, a = x := ⟨a.toNat, by omega⟩
    obtain ⟨y, rfl⟩ : ∃ y : Nat, n = y := ⟨n.toNat, by omega⟩
    have HM := Lib.hid (fun w => Try.bits_Mul64 x y (by omega) (by omega) w)
    have hmv : mulV x y = if x * y ≤ 4611686018427387903 then ((x * y : Nat) : Int) else -1 := by
      unfold mulV
      have e : (x : Int) * (y : Int) = ((x * y : Nat) : Int) := by simp
      rw [e]
      by_cases h : x * y ≤ 4611686018427387903
      · rw [if_pos h, if_pos ⟨⟨ha1, ha2⟩, ⟨hn1, hn2⟩, by omega⟩]
      · rw [if_neg h, if_neg (by omega)]
    generalize hp : x * y = p at *
    clear hp ho ha hn
    by_cases hb : p ≤ 4611686018427387903
    · rw [if_pos hb] at hmv
      have HR := Lib.hid hmv
      have h0 : p / 18446744073709551616 = 0 := by omega
      have h1 : p % 18446744073709551616 = p := by omega
      rw [h0, h1] at HM
      clear hmv h0 h1
      go_enter Try.func90, Try.ntmps90
      go_wp2_with (first
        | (go_at_call 123; refine (HA.out _ _ _ _ [(x : Int), y] _ (sees_list _ _ [.int .i64 x, .int .i64 y] 2 rfl) (by decide)).mono ?_; rintro e w1 ⟨rfl, rfl⟩; rw [HB.out])
        | (go_at_call 124; refine (HM.out _).mono ?_; rintro e w1 ⟨rfl, rfl⟩))
      go_ret2
      exact ⟨0, _, rfl, .inl ⟨rfl, HR.out.symm, by rw [beq_eq_false_iff_ne]; omega⟩, (Keeps.refl _ w).alloc _⟩
    · rw [if_neg hb] at hmv
      have HR := Lib.hid hmv
      clear hmv
      by_cases hh : 0 < p / 18446744073709551616
      · generalize p / 18446744073709551616 = hi at *
        generalize hlo : p % 18446744073709551616 = lo at *
        have hlo2 : lo < 18446744073709551616 := by rw [← hlo]; exact Nat.mod_lt _ (by decide)
        clear hlo hb
        go_enter Try.func90, Try.ntmps90
        go_wp2_with (first
          | (go_at_call 123; refine (HA.out _ _ _ _ [(x : Int), y] _ (sees_list _ _ [.int .i64 x, .int .i64 y] 2 rfl) (by decide)).mono ?_; rintro e w1 ⟨rfl, rfl⟩; rw [HB.out])
          | (go_at_call 124; refine (HM.out _).mono ?_; rintro e w1 ⟨rfl, rfl⟩))
        go_ret2
        exact ⟨10, 0, rfl, .inr ⟨rfl, rfl, HR.out⟩, (Keeps.refl _ w).alloc _⟩
      · have h0 : p / 18446744073709551616 = 0 := by omega
        have h1 : p % 18446744073709551616 = p := by omega
        have hb' : 4611686018427387903 < p := by omega
        rw [h0, h1] at HM
        clear h0 h1 hh hb
        go_enter Try.func90, Try.ntmps90
        go_wp2_with (first
          | (go_at_call 123; refine (HA.out _ _ _ _ [(x : Int), y] _ (sees_list _ _ [.int .i64 x, .int .i64 y] 2 rfl) (by decide)).mono ?_; rintro e w1 ⟨rfl, rfl⟩; rw [HB.out])
          | (go_at_call 124; refine (HM.out _).mono ?_; rintro e w1 ⟨rfl, rfl⟩))
        go_ret2
        exact ⟨10, 0, rfl, .inr ⟨rfl, rfl, HR.out⟩, (Keeps.refl _ w).alloc _⟩
  · have HB : Hid ([a, n].all isO = false) := Lib.hid (by
      rw [HAL.out]
      cases h1 : isO a <;> cases h2 : isO n <;> simp_all)
    have HR : Hid (mulV a n = -1) := Lib.hid (by
      unfold mulV
      rw [if_neg]
      intro h
      exact ho ⟨isO_iff.2 h.1, isO_iff.2 h.2.1⟩)
    clear ho
    go_enter Try.func90, Try.ntmps90
    go_wp2_with (go_at_call 123; refine (HA.out _ _ _ _ [a, n] _ (sees_list _ _ [.int .i64 a, .int .i64 n] 2 rfl) (by decide)).mono ?_; rintro e w1 ⟨rfl, rfl⟩; rw [HB.out])
    go_ret2
    exact ⟨2, 0, rfl, .inr ⟨rfl, rfl, HR.out⟩, (Keeps.refl _ w).alloc _⟩

set_option maxHeartbeats 1000000 in
theorem times_ (a n : Int) (w : World) (ha : -9223372036854775808 ≤ a ∧ a ≤ 9223372036854775807) (hn : -9223372036854775808 ≤ n ∧ n ≤ 9223372036854775807) : Calls Try.prog 50 #[.int .i64 a, .int .i64 n] w fun e w' => e = .returned (.int .i64 (mulV a n)) ∧ Pure' w w' := by
  have HM := Lib.hid (fun w => mul_ a n w ha hn)
  go_enter Try.func50, Try.ntmps50
  go_wp2_with fail
  refine (HM.out _).mono ?_
  rintro e w1 ⟨er, v, rfl, h, hk⟩
  have HK := Lib.hid hk
  clear hk
  rcases h with ⟨rfl, hv, hv2⟩ | ⟨her, rfl, hv⟩
  · have HV := Lib.hid hv
    clear hv
    go_wp2
    go_ret
    exact ⟨by rw [← HV.out]; rfl, HK.out⟩
  · have HV := Lib.hid hv
    clear hv
    go_wp2
    go_ret
    exact ⟨by rw [HV.out]; rfl, HK.out⟩
end Go.Proofs.Ytdapjfnpnmejnaa
