/- Sums of offsets and the bounds of numbers, by the program; no condition but that the numbers are ints. -/
import Derived.Test.YtdapjfnpnmejnaaBndA
namespace Go.Proofs.Ytdapjfnpnmejnaa
open Go.RowKit
set_option linter.unusedVariables false
set_option linter.unusedSimpArgs false
set_option maxRecDepth 100000

/-- A sum, or that there is none. -/
def SumPost (zs : List Int) (w : World) (e : Ending) (w' : World) : Prop :=
  ∃ er v : Int, e = .returned (.tuple #[.int .i64 v, .int .i64 er]) ∧ ((er = 0 ∧ sumV zs 0 = some v) ∨ ((er != 0) = true ∧ v = 0 ∧ sumV zs 0 = none)) ∧ Pure' w w'
theorem sumV_stop {z : Int} {l : List Int} {n : Int} (hn : 0 ≤ n) (h : isO z = false ∨ n > 4611686018427387903 - z) : sumV (z :: l) n = none := by
  rw [sumV, if_neg]
  rcases h with h | h
  · rcases isO_no.1 h with h | h <;> omega
  · omega
theorem sumV_go {z : Int} {l : List Int} {n : Int} (h : isO z = true) (h2 : ¬ n > 4611686018427387903 - z) : sumV (z :: l) n = sumV l (n + z) := by
  have := isO_iff.1 h
  rw [sumV, if_pos]
  omega

set_option maxHeartbeats 1000000 in
theorem sum_ (A : Option Addr) (n c B : Nat) (zs : List Int) (w : World) (h : Sees w B 1 A n (zs.map (Value.int .i64))) (hB : B ≤ w.heap.size) (hn : n ≤ 1000) :
    Calls Try.prog 49 #[.slice A n c] w fun e w' => SumPost zs w e w' := by
  have hll : zs.length = n := by have := h.1; simpa using this
  have HS := Lib.hid h
  have HN := Lib.hid hll
  have HA := Lib.hid add_
  clear h hll
  go_enter Try.func49, Try.ntmps49
  go_wp2
  go_loopw [4, 10] (fun v4 v10 wr => ∃ (k : Nat) (acc : Int), k ≤ n ∧ v10 = .int .i64 k ∧ v4 = .int .i64 acc ∧ 0 ≤ acc ∧ acc ≤ 4611686018427387903 ∧ sumV (zs.drop k) acc = sumV zs 0 ∧ Pure' w wr) (fun _ v10 _ => n - (intOf v10).toNat)
  case atStart => exact ⟨0, 0, Nat.zero_le _, rfl, rfl, Int.le_refl _, by decide, rfl, Keeps.refl _ _⟩
  case round =>
    obtain ⟨k, acc, hk, rfl, rfl, ha1, ha2, hd, hp⟩ := hrel
    by_cases hlt : k < n
    · obtain ⟨ad, z, rfl, hz, hdr, hc⟩ := nums_at (HS.out.pure hp hB) hlt
      rw [hdr] at hd
      have HP := Lib.hid hp
      have hacc : isO acc = true := isO_iff.2 ⟨ha1, ha2⟩
      by_cases ho : isO z = true
      · by_cases hg : acc > 4611686018427387903 - z
        · have HR : Hid (addR acc z = .tuple #[.int .i64 0, .int .i64 10]) := Lib.hid (by unfold addR; rw [if_pos ⟨hacc, ho⟩, if_pos hg])
          have HV := Lib.hid (hd.symm.trans (sumV_stop ha1 (.inr hg)))
          clear hd hdr hz hp ho hg hacc
          go_wp2_with (go_at_call 89; refine (HA.out _ _ _).mono ?_; rintro e w1 ⟨rfl, hk1⟩; rw [HR.out]; have HP1 := Lib.hid (HP.out.then_ hk1); clear hk1)
          go_ret2
          exact ⟨10, 0, rfl, .inr ⟨rfl, rfl, HV.out⟩, HP1.out⟩
        · have HR : Hid (addR acc z = .tuple #[.int .i64 (acc + z), .int .i64 0]) := Lib.hid (by unfold addR; rw [if_pos ⟨hacc, ho⟩, if_neg hg])
          have HV := Lib.hid ((sumV_go ho hg).symm.trans hd)
          obtain ⟨hz1, hz2⟩ := isO_iff.1 ho
          clear hd hdr hz hp ho hacc
          go_wp2_with (go_at_call 89; refine (HA.out _ _ _).mono ?_; rintro e w1 ⟨rfl, hk1⟩; rw [HR.out]; have HP1 := Lib.hid (HP.out.then_ hk1); clear hk1)
          go_roundw
          case rel => exact ⟨k + 1, acc + z, by omega, by go_num, rfl, by omega, by omega, HV.out, HP1.out⟩
          case measure => simp [intOf] <;> omega
      · have ho' : isO z = false := by simpa using ho
        have HR : Hid (addR acc z = .tuple #[.int .i64 0, .int .i64 2]) := Lib.hid (by unfold addR; rw [if_neg (fun h => ho h.2)])
        have HV := Lib.hid (hd.symm.trans (sumV_stop ha1 (.inl ho')))
        clear hd hdr hz hp ho ho' hacc
        go_wp2_with (go_at_call 89; refine (HA.out _ _ _).mono ?_; rintro e w1 ⟨rfl, hk1⟩; rw [HR.out]; have HP1 := Lib.hid (HP.out.then_ hk1); clear hk1)
        go_ret2
        exact ⟨2, 0, rfl, .inr ⟨rfl, rfl, HV.out⟩, HP1.out⟩
    · obtain rfl : k = n := by omega
      rw [List.drop_eq_nil_of_le (by rw [HN.out]; exact Nat.le_refl _), sumV] at hd
      have HD := Lib.hid hd
      have HP := Lib.hid hp
      clear hd hp
      go_wp2
      go_ret2
      exact ⟨0, acc, rfl, .inl ⟨rfl, HD.out.symm⟩, HP.out⟩

def overR (v er : Int) (zs : List Int) : Value := if zs.all isO = true then (if er = 0 then .tuple #[.int .i64 v, .int .i64 0] else .tuple #[.int .i64 0, .int .i64 10]) else .tuple #[.int .i64 0, .int .i64 2]
set_option maxHeartbeats 1000000 in
theorem over_ (v er : Int) (A : Option Addr) (n c B : Nat) (zs : List Int) (w : World) (h : Sees w B 1 A n (zs.map (Value.int .i64))) (hn : n ≤ 1000) :
    Calls Try.prog 51 #[.int .i64 v, .int .i64 er, .slice A n c] w fun e w' => e = .returned (overR v er zs) ∧ w = w' := by
  have hll : zs.length = n := by have := h.1; simpa using this
  have HS := Lib.hid h
  have HN := Lib.hid hll
  have HI := Lib.hid is_
  have HO : Hid (∀ zs, overR v er zs = (if zs.all isO = true then (if er = 0 then .tuple #[.int .i64 v, .int .i64 0] else .tuple #[.int .i64 0, .int .i64 10]) else .tuple #[.int .i64 0, .int .i64 2])) := Lib.hid (fun _ => rfl)
  clear h hll
  go_enter Try.func51, Try.ntmps51
  go_wp2
  go_loopw [12] (fun v12 wr => ∃ k : Nat, k ≤ n ∧ v12 = .int .i64 k ∧ (zs.drop k).all isO = zs.all isO ∧ wr = w) (fun v12 _ => n - (intOf v12).toNat)
  case atStart => exact ⟨0, Nat.zero_le _, rfl, rfl, rfl⟩
  case round =>
    obtain ⟨k, hk, rfl, hd, rfl⟩ := hrel
    by_cases hlt : k < n
    · obtain ⟨ad, z, rfl, hz, hdr, hc⟩ := nums_at HS.out hlt
      rw [hdr, List.all_cons] at hd
      have HD := Lib.hid hd
      clear hd hdr hz
      cases hb : isO z with
      | true =>
        have HB := Lib.hid hb
        clear hb
        go_wp2_with (go_at_call 48; refine (HI.out _ _).mono ?_; rintro e w1 ⟨rfl, rfl⟩; rw [HB.out])
        go_roundw
        case rel => exact ⟨k + 1, by omega, by go_num, by have := HD.out; rw [HB.out] at this; simpa using this, trivial⟩
        case measure => simp [intOf] <;> omega
      | false =>
        have HR : Hid (overR v er zs = .tuple #[.int .i64 0, .int .i64 2]) := Lib.hid (by rw [HO.out, ← HD.out, hb]; rfl)
        have HB := Lib.hid hb
        clear hb
        go_wp2_with (go_at_call 48; refine (HI.out _ _).mono ?_; rintro e w1 ⟨rfl, rfl⟩; rw [HB.out])
        go_ret2
        rw [HR.out]
        exact ⟨rfl, rfl⟩
    · obtain rfl : k = n := by omega
      rw [List.drop_eq_nil_of_le (by rw [HN.out]; exact Nat.le_refl _)] at hd
      by_cases he : er = 0
      · have HR : Hid (overR v er zs = .tuple #[.int .i64 v, .int .i64 0]) := Lib.hid (by rw [HO.out, ← hd]; simp [he])
        subst he
        clear hd
        go_wp2
        go_ret2
        rw [HR.out]
        exact ⟨rfl, rfl⟩
      · have HR : Hid (overR v er zs = .tuple #[.int .i64 0, .int .i64 10]) := Lib.hid (by rw [HO.out, ← hd]; simp [he])
        have he' : (er != 0) = true := by simpa using he
        clear hd he
        go_wp2
        go_ret2
        rw [HR.out]
        exact ⟨rfl, rfl⟩

/-- A sum as the bounds hand it back. -/
def totR (zs : List Int) : Value := match sumV zs 0 with | some v => .tuple #[.int .i64 v, .int .i64 0] | none => .tuple #[.int .i64 0, .int .i64 10]
theorem over_sum {er v : Int} {ys zs : List Int} (h : (er = 0 ∧ sumV ys 0 = some v) ∨ ((er != 0) = true ∧ v = 0 ∧ sumV ys 0 = none)) : overR v er zs = if zs.all isO = true then totR ys else .tuple #[.int .i64 0, .int .i64 2] := by
  unfold overR totR
  rcases h with ⟨rfl, h⟩ | ⟨h1, rfl, h⟩
  · rw [h]; simp
  · rw [h]
    have : er ≠ 0 := by simpa using h1
    simp [this]
end Go.Proofs.Ytdapjfnpnmejnaa
