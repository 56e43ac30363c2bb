/- A row's text, by the program and by the reference; no condition but the sizes. -/
import Derived.Test.YtacodojaolnhnaaDigB
import Derived.Test.YtacodojaolnhnaaShelf
namespace Go.Proofs.Ytacodojaolnhnaa
open Go.RowKit
set_option linter.unusedVariables false
set_option linter.unusedSimpArgs false
set_option maxRecDepth 100000

/-- The text of the first k numbers. -/
def jn (zs : List Int) (k : Nat) : List UInt8 := Lib.join ((zs.take k).map textL) [44]
theorem jn_zero (zs : List Int) : jn zs 0 = [] := rfl
theorem take_next {zs : List Int} {k : Nat} {z : Int} (h : zs[k]? = some z) : zs.take (k + 1) = zs.take k ++ [z] := by
  rw [List.take_add_one, h]; rfl
theorem jn_one {zs : List Int} {z : Int} (h : zs[0]? = some z) : jn zs 1 = textL z := by
  unfold jn; rw [take_next h]; simp [Lib.join_one]
theorem jn_succ {zs : List Int} {k : Nat} {z : Int} (h : zs[k]? = some z) (hk : 0 < k) : jn zs (k + 1) = jn zs k ++ 44 :: textL z := by
  unfold jn
  rw [take_next h, List.map_append]
  have hl : k < zs.length := (List.getElem?_eq_some_iff.1 h).1
  cases hm : (zs.take k).map textL with
  | nil =>
    have : min k zs.length = 0 := by rw [← List.length_take, ← List.length_map (f := textL), hm]; rfl
    omega
  | cons a l => exact join_snoc a l _
theorem textL_len {z : Int} (h1 : -9223372036854775808 ≤ z) (h2 : z ≤ 9223372036854775807) : (textL z).length ≤ 20 := by
  have := natL_len 19 z.natAbs (by omega) (by omega)
  unfold textL; split
  · simp; omega
  · omega
theorem jn_len {zs : List Int} (hz : ∀ z ∈ zs, -9223372036854775808 ≤ z ∧ z ≤ 9223372036854775807) : ∀ k, k ≤ zs.length → (jn zs k).length ≤ 21 * k
  | 0, _ => Nat.le_refl _
  | k + 1, hk => by
    have ih := jn_len hz k (by omega)
    have h := List.getElem?_eq_getElem (l := zs) (i := k) (by omega)
    have hb := hz zs[k] (List.getElem_mem _)
    have ht := textL_len hb.1 hb.2
    rcases Nat.eq_zero_or_pos k with rfl | hk0
    · rw [jn_one h]; omega
    · rw [jn_succ h hk0]; simp; omega
theorem jn_all (zs : List Int) (h : zs ≠ []) : jn zs zs.length = rowL zs := by
  unfold jn rowL; rw [if_neg h, List.take_of_length_le (Nat.le_refl _)]
theorem jn_ne {zs : List Int} {k : Nat} (h : 0 < k) (hk : k ≤ zs.length) : (jn zs k).isEmpty = false := by
  obtain ⟨j, rfl⟩ : ∃ j, k = j + 1 := ⟨k - 1, by omega⟩
  have hh := List.getElem?_eq_getElem (l := zs) (i := j) (by omega)
  rcases Nat.eq_zero_or_pos j with rfl | h0
  · rw [jn_one hh]
    cases e : textL zs[0] with
    | nil => exact absurd e (textL_ne _)
    | cons _ _ => rfl
  · rw [jn_succ hh h0]; simp

/-- The number at place k of a row that came in. -/
theorem ints_at {w : World} {B n k : Nat} {A : Option Addr} {zs : List Int} (h : Sees w B 1 A n (zs.map (Value.int .i64))) (hk : k < n) : ∃ (ad : Addr) (z : Int), A = some ad ∧ zs[k]? = some z ∧ w.cell? (ad.add k) = some (.int .i64 z) := by
  obtain ⟨ad, u, hA, hu, hc⟩ := h.at_ hk
  have hl : k < zs.length := by have := h.1; simp at this; omega
  refine ⟨ad, zs[k], hA, List.getElem?_eq_getElem hl, ?_⟩
  rw [List.getElem?_map, List.getElem?_eq_getElem hl] at hu
  simp only [Option.map_some, Option.some.injEq] at hu
  rw [hc, hu]

set_option maxHeartbeats 1000000 in
theorem rrow_ (A : Option Addr) (n c B : Nat) (zs : List Int) (w : World) (h : Sees w B 1 A n (zs.map (Value.int .i64))) (hn : n ≤ 1000) (hz : ∀ z ∈ zs, -9223372036854775808 ≤ z ∧ z ≤ 9223372036854775807) :
    Calls Try.prog 50 #[.slice A n c] w fun e w' => e = .returned (.string ⟨(rowL zs).toArray⟩) ∧ w = w' := by
  have hll : zs.length = n := by have := h.1; simpa using this
  have HS := Lib.hid h
  have HZ := Lib.hid hz
  have HN := Lib.hid hll
  have HT := Lib.hid rtext
  clear h hz hll
  go_enter Try.func50, Try.ntmps50
  go_wp2
  go_loopw [3, 4] (fun v3 v4 wr => ∃ k : Nat, k ≤ n ∧ v4 = .int .i64 k ∧ v3 = .string ⟨(jn zs k).toArray⟩ ∧ wr = w) (fun _ v4 _ => n - (intOf v4).toNat)
  case atStart => exact ⟨0, Nat.zero_le _, rfl, rfl, rfl⟩
  case round =>
    obtain ⟨k, hk, rfl, rfl, rfl⟩ := hrel
    have hjl := jn_len HZ.out k (by rw [HN.out]; exact hk)
    by_cases hlt : k < n
    · obtain ⟨ad, z, rfl, hzk, hc⟩ := ints_at HS.out hlt
      have hb := HZ.out z (List.mem_of_getElem? hzk)
      have htl := textL_len hb.1 hb.2
      have hT := fun w => rtext z w hb.1 hb.2
      by_cases hk0 : k = 0
      · have hJ : jn zs (k + 1) = textL z := by subst hk0; exact jn_one hzk
        have hJ0 : jn zs k = [] := by rw [hk0]; rfl
        rw [hJ0]
        generalize textL z = T at *
        have HJ := Lib.hid hJ
        have HT' := Lib.hid hT
        have hk0' : (k : Int) ≤ 0 := by omega
        clear hJ hT hzk hJ0 hjl hk0
        go_wp2_with (go_at_call 48; refine (HT'.out _).mono ?_; rintro e w1 ⟨rfl, rfl⟩)
        go_roundw
        case rel => exact ⟨k + 1, by omega, by go_num, by rw [HJ.out]; exact congrArg Value.string (bytes_eq (by simp)), trivial⟩
        case measure => simp [intOf]; omega
      · have hJ := jn_succ hzk (by omega)
        generalize textL z = T at *
        have HJ := Lib.hid hJ
        have HT' := Lib.hid hT
        clear hJ hT hzk
        generalize jn zs k = J at *
        go_wp2_with (go_at_call 48; refine (HT'.out _).mono ?_; rintro e w1 ⟨rfl, rfl⟩)
        go_roundw
        case rel => exact ⟨k + 1, by omega, by go_num, by rw [HJ.out]; exact congrArg Value.string (bytes_eq (by simp)), trivial⟩
        case measure => simp [intOf]; omega
    · obtain rfl : k = n := by omega
      by_cases h0 : zs = []
      · have hk0 : k = 0 := by have := HN.out; rw [h0] at this; exact this.symm
        have hJ0 : jn zs k = [] := by rw [hk0]; rfl
        have HR : Hid (rowL zs = [45]) := Lib.hid (by unfold rowL; rw [if_pos h0])
        rw [hJ0]
        clear hJ0 hjl h0 hk0
        go_wp2
        go_ret
        rw [HR.out]
        exact ⟨rfl, rfl⟩
      · have hJ := jn_all zs h0
        rw [HN.out] at hJ
        have hne := jn_ne (zs := zs) (k := k) (by have := List.length_pos_iff.2 h0; have := HN.out; omega) (by rw [HN.out]; exact Nat.le_refl _)
        rw [hJ] at hne ⊢
        obtain ⟨R, hR⟩ : ∃ R, rowL zs = R := ⟨_, rfl⟩
        rw [hR] at hne ⊢
        have HR := Lib.hid hR
        clear hjl h0 hJ hR
        go_wp2
        go_ret
        rw [HR.out]
        exact ⟨rfl, rfl⟩
end Go.Proofs.Ytacodojaolnhnaa
