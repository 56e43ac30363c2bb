/- A row's text, by the program and by the reference; no condition but the sizes. -/
import Derived.Test.YtjcjmjnajhkdaaaDoorDigB
import Derived.Test.YtjcjmjnajhkdaaaDoorShelf
namespace Go.Proofs.YtjcjmjnajhkdaaaDoor
open Go.RowKit
set_option linter.unusedVariables false
set_option linter.unusedSimpArgs false
set_option maxRecDepth 100000

/-- The text of the first k numbers. -/
def jn (zs : List Int) (k : Nat) : List UInt8 := Lib.join ((zs.take k).map textL) [44]
theorem jn_zero (zs : List Int) : jn zs 0 = [] := rfl
theorem take_next {zs : List Int} {k : Nat} {z : Int} (h : zs[k]? = some z) : zs.take (k + 1) = zs.take k ++ [z] := by
  rw [List.take_add_one, h]; rfl
theorem jn_one {zs : List Int} {z : Int} (h : zs[0]? = some z) : jn zs 1 = textL z := by
  unfold jn; rw [take_next h]; simp [Lib.join_one]
theorem jn_succ {zs : List Int} {k : Nat} {z : Int} (h : zs[k]? = some z) (hk : 0 < k) : jn zs (k + 1) = jn zs k ++ 44 :: textL z := by
  unfold jn
  rw [take_next h, List.map_append]
  have hl : k < zs.length := (List.getElem?_eq_some_iff.1 h).1
  cases hm : (zs.take k).map textL with
  | nil =>
    have : min k zs.length = 0 := by rw [← List.length_take, ← List.length_map (f := textL), hm]; rfl
    omega
  | cons a l => exact join_snoc a l _
theorem textL_len {z : Int} (h1 : -9223372036854775808 ≤ z) (h2 : z ≤ 9223372036854775807) : (textL z).length ≤ 20 := by
  have := natL_len 19 z.natAbs (by omega) (by omega)
  unfold textL; split
  · simp; omega
  · omega
theorem jn_len {zs : List Int} (hz : ∀ z ∈ zs, -9223372036854775808 ≤ z ∧ z ≤ 9223372036854775807) : ∀ k, k ≤ zs.length → (jn zs k).length ≤ 21 * k
  | 0, _ => Nat.le_refl _
  | k + 1, hk => by
    have ih := jn_len hz k (by omega)
    have h := List.getElem?_eq_getElem (l := zs) (i := k) (by omega)
    have hb := hz zs[k] (List.getElem_mem _)
    have ht := textL_len hb.1 hb.2
    rcases Nat.eq_zero_or_pos k with rfl | hk0
    · rw [jn_one h]; omega
    · rw [jn_succ h hk0]; simp; omega
theorem jn_all (zs : List Int) (h : zs ≠ []) : jn zs zs.length = rowL zs := by
  unfold jn rowL; rw [if_neg h, List.take_of_length_le (Nat.le_refl _)]
theorem jn_ne {zs : List Int} {k : Nat} (h : 0 < k) (hk : k ≤ zs.length) : (jn zs k).isEmpty = false := by
  obtain ⟨j, rfl⟩ : ∃ j, k = j + 1 := ⟨k - 1, by omega⟩
  have hh := List.getElem?_eq_getElem (l := zs) (i := j) (by omega)
  rcases Nat.eq_zero_or_pos j with rfl | h0
  · rw [jn_one hh]
    cases e : textL zs[0] with
    | nil => exact absurd e (textL_ne _)
    | cons _ _ => rfl
  · rw [jn_succ hh h0]; simp

/-- The number at place k of a row that came in. -/
theorem ints_at {w : World} {B n k : Nat} {A : Option Addr} {zs : List Int} (h : Sees w B 1 A n (zs.map (Value.int .i64))) (hk : k < n) : ∃ (ad : Addr) (z : Int), A = some ad ∧ zs[k]? = some z ∧ w.cell? (ad.add k) = some (.int .i64 z) := by
  obtain ⟨ad, u, hA, hu, hc⟩ := h.at_ hk
  have hl : k < zs.length := by have := h.1; simp at this; omega
  refine ⟨ad, zs[k], hA, List.getElem?_eq_getElem hl, ?_⟩
  rw [List.getElem?_map, List.getElem?_eq_getElem hl] at hu
  simp only [Option.map_some, Option.some.injEq] at hu
  rw [hc, hu]

end Go.Proofs.YtjcjmjnajhkdaaaDoor
