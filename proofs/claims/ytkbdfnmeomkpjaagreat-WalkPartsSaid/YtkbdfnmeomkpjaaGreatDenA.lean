/- A dense table in memory, and its rows; no condition but the sizes. -/
import Derived.Test.YtkbdfnmeomkpjaaGreatClsB
import Derived.Laws.CopyOwn
namespace Go.Proofs.YtkbdfnmeomkpjaaGreat
open Go.RowKit
set_option linter.unusedVariables false
set_option linter.unusedSimpArgs false
set_option maxRecDepth 100000

/-- The cells of a table of N places. -/
def tabV (f : Nat → Nat) (N : Nat) : Array Value := ((List.range N).map (fun i => Value.int .i32 (f i : Int))).toArray
theorem tabV_size (f : Nat → Nat) (N : Nat) : (tabV f N).size = N := by simp [tabV]
theorem tabV_at (f : Nat → Nat) {N i : Nat} (h : i < N) : (tabV f N)[i]? = some (.int .i32 (f i : Int)) := by
  unfold tabV
  rw [List.getElem?_toArray, List.getElem?_map, List.getElem?_range h]
  rfl
theorem tabV_ext {A : Array Value} {f : Nat → Nat} {N : Nat} (hA : A.size = N) (h : ∀ i, i < N → A[i]? = some (.int .i32 (f i : Int))) : A = tabV f N := by
  apply Array.ext
  · rw [hA, tabV_size]
  · intro i h1 h2
    have := h i (by omega)
    rw [← tabV_at f (by omega : i < N), Array.getElem?_eq_getElem h1, Array.getElem?_eq_getElem h2] at this
    exact Option.some.inj this
def updN (f : Nat → Nat) (k x : Nat) : Nat → Nat := fun i => if i = k then x else f i
theorem tabV_set (f : Nat → Nat) (N k x : Nat) (hk : k < N) : (tabV f N).setIfInBounds k (.int .i32 (x : Int)) = tabV (updN f k x) N := by
  refine tabV_ext (by simp [tabV_size]) fun i hi => ?_
  rw [Array.getElem?_setIfInBounds]
  by_cases e : k = i
  · subst e
    rw [if_pos rfl, if_pos (by rw [tabV_size]; omega)]
    simp [updN]
  · rw [if_neg e, tabV_at f hi]
    simp [updN, Ne.symm e]
/-- W places from src on laid over those from off on. -/
def cpy (f : Nat → Nat) (off src W : Nat) : Nat → Nat := fun i => if off ≤ i ∧ i < off + W then f (src + (i - off)) else f i
def segV (f : Nat → Nat) (src W : Nat) : List Value := (List.range W).map (fun j => Value.int .i32 (f (src + j) : Int))
theorem segV_len (f : Nat → Nat) (src W : Nat) : (segV f src W).length = W := by simp [segV]
theorem segV_at (f : Nat → Nat) (src : Nat) {W j : Nat} (h : j < W) : (segV f src W)[j]? = some (.int .i32 (f (src + j) : Int)) := by
  unfold segV; rw [List.getElem?_map, List.getElem?_range h]; rfl
theorem tabV_cpy (f : Nat → Nat) (N off src W : Nat) (h : off + W ≤ N) : ((tabV f N).toList.take off ++ (segV f src W ++ (tabV f N).toList.drop (off + W))).toArray = tabV (cpy f off src W) N := by
  have hl : (tabV f N).toList.length = N := by rw [Array.length_toList, tabV_size]
  refine tabV_ext (by simp [segV_len, tabV_size]; omega) fun i hi => ?_
  have hat : (tabV f N).toList[i]? = some (.int .i32 (f i : Int)) := by rw [Array.getElem?_toList, tabV_at f hi]
  rw [List.getElem?_toArray]
  unfold cpy
  rcases Nat.lt_or_ge i off with h1 | h1
  · rw [List.getElem?_append_left (by simp [tabV_size]; omega), List.getElem?_take_of_lt h1, hat, if_neg (by omega)]
  · rw [List.getElem?_append_right (by simp [tabV_size]; omega)]
    have e1 : (List.take off (tabV f N).toList).length = off := by rw [List.length_take, hl]; omega
    rw [e1]
    rcases Nat.lt_or_ge i (off + W) with h2 | h2
    · rw [List.getElem?_append_left (by rw [segV_len]; omega), segV_at f src (by omega), if_pos ⟨h1, h2⟩]
    · rw [List.getElem?_append_right (by rw [segV_len]; omega), segV_len, List.getElem?_drop, show off + W + (i - off - W) = i by omega, hat, if_neg (by omega)]

/-- A dense table in memory. -/
structure DenA (w : World) (g cg nb n W : Nat) (bs : List UInt8) (f : Nat → Nat) : Prop where
  box : Blk w g 169 #[.pointer (some ⟨cg, 0, none⟩), .slice (some ⟨nb, 0, none⟩) (n * W) (n * W), .int .i64 (W : Int), .int .i64 (n : Int)]
  cls : ClA w cg bs
  tab : Blk w nb 21 (tabV f (n * W))
  wid : W = bs.length + 1
theorem DenA.pure {w w' : World} {g cg nb n W : Nat} {bs : List UInt8} {f : Nat → Nat} (h : DenA w g cg nb n W bs f) (hk : Pure' w w') : DenA w' g cg nb n W bs f :=
  ⟨h.box.keep hk (fun hf => hf), h.cls.pure hk, h.tab.keep hk (fun hf => hf), h.wid⟩

set_option maxHeartbeats 2000000 in
theorem drow_ (g cg nb n W : Nat) (bs : List UInt8) (f : Nat → Nat) (s : Nat) (w : World) (h : DenA w g cg nb n W bs f) (hs : s < n) (hn : n ≤ 241) (hW : W ≤ 257) (hW0 : 0 < W) :
    Calls Tryz.prog 127 #[.pointer (some ⟨g, 0, none⟩), .int .i64 (s : Int)] w fun e w' => e = .returned (.slice (some ⟨nb, s * W, none⟩) W W) ∧ ∃ k, w' = w.drewN k := by
  have c1 := h.box.cell 1
  have c2 := h.box.cell 2
  clear h
  obtain ⟨N, hN⟩ : ∃ N, n * W = N := ⟨_, rfl⟩
  obtain ⟨a, ha⟩ : ∃ a, s * W = a := ⟨_, rfl⟩
  have hle : (s + 1) * W ≤ N := by rw [← hN]; exact Nat.mul_le_mul_right W hs
  rw [Nat.succ_mul, ha] at hle
  have hNb : N ≤ 61937 := by rw [← hN]; exact Nat.mul_le_mul hn hW
  rw [hN] at c1
  rw [ha]
  have m1 : (s : Int) * (W : Int) = (a : Int) := by rw [← ha]; exact (Int.natCast_mul s W).symm
  have m2 : ((s : Int) + 1) * (W : Int) = (a : Int) + (W : Int) := by rw [Int.add_mul, m1, Int.one_mul]
  have e1 : (0 : Int) ≤ (a : Int) := by omega
  have e2 : (a : Int) ≤ (a : Int) + (W : Int) := by omega
  have e3 : (a : Int) + (W : Int) ≤ (N : Int) := by omega
  have e4 : ((a : Int) + (W : Int)).toNat = a + W := by omega
  have e5 : a + W - a = W := by omega
  have e6 : IntKind.i64.wrap ((a : Int) + (W : Int)) = (a : Int) + (W : Int) := by rw [IntKind.wrap_i64]; omega
  have e7 : IntKind.i64.wrap (a : Int) = (a : Int) := by rw [IntKind.wrap_i64]; omega
  have e8 : IntKind.i64.wrap ((s : Int) + 1) = (s : Int) + 1 := by rw [IntKind.wrap_i64]; omega
  clear hN ha hle
  go_enter Tryz.func127, Tryz.ntmps127
  go_wp2
  go_quiet (fail)
  go_wp2
  go_ret
  exact ⟨rfl, _, rfl⟩

end Go.Proofs.YtkbdfnmeomkpjaaGreat
