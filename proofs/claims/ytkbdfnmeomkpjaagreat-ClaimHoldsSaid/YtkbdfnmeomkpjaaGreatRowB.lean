/-
  What an array of four numbers, and a record of three numbers and a row of numbers, are that came in.
-/
import Derived.Test.YtkbdfnmeomkpjaaGreatRow
import Derived.Deep.Slices
import Derived.Deep.Fields
import Derived.Laws.IdiomArrays
namespace Go.Proofs.YtkbdfnmeomkpjaaGreat
open Go.ChangeShapes Go.WideShapes Go.ChangeAt Go.RowKit Go.Deep
set_option linter.unusedVariables false

theorem law_arr4 {H : Type} {enc : TypeId × Value → H} {P : Program} {w : World} {base b : Nat} {spare : Nat → Bool} {held : Bool} {r : Reach} {t e : TypeId} {v : Value} {d : DataW H} {p : List MemPlace}
    (ht : P.underlying t = some (.array 4 e)) (he : P.underlying e = some (.int .i64)) (hc : P.cellsOf e = 1) (hct : P.cellsOf t = 4) (hv : Value.okWide P w r base t v) (h : DataW.Trod enc P w b spare held t v d p) :
    ∃ x0 x1 x2 x3 : Int, v = .agg #[.int .i64 x0, .int .i64 x1, .int .i64 x2, .int .i64 x3] ∧ (-9223372036854775808 ≤ x0 ∧ x0 ≤ 9223372036854775807) ∧ (-9223372036854775808 ≤ x1 ∧ x1 ≤ 9223372036854775807) ∧ (-9223372036854775808 ≤ x2 ∧ x2 ≤ 9223372036854775807) ∧ (-9223372036854775808 ≤ x3 ∧ x3 ≤ 9223372036854775807) := by
  obtain ⟨cs, rfl, hsz, _⟩ : ∃ cs, v = .agg cs ∧ cs.size = P.cellsOf t ∧ Row.okWide P w r base t cs := by
    simpa [Value.okWide, ht] using hv
  rw [hct] at hsz
  obtain ⟨l⟩ := cs
  match l, hsz with
  | [c0, c1, c2, c3], _ =>
    obtain ⟨fuel, hf⟩ := h
    obtain ⟨y0, y1, y2, y3, m, hx, hy0, hy1, hy2, hy3⟩ := trod_array4 ht hc hf
    obtain ⟨x0, e0, _, w0⟩ := DataW.trod_int he hy0
    obtain ⟨x1, e1, _, w1⟩ := DataW.trod_int he hy1
    obtain ⟨x2, e2, _, w2⟩ := DataW.trod_int he hy2
    obtain ⟨x3, e3, _, w3⟩ := DataW.trod_int he hy3
    simp at e0 e1 e2 e3
    subst e0 e1 e2 e3
    exact ⟨x0, x1, x2, x3, rfl, bounds_i64 w0, bounds_i64 w1, bounds_i64 w2, bounds_i64 w3⟩

theorem law_rec {H : Type} {enc : TypeId × Value → H} {P : Program} {w : World} {base b : Nat} {spare : Nat → Bool} {held : Bool} {r : Reach} {t ti ts : TypeId} {fs : Array Field} {v : Value} {d : DataW H} {p : List MemPlace}
    (ht : P.underlying t = some (.struct fs)) (hct : P.cellsOf t = 4) (hone : oneCellFields P fs = true)
    (h0 : (fs[0]?).map (·.type) = some ti) (h1 : (fs[1]?).map (·.type) = some ti) (h2 : (fs[2]?).map (·.type) = some ti) (h3 : (fs[3]?).map (·.type) = some ts) (hfs : fs.size = 4)
    (hti : P.underlying ti = some (.int .i64)) (hts : P.underlying ts = some (.slice ti)) (hci : P.cellsOf ti = 1) (hv : Value.okWide P w r base t v) (h : DataW.Trod enc P w b spare held t v d p) :
    ∃ (k n q : Int) (A : Option Addr) (m c : Nat) (zs : List Int), v = .agg #[.int .i64 k, .int .i64 n, .int .i64 q, .slice A m c] ∧
      (-9223372036854775808 ≤ k ∧ k ≤ 9223372036854775807) ∧ (-9223372036854775808 ≤ n ∧ n ≤ 9223372036854775807) ∧ (-9223372036854775808 ≤ q ∧ q ≤ 9223372036854775807) ∧
      m ≤ maxLen ∧ Sees w w.heap.size 1 A m (zs.map (Value.int .i64)) ∧ ∀ z ∈ zs, -9223372036854775808 ≤ z ∧ z ≤ 9223372036854775807 := by
  obtain ⟨cs, rfl, hsz⟩ := okWide_struct ht hv
  rw [hct] at hsz
  obtain ⟨l⟩ := cs
  match l, hsz with
  | [u0, u1, u2, u3], _ =>
    obtain ⟨fuel, hf⟩ := h
    obtain ⟨xs, n', _, _, _, hxl, hfl⟩ := DataW.trod_struct ht hf
    obtain ⟨f0, hf0, e0⟩ := Option.map_eq_some_iff.1 h0
    obtain ⟨f1, hf1, e1⟩ := Option.map_eq_some_iff.1 h1
    obtain ⟨f2, hf2, e2⟩ := Option.map_eq_some_iff.1 h2
    obtain ⟨f3, hf3, e3⟩ := Option.map_eq_some_iff.1 h3
    have x0 := hfl 0 f0 hf0
    have x1 := hfl 1 f1 hf1
    have x2 := hfl 2 f2 hf2
    have x3 := hfl 3 f3 hf3
    rw [(hone_of hone 0 f0 hf0).1, (hone_of hone 0 f0 hf0).2, e0] at x0
    rw [(hone_of hone 1 f1 hf1).1, (hone_of hone 1 f1 hf1).2, e1] at x1
    rw [(hone_of hone 2 f2 hf2).1, (hone_of hone 2 f2 hf2).2, e2] at x2
    rw [(hone_of hone 3 f3 hf3).1, (hone_of hone 3 f3 hf3).2, e3] at x3
    have y0 : xs[0]? = some (xs[0]'(by omega)) := List.getElem?_eq_getElem (by omega)
    have y1 : xs[1]? = some (xs[1]'(by omega)) := List.getElem?_eq_getElem (by omega)
    have y2 : xs[2]? = some (xs[2]'(by omega)) := List.getElem?_eq_getElem (by omega)
    have y3 : xs[3]? = some (xs[3]'(by omega)) := List.getElem?_eq_getElem (by omega)
    obtain ⟨k, hk, _, wk⟩ := DataW.trod_int hti (x0.trans y0)
    obtain ⟨n, hn, _, wn⟩ := DataW.trod_int hti (x1.trans y1)
    obtain ⟨q, hq, _, wq⟩ := DataW.trod_int hti (x2.trans y2)
    have o3 := x3.trans y3
    simp [Value.cells] at hk hn hq
    subst hk; subst hn; subst hq
    rcases open_ints hts hti hci o3 with ⟨hcs, _⟩ | ⟨a, len, cap, ss, hcs, _, hl, hm, hz, _, hcell, hws⟩
    · simp [Value.cells] at hcs
      subst hcs
      exact ⟨k, n, q, none, 0, 0, [], rfl, bounds_i64 wk, bounds_i64 wn, bounds_i64 wq, Nat.zero_le _, Sees.nil _ _ _ _, fun s hs => by cases hs⟩
    · simp [Value.cells] at hcs
      subst hcs
      refine ⟨k, n, q, some a, len, cap, ss.take len, rfl, bounds_i64 wk, bounds_i64 wn, bounds_i64 wq, Nat.le_trans hl hm, ⟨?_, fun hn => ⟨a, rfl, ?_, fun j u hu => ?_⟩⟩, fun s hs => bounds_i64 (hws s (List.mem_of_mem_take hs))⟩
      · have : len ≤ ss.length := by rw [hz]; split <;> omega
        simp; omega
      · have h0 := hcell 0 (by rw [hz]; split <;> omega)
        have := World.block_lt_of_cell? w _ h0
        simpa [addBlock] using this
      · rw [List.getElem?_map] at hu
        cases hx : (ss.take len)[j]? with
        | none => rw [hx] at hu; cases hu
        | some y =>
          rw [hx] at hu
          simp only [Option.map_some, Option.some.injEq] at hu
          subst hu
          have hj : j < ss.length := by
            obtain ⟨h1, _⟩ := List.getElem?_eq_some_iff.1 hx
            simp at h1; omega
          rw [hcell j hj]
          have : ss[j]? = some y := by
            rw [List.getElem?_take] at hx
            split at hx
            · exact hx
            · cases hx
          simp [List.getD, this]
end Go.Proofs.YtkbdfnmeomkpjaaGreat
