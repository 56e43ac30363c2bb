import Derived.Test.YtacodojaolnhnaaRow
import Derived.Deep.Slices
import Derived.Deep.Fields
namespace Go.Proofs.Ytacodojaolnhnaa
open Go.ChangeShapes Go.WideShapes Go.ChangeAt Go.RowKit Go.Deep
set_option linter.unusedVariables false

theorem flat3 {α : Type} (l : List α) (f : α → List Value) (hf : ∀ a, (f a).length = 3) : (l.flatMap f).length = l.length * 3 ∧ ∀ i r, r < 3 → (l.flatMap f)[i * 3 + r]? = (l[i]?).bind fun a => (f a)[r]? := by
  induction l with
  | nil => simp
  | cons a l ih =>
    refine ⟨by simp [List.flatMap_cons, hf, ih.1]; omega, fun i r hr => ?_⟩
    rw [List.flatMap_cons]
    cases i with
    | zero => rw [List.getElem?_append_left (by rw [hf]; omega)]; simp
    | succ i =>
      rw [List.getElem?_append_right (by rw [hf]; omega), hf, show (i + 1) * 3 + r - 3 = i * 3 + r from by omega, ih.2 i r hr]
      simp

/-- The cells of an act. -/
def actCells (a : Int × Int × ByteArray) : List Value := [.int .i64 a.1, .int .i64 a.2.1, .string a.2.2]

theorem law_acts {H : Type} {enc : TypeId × Value → H} {P : Program} {w : World} {base b : Nat} {spare : Nat → Bool} {held : Bool} {r : Reach} {t e ti ts : TypeId} {fs : Array Field} {v : Value} {d : DataW H} {p : List MemPlace}
    (ht : P.underlying t = some (.slice e)) (he : P.underlying e = some (.struct fs)) (hC : P.cellsOf e = 3) (hfs : fs.size = 3) (hone : oneCellFields P fs = true)
    (h0 : (fs[0]?).map (·.type) = some ti) (h1 : (fs[1]?).map (·.type) = some ti) (h2 : (fs[2]?).map (·.type) = some ts) (hti : P.underlying ti = some (.int .i64)) (hts : P.underlying ts = some .string)
    (hv : Value.okWide P w r base t v) (h : DataW.Trod enc P w b spare held t v d p) :
    ∃ (A : Option Addr) (n c : Nat) (acts : List (Int × Int × ByteArray)), v = .slice A n c ∧ n ≤ c ∧ n ≤ maxLen ∧ Sees w w.heap.size 3 A n (acts.flatMap actCells) ∧
      ∀ a ∈ acts, (-9223372036854775808 ≤ a.1 ∧ a.1 ≤ 9223372036854775807) ∧ (-9223372036854775808 ≤ a.2.1 ∧ a.2.1 ≤ 9223372036854775807) ∧ a.2.2.size ≤ maxLen := by
  obtain ⟨a0, len, cap, rfl⟩ := okWide_slice ht hv
  obtain ⟨fuel, hf⟩ := h
  rcases Go.Deep.open_slice ht hf with ⟨hcs, _⟩ | ⟨a, len', cap', m, n, D, Pl, hcs, _, hl, hm, hmm, _, hel⟩
  · simp [Value.cells] at hcs
    obtain ⟨rfl, rfl, rfl⟩ := hcs
    exact ⟨none, 0, 0, [], rfl, Nat.le_refl _, Nat.zero_le _, Sees.nil _ _ _ _, fun s hs => by cases hs⟩
  · simp [Value.cells] at hcs
    obtain ⟨rfl, rfl, rfl⟩ := hcs
    have hlm : len ≤ m := by rw [hmm]; split <;> omega
    have each : ∀ i, ∃ x : Int × Int × ByteArray, i < len → ((-9223372036854775808 ≤ x.1 ∧ x.1 ≤ 9223372036854775807) ∧ (-9223372036854775808 ≤ x.2.1 ∧ x.2.1 ≤ 9223372036854775807) ∧ x.2.2.size ≤ maxLen) ∧ ∀ j, j < 3 → w.cell? (a.add (i * 3 + j)) = (actCells x)[j]? := by
      intro i
      by_cases hi : i < len
      · obtain ⟨cs', hc, htr⟩ := hel i (by omega)
        rw [hC] at hc
        obtain ⟨_, hcl, hat⟩ := World.cells?_some hc
        obtain ⟨xs, n', _, _, _, hxl, hfl⟩ := DataW.trod_struct he htr
        match cs', hcl with
        | [u0, u1, u2], _ =>
          obtain ⟨f0, hf0, e0⟩ := Option.map_eq_some_iff.1 h0
          obtain ⟨f1, hf1, e1⟩ := Option.map_eq_some_iff.1 h1
          obtain ⟨f2, hf2, e2⟩ := Option.map_eq_some_iff.1 h2
          have x0 := hfl 0 f0 hf0
          have x1 := hfl 1 f1 hf1
          have x2 := hfl 2 f2 hf2
          rw [(hone_of hone 0 f0 hf0).1, (hone_of hone 0 f0 hf0).2, e0] at x0
          rw [(hone_of hone 1 f1 hf1).1, (hone_of hone 1 f1 hf1).2, e1] at x1
          rw [(hone_of hone 2 f2 hf2).1, (hone_of hone 2 f2 hf2).2, e2] at x2
          have y0 : xs[0]? = some (xs[0]'(by omega)) := List.getElem?_eq_getElem (by omega)
          have y1 : xs[1]? = some (xs[1]'(by omega)) := List.getElem?_eq_getElem (by omega)
          have y2 : xs[2]? = some (xs[2]'(by omega)) := List.getElem?_eq_getElem (by omega)
          obtain ⟨k, hk, _, wk⟩ := DataW.trod_int hti (x0.trans y0)
          obtain ⟨q, hq, _, wq⟩ := DataW.trod_int hti (x1.trans y1)
          obtain ⟨s, hs, _, ws⟩ := DataW.trod_string hts (x2.trans y2)
          simp at hk hq hs
          subst hk; subst hq; subst hs
          refine ⟨(k, q, s), fun _ => ⟨⟨bounds_i64 wk, bounds_i64 wq, ws⟩, fun j hj => ?_⟩⟩
          rw [← Go.Deep.add_add, hat j (by simpa using hj)]
          rfl
      · exact ⟨(0, 0, ByteArray.empty), fun h => absurd h hi⟩
    obtain ⟨f, hfx⟩ := Classical.axiomOfChoice each
    have hlen : ((List.range len).map f).length = len := by simp
    have h3 := flat3 ((List.range len).map f) actCells (fun _ => rfl)
    refine ⟨some a, len, cap, (List.range len).map f, rfl, hl, Nat.le_trans hl hm, ⟨by rw [h3.1, hlen], fun hn => ⟨a, rfl, ?_, fun j u hu => ?_⟩⟩, fun x hx => ?_⟩
    · have := (hfx 0 hn).2 0 (by omega)
      have := World.block_lt_of_cell? w _ this
      simpa [addBlock] using this
    · have e : j = j / 3 * 3 + j % 3 := by omega
      rw [e, h3.2 _ _ (Nat.mod_lt _ (by omega))] at hu
      have hj : j / 3 < len := by
        rcases Nat.lt_or_ge (j / 3) len with h | h
        · exact h
        · rw [List.getElem?_eq_none (by rw [hlen]; exact h)] at hu; cases hu
      rw [List.getElem?_map, List.getElem?_range hj] at hu
      rw [e, (hfx (j / 3) hj).2 _ (Nat.mod_lt _ (by omega))]
      exact hu
    · obtain ⟨i, hi, rfl⟩ := List.mem_map.1 hx
      exact (hfx i (List.mem_range.1 hi)).1
end Go.Proofs.Ytacodojaolnhnaa
