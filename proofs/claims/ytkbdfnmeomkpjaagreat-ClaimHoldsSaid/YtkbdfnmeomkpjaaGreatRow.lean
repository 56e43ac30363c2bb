/-
  The last step of a law's row: the walk returns true and has turned nothing that was there.
-/
import Derived.Test.YtkbdfnmeomkpjaaGreatRows
import Derived.Test.YtkbdfnmeomkpjaaGreatMem
import Derived.ProofKit
import Derived.OpenShut
import Derived.ShutString
namespace Go.Proofs.YtkbdfnmeomkpjaaGreat
open Go.ChangeShapes Go.WideShapes Go.ChangeAt Go.RowKit
set_option linter.unusedVariables false

theorem rowOwn : ownKnob Tryz.prog.godebug = none := by kernel_rfl
theorem rowLaid : laidOutB Tryz.prog = true := by kernel_rfl

theorem trodAll_below {H : Type} {enc : TypeId × Value → H} {P : Program} (hl : laidOutB P = true) {W W' : World} (hb : Below W.heap.size W W') :
    ∀ (ts : List TypeId) (vs : List Value) (ds : List (DataW H)) (ps : List MemPlace), (∀ t ∈ ts, P.readableRec t = true ∧ t < P.types.size) →
      DataW.TrodAll enc P W 0 (fun _ => true) true ts vs ds ps → (∀ x ∈ ps, x.block < W.heap.size) → DataW.TrodAll enc P W' 0 (fun b => decide (b < W.heap.size)) true ts vs ds ps
  | [], [], [], ps, _, h, _ => h
  | t :: ts, v :: vs, d :: ds, ps, ht, h, hlt => by
    obtain ⟨p, q, h1, h2, rfl⟩ := h
    have h0 := ht t (by simp)
    exact ⟨p, q, Below.trod hl h0.1 h0.2 h1 hb fun x hx => hlt x (by simp [hx]), trodAll_below hl hb ts vs ds q (fun t' h' => ht t' (by simp [h'])) h2 fun x hx => hlt x (by simp [hx]), rfl⟩
  | [], _ :: _, _, _, _, h, _ => h.elim
  | [], [], _ :: _, _, _, h, _ => h.elim
  | _ :: _, [], _, _, _, h, _ => h.elim
  | _ :: _, _ :: _, [], _, _, h, _ => h.elim

theorem law_post {H : Type} {enc : TypeId × Value → H} {P : Program} {f : Func} {s : ChangeSpec} {W W' : World} {args : Array Value} {ds gs : List (DataW H)} {before : List MemPlace} {tb : TypeId}
    (hl : laidOutB P = true) (hr : f.resultTypes = #[tb]) (hb4 : P.underlying tb = some .bool) (hts : f.params.toList.all (fun t => P.readableRec t && decide (t < P.types.size)) = true)
    (hv : s.vars = []) (hW : DataW.Whole enc P f.params.toList s.vars false W args.toList ds gs before) (hfn : s.fn H (ds ++ gs) = { results := [.lit (.bool true)], args := ds }) (hb : Below W.heap.size W W') :
    s.post enc P f false true false false W args (.bool true) W' := by
  have hlt : ∀ p ∈ before, p.block < W.heap.size := fun p hp => hW.lt p hp
  have hW' := hW
  obtain ⟨p, q, hA, hV, rfl, hfz, hnd⟩ := hW
  have hq : q = [] := by
    rw [hv] at hV
    cases gs with
    | nil => exact hV
    | cons a l => exact hV.elim
  refine ⟨ds, gs, p ++ q, [], p, [], hW', ?_, ?_, ?_, World.keptBut_mono (fun x hx => ⟨hx, ?_⟩) (hb.frame (· ∈ p ++ q)), fun h => by cases h⟩
  · rw [hr, hfn]
    exact trodAll_cons_mk (shut_bool hb4 true) trodAll_mk0
  · rw [hfn]
    refine trodAll_below hl hb _ _ _ _ (fun t ht => ?_) hA fun x hx => hlt x (by simp [hx])
    have := List.all_eq_true.1 hts t ht
    simpa using this
  · rw [hfn, hv]; rfl
  · rw [hq, List.append_nil] at hx
    exact .inr (.inl hx)

theorem law_strs {H : Type} {enc : TypeId × Value → H} {P : Program} {w : World} {base b : Nat} {spare : Nat → Bool} {held : Bool} {r : Reach} {t e : TypeId} {v : Value} {d : DataW H} {p : List MemPlace}
    (ht : P.underlying t = some (.slice e)) (he : P.underlying e = some .string) (hc : P.cellsOf e = 1) (hv : Value.okWide P w r base t v) (h : DataW.Trod enc P w b spare held t v d p) :
    ∃ (A : Option Addr) (n c : Nat) (ss : List ByteArray), v = .slice A n c ∧ n ≤ c ∧ n ≤ maxLen ∧ Sees w w.heap.size 1 A n (ss.map Value.string) ∧ ∀ s ∈ ss, s.size ≤ maxLen := by
  obtain ⟨a0, len, cap, rfl⟩ := okWide_slice ht hv
  obtain ⟨fuel, hf⟩ := h
  rcases open_strings ht he hc hf with ⟨hcs, _⟩ | ⟨a, len', cap', ss, hcs, _, hl, hm, hz, _, hcell, hws⟩
  · simp [Value.cells] at hcs
    obtain ⟨rfl, rfl, rfl⟩ := hcs
    exact ⟨none, 0, 0, [], rfl, Nat.le_refl _, Nat.zero_le _, Sees.nil _ _ _ _, fun s hs => by cases hs⟩
  · simp [Value.cells] at hcs
    obtain ⟨rfl, rfl, rfl⟩ := hcs
    refine ⟨some a, len, cap, ss.take len, rfl, hl, Nat.le_trans hl hm, ⟨?_, fun hn => ⟨a, rfl, ?_, fun j u hu => ?_⟩⟩, fun s hs => hws s (List.mem_of_mem_take hs)⟩
    · have : len ≤ ss.length := by rw [hz]; split <;> omega
      simp; omega
    · have h0 := hcell 0 (by rw [hz]; split <;> omega)
      have := World.block_lt_of_cell? w _ h0
      simpa [addBlock] using this
    · rw [List.getElem?_map] at hu
      cases hx : (ss.take len)[j]? with
      | none => rw [hx] at hu; cases hu
      | some y =>
        rw [hx] at hu
        simp only [Option.map_some, Option.some.injEq] at hu
        subst hu
        have hj : j < ss.length := by
          obtain ⟨h1, _⟩ := List.getElem?_eq_some_iff.1 hx
          simp at h1; omega
        rw [hcell j hj]
        have : ss[j]? = some y := by
          rw [List.getElem?_take] at hx
          split at hx
          · exact hx
          · cases hx
        simp [List.getD, this]

theorem law_ints {H : Type} {enc : TypeId × Value → H} {P : Program} {w : World} {base b : Nat} {spare : Nat → Bool} {held : Bool} {r : Reach} {t e : TypeId} {v : Value} {d : DataW H} {p : List MemPlace}
    (ht : P.underlying t = some (.slice e)) (he : P.underlying e = some (.int .i64)) (hc : P.cellsOf e = 1) (hv : Value.okWide P w r base t v) (h : DataW.Trod enc P w b spare held t v d p) :
    ∃ (A : Option Addr) (n c : Nat) (zs : List Int), v = .slice A n c ∧ n ≤ c ∧ n ≤ maxLen ∧ Sees w w.heap.size 1 A n (zs.map (Value.int .i64)) ∧ ∀ z ∈ zs, -9223372036854775808 ≤ z ∧ z ≤ 9223372036854775807 := by
  obtain ⟨a0, len, cap, rfl⟩ := okWide_slice ht hv
  obtain ⟨fuel, hf⟩ := h
  rcases open_ints ht he hc hf with ⟨hcs, _⟩ | ⟨a, len', cap', ss, hcs, _, hl, hm, hz, _, hcell, hws⟩
  · simp [Value.cells] at hcs
    obtain ⟨rfl, rfl, rfl⟩ := hcs
    exact ⟨none, 0, 0, [], rfl, Nat.le_refl _, Nat.zero_le _, Sees.nil _ _ _ _, fun s hs => by cases hs⟩
  · simp [Value.cells] at hcs
    obtain ⟨rfl, rfl, rfl⟩ := hcs
    refine ⟨some a, len, cap, ss.take len, rfl, hl, Nat.le_trans hl hm, ⟨?_, fun hn => ⟨a, rfl, ?_, fun j u hu => ?_⟩⟩, fun s hs => bounds_i64 (hws s (List.mem_of_mem_take hs))⟩
    · have : len ≤ ss.length := by rw [hz]; split <;> omega
      simp; omega
    · have h0 := hcell 0 (by rw [hz]; split <;> omega)
      have := World.block_lt_of_cell? w _ h0
      simpa [addBlock] using this
    · rw [List.getElem?_map] at hu
      cases hx : (ss.take len)[j]? with
      | none => rw [hx] at hu; cases hu
      | some y =>
        rw [hx] at hu
        simp only [Option.map_some, Option.some.injEq] at hu
        subst hu
        have hj : j < ss.length := by
          obtain ⟨h1, _⟩ := List.getElem?_eq_some_iff.1 hx
          simp at h1; omega
        rw [hcell j hj]
        have : ss[j]? = some y := by
          rw [List.getElem?_take] at hx
          split at hx
          · exact hx
          · cases hx
        simp [List.getD, this]
end Go.Proofs.YtkbdfnmeomkpjaaGreat
