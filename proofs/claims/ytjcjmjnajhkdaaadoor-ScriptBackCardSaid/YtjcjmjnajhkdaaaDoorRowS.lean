/-
  What a script is that came in.
-/
import Derived.Test.YtjcjmjnajhkdaaaDoorRow
import Derived.Test.YtjcjmjnajhkdaaaDoorScrX
import Derived.Deep.Slices
import Derived.Deep.Fields
namespace Go.Proofs.YtjcjmjnajhkdaaaDoor
open Go.ChangeShapes Go.WideShapes Go.ChangeAt Go.RowKit Go.Deep
set_option linter.unusedVariables false

section
variable {H : Type} {enc : TypeId × Value → H} {P : Program} {w : World} {b : Nat} {spare : Nat → Bool} {held : Bool}
theorem trod_strs {t e : TypeId} {fuel : Nat} {c : Value} {x : DataW H × List MemPlace}
    (ht : P.underlying t = some (.slice e)) (he : P.underlying e = some .string) (hc : P.cellsOf e = 1) (hf : DataW.trod enc P w b spare held fuel t [c] = some x) :
    ∃ l : List (List UInt8), SeesV w 1 c l.length (strVs l) ∧ l.length ≤ maxLen ∧ ∀ x ∈ l, x.length ≤ maxLen := by
  rcases open_strings ht he hc hf with ⟨hcs, _⟩ | ⟨a, len, cap, ss, hcs, _, hl, hm, hz, _, hcell, hws⟩
  · simp at hcs
    subst hcs
    exact ⟨[], SeesV.nil _ _, Nat.zero_le _, fun x hx => by cases hx⟩
  · simp at hcs
    subst hcs
    have hlen : len ≤ ss.length := by rw [hz]; split <;> omega
    have e1 : strVs ((ss.take len).map (fun s => s.data.toList)) = (ss.take len).map Value.string := by
      unfold strVs
      rw [List.map_map, List.map_map]
      exact List.map_congr_left fun s _ => congrArg Value.string (bytes_mk s)
    have e2 : ((ss.take len).map (fun s => s.data.toList)).length = len := by simp; omega
    refine ⟨(ss.take len).map (fun s => s.data.toList), ?_, by rw [e2]; omega, fun x hx => ?_⟩
    · rw [e1, e2]
      refine ⟨some a, cap, rfl, ⟨by simp; omega, fun hn => ⟨a, rfl, ?_, fun j u hu => ?_⟩⟩⟩
      · have h0 := hcell 0 (by omega)
        have := World.block_lt_of_cell? w _ h0
        simpa [addBlock] using this
      · rw [List.getElem?_map] at hu
        cases hx : (ss.take len)[j]? with
        | none => rw [hx] at hu; cases hu
        | some y =>
          rw [hx] at hu
          simp only [Option.map_some, Option.some.injEq] at hu
          subst hu
          have hj : j < ss.length := by
            obtain ⟨h1, _⟩ := List.getElem?_eq_some_iff.1 hx
            simp at h1; omega
          rw [hcell j hj]
          have : ss[j]? = some y := by
            rw [List.getElem?_take] at hx
            split at hx
            · exact hx
            · cases hx
          simp [List.getD, this]
    · obtain ⟨s, hs, rfl⟩ := List.mem_map.1 hx
      have := hws s (List.mem_of_mem_take hs)
      rw [Lib.size_eq] at this
      exact this
theorem trod_ints {t e : TypeId} {fuel : Nat} {c : Value} {x : DataW H × List MemPlace}
    (ht : P.underlying t = some (.slice e)) (he : P.underlying e = some (.int .i64)) (hc : P.cellsOf e = 1) (hf : DataW.trod enc P w b spare held fuel t [c] = some x) :
    ∃ l : List Int, SeesV w 1 c l.length (l.map (Value.int .i64)) ∧ l.length ≤ maxLen := by
  rcases open_ints ht he hc hf with ⟨hcs, _⟩ | ⟨a, len, cap, ss, hcs, _, hl, hm, hz, _, hcell, hws⟩
  · simp at hcs
    subst hcs
    exact ⟨[], SeesV.nil _ _, Nat.zero_le _⟩
  · simp at hcs
    subst hcs
    have hlen : len ≤ ss.length := by rw [hz]; split <;> omega
    have e2 : (ss.take len).length = len := by simp; omega
    refine ⟨ss.take len, ?_, by rw [e2]; omega⟩
    rw [e2]
    refine ⟨some a, cap, rfl, ⟨by simp; omega, fun hn => ⟨a, rfl, ?_, fun j u hu => ?_⟩⟩⟩
    · have h0 := hcell 0 (by omega)
      have := World.block_lt_of_cell? w _ h0
      simpa [addBlock] using this
    · rw [List.getElem?_map] at hu
      cases hx : (ss.take len)[j]? with
      | none => rw [hx] at hu; cases hu
      | some y =>
        rw [hx] at hu
        simp only [Option.map_some, Option.some.injEq] at hu
        subst hu
        have hj : j < ss.length := by
          obtain ⟨h1, _⟩ := List.getElem?_eq_some_iff.1 hx
          simp at h1; omega
        rw [hcell j hj]
        have : ss[j]? = some y := by
          rw [List.getElem?_take] at hx
          split at hx
          · exact hx
          · cases hx
        simp [List.getD, this]
theorem trod_edits {t e ti : TypeId} {fs : Array Field} {fuel : Nat} {c : Value} {x : DataW H × List MemPlace}
    (ht : P.underlying t = some (.slice e)) (he : P.underlying e = some (.struct fs)) (hC : P.cellsOf e = 3) (hfs : fs.size = 3) (hone : oneCellFields P fs = true)
    (h0 : (fs[0]?).map (·.type) = some ti) (h1 : (fs[1]?).map (·.type) = some ti) (h2 : (fs[2]?).map (·.type) = some ti) (hti : P.underlying ti = some (.int .i64))
    (hf : DataW.trod enc P w b spare held fuel t [c] = some x) :
    ∃ l : List (Int × Int × Int), SeesV w 3 c l.length (edVs l) ∧ l.length ≤ maxLen ∧ ∀ a ∈ l, (iMin ≤ a.1 ∧ a.1 ≤ iMax) ∧ (iMin ≤ a.2.1 ∧ a.2.1 ≤ iMax) ∧ (iMin ≤ a.2.2 ∧ a.2.2 ≤ iMax) := by
  rcases Go.Deep.open_slice ht hf with ⟨hcs, _⟩ | ⟨a, len, cap, m, n, D, Pl, hcs, _, hl, hm, hmm, _, hel⟩
  · simp at hcs
    subst hcs
    exact ⟨[], SeesV.nil _ _, Nat.zero_le _, fun s hs => by cases hs⟩
  · simp at hcs
    subst hcs
    have hlm : len ≤ m := by rw [hmm]; split <;> omega
    have each : ∀ i, ∃ x : Int × Int × Int, i < len → ((iMin ≤ x.1 ∧ x.1 ≤ iMax) ∧ (iMin ≤ x.2.1 ∧ x.2.1 ≤ iMax) ∧ (iMin ≤ x.2.2 ∧ x.2.2 ≤ iMax)) ∧ (w.cell? (a.add (i * 3)) = some (.int .i64 x.1) ∧ w.cell? (a.add (i * 3 + 1)) = some (.int .i64 x.2.1) ∧ w.cell? (a.add (i * 3 + 2)) = some (.int .i64 x.2.2)) := by
      intro i
      by_cases hi : i < len
      · obtain ⟨cs', hc, htr⟩ := hel i (by omega)
        rw [hC] at hc
        obtain ⟨_, hcl, hat⟩ := World.cells?_some hc
        obtain ⟨xs, n', _, _, _, hxl, hfl⟩ := DataW.trod_struct he htr
        match cs', hcl with
        | [u0, u1, u2], _ =>
          obtain ⟨f0, hf0, e0⟩ := Option.map_eq_some_iff.1 h0
          obtain ⟨f1, hf1, e1⟩ := Option.map_eq_some_iff.1 h1
          obtain ⟨f2, hf2, e2⟩ := Option.map_eq_some_iff.1 h2
          have x0 := hfl 0 f0 hf0
          have x1 := hfl 1 f1 hf1
          have x2 := hfl 2 f2 hf2
          rw [(hone_of hone 0 f0 hf0).1, (hone_of hone 0 f0 hf0).2, e0] at x0
          rw [(hone_of hone 1 f1 hf1).1, (hone_of hone 1 f1 hf1).2, e1] at x1
          rw [(hone_of hone 2 f2 hf2).1, (hone_of hone 2 f2 hf2).2, e2] at x2
          have y0 : xs[0]? = some (xs[0]'(by omega)) := List.getElem?_eq_getElem (by omega)
          have y1 : xs[1]? = some (xs[1]'(by omega)) := List.getElem?_eq_getElem (by omega)
          have y2 : xs[2]? = some (xs[2]'(by omega)) := List.getElem?_eq_getElem (by omega)
          obtain ⟨k, hk, _, wk⟩ := DataW.trod_int hti (x0.trans y0)
          obtain ⟨q, hq, _, wq⟩ := DataW.trod_int hti (x1.trans y1)
          obtain ⟨s, hs, _, ws⟩ := DataW.trod_int hti (x2.trans y2)
          simp at hk hq hs
          subst hk; subst hq; subst hs
          refine ⟨(k, q, s), fun _ => ⟨⟨bounds_i64 wk, bounds_i64 wq, bounds_i64 ws⟩, ?_, ?_, ?_⟩⟩
          · have := hat 0 (by simp); rwa [Go.Deep.add_add] at this
          · have := hat 1 (by simp); rwa [Go.Deep.add_add] at this
          · have := hat 2 (by simp); rwa [Go.Deep.add_add] at this
      · exact ⟨(0, 0, 0), fun h => absurd h hi⟩
    obtain ⟨f, hfx⟩ := Classical.axiomOfChoice each
    have hlen : ((List.range len).map f).length = len := by simp
    refine ⟨(List.range len).map f, ?_, by rw [hlen]; omega, fun x hx => ?_⟩
    · rw [hlen]
      refine ⟨some a, cap, rfl, ⟨by rw [edVs_len, hlen], fun hn => ⟨a, rfl, ?_, fun j u hu => ?_⟩⟩⟩
      · have := (hfx 0 hn).2.1
        have := World.block_lt_of_cell? w _ this
        simpa [addBlock] using this
      · have hjl : j < len * 3 := by
          have := (List.getElem?_eq_some_iff.1 hu).1
          rw [edVs_len, hlen] at this
          exact this
        have hi : j / 3 < len := by omega
        have hg : ((List.range len).map f)[j / 3]? = some (f (j / 3)) := by rw [List.getElem?_map, List.getElem?_range hi]; rfl
        obtain ⟨g0, g1, g2⟩ := edVs_at _ _ _ hg
        obtain ⟨c0, c1, c2⟩ := (hfx (j / 3) hi).2
        have hr : j % 3 = 0 ∨ j % 3 = 1 ∨ j % 3 = 2 := by omega
        rcases hr with hr | hr | hr
        · rw [show j = j / 3 * 3 by omega] at hu ⊢
          rw [c0, ← g0]; exact hu
        · rw [show j = j / 3 * 3 + 1 by omega] at hu ⊢
          rw [c1, ← g1]; exact hu
        · rw [show j = j / 3 * 3 + 2 by omega] at hu ⊢
          rw [c2, ← g2]; exact hu
    · obtain ⟨i, hi, rfl⟩ := List.mem_map.1 hx
      exact (hfx i (List.mem_range.1 hi)).1
theorem field_of {fs : Array Field} {n : Nat} {cs : List Value} {xs : List (DataW H × List MemPlace)} (hfl : ∀ (i : Nat) (f : Field), fs[i]? = some f → DataW.trod enc P w b spare held n f.type ((cs.drop f.offset).take (P.cellsOf f.type)) = xs[i]?)
    (i : Nat) (T : TypeId) (o k : Nat) (h : (fs[i]?).map (fun f => (f.type, f.offset)) = some (T, o)) (hk : P.cellsOf T = k) : DataW.trod enc P w b spare held n T ((cs.drop o).take k) = xs[i]? := by
  obtain ⟨f, hf, e⟩ := Option.map_eq_some_iff.1 h
  have := hfl i f hf
  simp only [Prod.mk.injEq] at e
  rw [e.1, e.2, hk] at this
  exact this
end

set_option maxRecDepth 100000 in
theorem law_script {H : Type} {enc : TypeId × Value → H} {w : World} {base b : Nat} {spare : Nat → Bool} {held : Bool} {r : Reach} {v : Value} {d : DataW H} {p : List MemPlace}
    (hv : Value.okWide Tryd.prog w r base 35 v) (h : DataW.Trod enc Tryd.prog w b spare held 35 v d p) :
    ∃ (v0 v1 v5 v6 : Value) (s : Sc), v = scV v0 v1 v5 v6 s ∧ ScR w v0 v1 v5 v6 s ∧ NumsOk s ∧ s.pats.length ≤ maxLen ∧ s.parts.length ≤ maxLen ∧ s.edits.length ≤ maxLen ∧ s.certs.length ≤ maxLen ∧ (∀ x ∈ s.pats, x.length ≤ maxLen) ∧ (∀ x ∈ s.parts, x.length ≤ maxLen) := by
  have eS : Tryd.prog.cellsOf 35 = 7 := by kernel_rfl
  have e23 : Tryd.prog.cellsOf 23 = 1 := by kernel_rfl
  have e25 : Tryd.prog.cellsOf 25 = 3 := by kernel_rfl
  have e33 : Tryd.prog.cellsOf 33 = 1 := by kernel_rfl
  have e27 : Tryd.prog.cellsOf 27 = 1 := by kernel_rfl
  have e3 : Tryd.prog.cellsOf 3 = 1 := by kernel_rfl
  have e4 : Tryd.prog.cellsOf 4 = 1 := by kernel_rfl
  obtain ⟨cs, rfl, hsz⟩ := okWide_struct Tryd.underlying35 hv
  rw [eS] at hsz
  obtain ⟨l⟩ := cs
  match l, hsz with
  | [u0, u1, u2, u3, u4, u5, u6], _ =>
    obtain ⟨fuel, hf⟩ := h
    obtain ⟨xs, n', _, _, _, hxl, hfl⟩ := DataW.trod_struct Tryd.underlying35 hf
    have hx5 : xs.length = 5 := hxl
    have x0 := field_of hfl 0 23 0 _ rfl e23
    have x1 := field_of hfl 1 23 1 _ rfl e23
    have x2 := field_of hfl 2 25 2 _ rfl e25
    have x3 := field_of hfl 3 33 5 _ rfl e33
    have x4 := field_of hfl 4 27 6 _ rfl e27
    have y0 : xs[0]? = some (xs[0]'(by omega)) := List.getElem?_eq_getElem (by omega)
    have y1 : xs[1]? = some (xs[1]'(by omega)) := List.getElem?_eq_getElem (by omega)
    have y2 : xs[2]? = some (xs[2]'(by omega)) := List.getElem?_eq_getElem (by omega)
    have y3 : xs[3]? = some (xs[3]'(by omega)) := List.getElem?_eq_getElem (by omega)
    have y4 : xs[4]? = some (xs[4]'(by omega)) := List.getElem?_eq_getElem (by omega)
    obtain ⟨l0, h0, z0, m0⟩ := trod_strs Tryd.underlying23 Tryd.underlying9 (by kernel_rfl) (show DataW.trod enc Tryd.prog w b spare held n' 23 [u0] = some _ from x0.trans y0)
    obtain ⟨l1, h1, z1, m1⟩ := trod_strs Tryd.underlying23 Tryd.underlying9 (by kernel_rfl) (show DataW.trod enc Tryd.prog w b spare held n' 23 [u1] = some _ from x1.trans y1)
    obtain ⟨l3, h3, z3, m3⟩ := trod_edits Tryd.underlying33 Tryd.underlying62 (by kernel_rfl) rfl (by kernel_rfl) rfl rfl rfl Tryd.underlying3 (show DataW.trod enc Tryd.prog w b spare held n' 33 [u5] = some _ from x3.trans y3)
    obtain ⟨l4, h4, z4⟩ := trod_ints Tryd.underlying27 Tryd.underlying3 (by kernel_rfl) (show DataW.trod enc Tryd.prog w b spare held n' 27 [u6] = some _ from x4.trans y4)
    obtain ⟨ys, n2, _, _, _, hyl, hgl⟩ := DataW.trod_struct Tryd.underlying25 (show DataW.trod enc Tryd.prog w b spare held n' 25 [u2, u3, u4] = some _ from x2.trans y2)
    have hy3 : ys.length = 3 := hyl
    have g0 := field_of hgl 0 3 0 _ rfl e3
    have g1 := field_of hgl 1 4 1 _ rfl e4
    have g2 := field_of hgl 2 3 2 _ rfl e3
    have t0 : ys[0]? = some (ys[0]'(by omega)) := List.getElem?_eq_getElem (by omega)
    have t1 : ys[1]? = some (ys[1]'(by omega)) := List.getElem?_eq_getElem (by omega)
    have t2 : ys[2]? = some (ys[2]'(by omega)) := List.getElem?_eq_getElem (by omega)
    obtain ⟨k, hk, _, _⟩ := DataW.trod_int Tryd.underlying3 (show DataW.trod enc Tryd.prog w b spare held n2 3 [u2] = some _ from g0.trans t0)
    obtain ⟨sk, hsk, _⟩ := DataW.trod_bool Tryd.underlying4 (show DataW.trod enc Tryd.prog w b spare held n2 4 [u3] = some _ from g1.trans t1)
    obtain ⟨q, hq, _, _⟩ := DataW.trod_int Tryd.underlying3 (show DataW.trod enc Tryd.prog w b spare held n2 3 [u4] = some _ from g2.trans t2)
    simp at hk hsk hq
    subst hk; subst hsk; subst hq
    exact ⟨u0, u1, u5, u6, ⟨l0, l1, k, sk, q, l3, l4⟩, rfl, ⟨h0, h1, h3, h4⟩, fun e he => ⟨(m3 e he).2.1, (m3 e he).2.2⟩, z0, z1, z3, z4, m0, m1⟩

theorem sprints_row (w : World) (v0 v1 v5 v6 : Value) (s : Sc) (m : Int) (hmx : w.cell? ⟨2, 0, none⟩ = some (.int .i64 m))
    (hw : s.pats.length ≤ maxLen ∧ s.parts.length ≤ maxLen ∧ s.edits.length ≤ maxLen ∧ s.certs.length ≤ maxLen ∧ (∀ x ∈ s.pats, x.length ≤ maxLen) ∧ (∀ x ∈ s.parts, x.length ≤ maxLen)) (h : ScR w v0 v1 v5 v6 s) (hn : NumsOk s) :
    Calls Tryd.prog 4 #[scV v0 v1 v5 v6 s] w fun e w' => e = .returned (.bool true) ∧ Pure' w w' :=
  sprints_walk v0 v1 v5 v6 s w m hmx h hn hw.1 hw.2.1 hw.2.2.1 hw.2.2.2.1 hw.2.2.2.2.1 hw.2.2.2.2.2
end Go.Proofs.YtjcjmjnajhkdaaaDoor
