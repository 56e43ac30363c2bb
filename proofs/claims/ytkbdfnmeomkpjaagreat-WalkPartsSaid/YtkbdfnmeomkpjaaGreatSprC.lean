/- The cells of a sparse table, plainly: each row free, then laid; no condition. -/
import Derived.Test.YtkbdfnmeomkpjaaGreatSprB
namespace Go.Proofs.YtkbdfnmeomkpjaaGreat
open Go.RowKit
set_option linter.unusedVariables false
set_option linter.unusedSimpArgs false
set_option maxRecDepth 100000

/-- The cells of a row of numbers. -/
def numV (f : Nat → Nat) (N : Nat) : Array Value := ((List.range N).map (fun i => Value.int .i64 (f i : Int))).toArray
theorem numV_size (f : Nat → Nat) (N : Nat) : (numV f N).size = N := by simp [numV]
theorem numV_at (f : Nat → Nat) {N i : Nat} (h : i < N) : (numV f N)[i]? = some (.int .i64 (f i : Int)) := by
  unfold numV
  rw [List.getElem?_toArray, List.getElem?_map, List.getElem?_range h]
  rfl
theorem numV_ext {A : Array Value} {f : Nat → Nat} {N : Nat} (hA : A.size = N) (h : ∀ i, i < N → A[i]? = some (.int .i64 (f i : Int))) : A = numV f N := by
  apply Array.ext
  · rw [hA, numV_size]
  · intro i h1 h2
    have := h i (by omega)
    rw [← numV_at f (by omega : i < N), Array.getElem?_eq_getElem h1, Array.getElem?_eq_getElem h2] at this
    exact Option.some.inj this
theorem numV_set (f : Nat → Nat) (N k x : Nat) (hk : k < N) : (numV f N).setIfInBounds k (.int .i64 (x : Int)) = numV (updN f k x) N := by
  refine numV_ext (by simp [numV_size]) fun i hi => ?_
  rw [Array.getElem?_setIfInBounds]
  by_cases e : k = i
  · subst e
    rw [if_pos rfl, if_pos (by rw [numV_size]; omega)]
    simp [updN]
  · rw [if_neg e, numV_at f hi]
    simp [updN, Ne.symm e]
theorem numV_zero (N : Nat) : ((List.replicate N (0 : Int)).map (Value.int .i64)).toArray = numV (fun _ => 0) N := by
  refine numV_ext (by simp) fun i hi => ?_
  simp [hi]
theorem updN_self (f : Nat → Nat) (k x : Nat) : updN f k x k = x := by simp [updN]
theorem updN_ne {f : Nat → Nat} {k x i : Nat} (h : i ≠ k) : updN f k x i = f i := by simp [updN, h]

/-- The rows of the first K states are laid. -/
structure SInv (l : List (List UInt8)) (K : Nat) (C : List SCell) (bf : Nat → Nat) : Prop where
  len : C.length ≤ K * 256
  put : ∀ s p c, s < K → (statesL l)[s]? = some p → p ++ [c] ∈ statesL l → C[bf s + c.toNat]? = some (s + 1, (statesL l).idxOf (p ++ [c]))
  own : ∀ k x, C[k]? = some x → x.1 = 0 ∨ ∃ s p c, s < K ∧ x.1 = s + 1 ∧ (statesL l)[s]? = some p ∧ p ++ [c] ∈ statesL l ∧ k = bf s + c.toNat
theorem SInv.start (l : List (List UInt8)) (bf : Nat → Nat) : SInv l 0 [] bf := ⟨Nat.zero_le _, fun s p c h => by omega, fun k x h => by simp at h⟩
theorem SInv.le {l : List (List UInt8)} {K : Nat} {C : List SCell} {bf : Nat → Nat} (h : SInv l K C bf) : ∀ x ∈ C, x.1 ≤ K := fun x hx => by
  obtain ⟨k, hk⟩ := List.mem_iff_getElem?.1 hx
  rcases h.own k x hk with h1 | ⟨s, p, c, h1, h2, _⟩ <;> omega
/-- .. and of state K's row, from place a on, the bytes of D. -/
structure SMid (l : List (List UInt8)) (K : Nat) (C : List SCell) (bf : Nat → Nat) (p : List UInt8) (a : Nat) (ks D : List UInt8) : Prop where
  len : C.length ≤ (K + 1) * 256
  put : ∀ s p c, s < K → (statesL l)[s]? = some p → p ++ [c] ∈ statesL l → C[bf s + c.toNat]? = some (s + 1, (statesL l).idxOf (p ++ [c]))
  new : ∀ c ∈ D, C[a + c.toNat]? = some (K + 1, (statesL l).idxOf (p ++ [c]))
  own : ∀ k x, C[k]? = some x → x.1 = 0 ∨ (∃ s p c, s < K ∧ x.1 = s + 1 ∧ (statesL l)[s]? = some p ∧ p ++ [c] ∈ statesL l ∧ k = bf s + c.toNat) ∨ (x.1 = K + 1 ∧ ∃ c ∈ D, k = a + c.toNat)
  free : ∀ c ∈ ks, c ∉ D → ∀ x, C[a + c.toNat]? = some x → x.1 = 0
  at_ : a ≤ K * 256
theorem SInv.mid {l : List (List UInt8)} {K : Nat} {C : List SCell} {bf : Nat → Nat} (h : SInv l K C bf) (p : List UInt8) {a : Nat} {ks : List UInt8} (hf : FreeAt C a ks) (ha : a ≤ C.length) : SMid l K C bf p a ks [] :=
  ⟨by have := h.len; omega, h.put, fun c hc => by simp at hc, fun k x hx => by rcases h.own k x hx with q | q; exact .inl q; exact .inr (.inl q), fun c hc _ x hx => hf c hc x hx, by have := h.len; omega⟩
theorem SMid.le {l : List (List UInt8)} {K : Nat} {C : List SCell} {bf : Nat → Nat} {p : List UInt8} {a : Nat} {ks D : List UInt8} (h : SMid l K C bf p a ks D) : ∀ x ∈ C, x.1 ≤ K + 1 := fun x hx => by
  obtain ⟨k, hk⟩ := List.mem_iff_getElem?.1 hx
  rcases h.own k x hk with h1 | ⟨s, p, c, h1, h2, _⟩ | ⟨h1, _⟩ <;> omega
theorem SMid.step {l : List (List UInt8)} {K : Nat} {C : List SCell} {bf : Nat → Nat} {p : List UInt8} {a : Nat} {ks D : List UInt8} {c : UInt8} (h : SMid l K C bf p a ks D) (hc : c ∈ ks) (hD : c ∉ D) {tn : Nat} (ht : tn = (statesL l).idxOf (p ++ [c])) :
    SMid l K (putL C (a + c.toNat) (K + 1, tn)) bf p a ks (D ++ [c]) := by
  subst ht
  have hcl := c.toNat_lt
  have hat := h.at_
  have old : ∀ (j : Nat) (x : SCell), j ≠ a + c.toNat → C[j]? = some x → (putL C (a + c.toNat) (K + 1, (statesL l).idxOf (p ++ [c])))[j]? = some x := fun j x hj hx => by
    have hl := (List.getElem?_eq_some_iff.1 hx).1
    rw [putL_ne hj (by rw [putL_len]; omega), List.getD_eq_getElem?_getD, hx]
    rfl
  have back : ∀ (j : Nat) (x : SCell), j ≠ a + c.toNat → (putL C (a + c.toNat) (K + 1, (statesL l).idxOf (p ++ [c])))[j]? = some x → C[j]? = some x ∨ x.1 = 0 := fun j x hj hx => by
    have hl := (List.getElem?_eq_some_iff.1 hx).1
    rw [putL_ne hj hl, List.getD_eq_getElem?_getD] at hx
    cases hq : C[j]? with
    | none => rw [hq] at hx; cases hx; exact .inr rfl
    | some y => rw [hq] at hx; cases hx; exact .inl rfl
  refine ⟨?_, fun s q d hs hq hm => ?_, fun d hd => ?_, fun k x hx => ?_, fun d hd hn x hx => ?_, hat⟩
  · rw [putL_len]; have := h.len; omega
  · refine old _ _ (fun e => ?_) (h.put s q d hs hq hm)
    have := h.put s q d hs hq hm
    rw [e] at this
    have := h.free c hc hD _ this
    simp at this
  · rw [List.mem_append] at hd
    rcases hd with hd | hd
    · exact old _ _ (fun e => hD (by have : d = c := UInt8.toNat_inj.1 (by omega); exact this ▸ hd)) (h.new d hd)
    · simp at hd; subst hd; exact putL_at
  · by_cases e : k = a + c.toNat
    · subst e
      rw [putL_at] at hx
      cases hx
      exact .inr (.inr ⟨rfl, c, by simp, rfl⟩)
    · rcases back k x e hx with h1 | h1
      · rcases h.own k x h1 with q | q | ⟨q1, d, hd, q2⟩
        · exact .inl q
        · exact .inr (.inl q)
        · exact .inr (.inr ⟨q1, d, by simp [hd], q2⟩)
      · exact .inl h1
  · have hdc : d ≠ c := fun e => hn (by simp [e])
    rcases back _ x (fun e => hdc (UInt8.toNat_inj.1 (by omega))) hx with h1 | h1
    · exact h.free d hd (fun h2 => hn (by simp [h2])) x h1
    · exact h1
theorem SMid.done {l : List (List UInt8)} {K : Nat} {C : List SCell} {bf : Nat → Nat} {p : List UInt8} {a : Nat} {ks : List UInt8} (h : SMid l K C bf p a ks ks) (hp : (statesL l)[K]? = some p) (hk : ∀ c, c ∈ ks ↔ p ++ [c] ∈ statesL l) : SInv l (K + 1) C (updN bf K a) := by
  refine ⟨h.len, fun s q c hs hq hm => ?_, fun k x hx => ?_⟩
  · by_cases e : s = K
    · subst e
      rw [hp] at hq
      cases hq
      rw [updN_self]
      exact h.new c ((hk c).2 hm)
    · rw [updN_ne e]
      exact h.put s q c (by omega) hq hm
  · rcases h.own k x hx with q | ⟨s, q, c, h1, h2, h3, h4, h5⟩ | ⟨h1, c, hc, h2⟩
    · exact .inl q
    · exact .inr ⟨s, q, c, by omega, h2, h3, h4, by rw [updN_ne (by omega)]; exact h5⟩
    · exact .inr ⟨K, p, c, by omega, h1, hp, (hk c).1 hc, by rw [updN_self]; exact h2⟩
theorem SInv.skip {l : List (List UInt8)} {K : Nat} {C : List SCell} {bf : Nat → Nat} {p : List UInt8} (h : SInv l K C bf) (hp : (statesL l)[K]? = some p) (hk : ∀ c, p ++ [c] ∉ statesL l) : SInv l (K + 1) C bf := by
  refine ⟨by have := h.len; omega, fun s q c hs hq hm => ?_, fun k x hx => ?_⟩
  · by_cases e : s = K
    · subst e
      rw [hp] at hq
      cases hq
      exact absurd hm (hk c)
    · exact h.put s q c (by omega) hq hm
  · rcases h.own k x hx with q | ⟨s, q, c, h1, h2, h3, h4, h5⟩
    · exact .inl q
    · exact .inr ⟨s, q, c, by omega, h2, h3, h4, h5⟩
/-- What stands where a byte's cell would be. -/
theorem SInv.read {l : List (List UInt8)} {K : Nat} {C : List SCell} {bf : Nat → Nat} (h : SInv l K C bf) {s : Nat} {p : List UInt8} {c : UInt8} (hs : s < K) (hp : (statesL l)[s]? = some p) :
    (p ++ [c] ∈ statesL l → C[bf s + c.toNat]? = some (s + 1, (statesL l).idxOf (p ++ [c]))) ∧ (p ++ [c] ∉ statesL l → ∀ x, C[bf s + c.toNat]? = some x → x.1 ≠ s + 1) := by
  refine ⟨h.put s p c hs hp, fun hn x hx e => ?_⟩
  rcases h.own _ x hx with q | ⟨s', q, d, h1, h2, h3, h4, h5⟩
  · omega
  · obtain rfl : s' = s := by omega
    rw [hp] at h3
    cases h3
    have : d = c := UInt8.toNat_inj.1 (by omega)
    subst this
    exact hn h4
/-- The falls. -/
def FfOk (l : List (List UInt8)) (K : Nat) (ff : Nat → Nat) : Prop := ∀ s p, s < K → (statesL l)[s]? = some p → ff s = lsuf (statesL l) p.tail
theorem FfOk.step {l : List (List UInt8)} {K : Nat} {ff : Nat → Nat} {p : List UInt8} (h : FfOk l K ff) (hp : (statesL l)[K]? = some p) : FfOk l (K + 1) (updN ff K (lsuf (statesL l) p.tail)) := fun s q hs hq => by
  by_cases e : s = K
  · subst e
    rw [hp] at hq
    cases hq
    rw [updN_self]
  · rw [updN_ne e]
    exact h s q (by omega) hq

end Go.Proofs.YtkbdfnmeomkpjaaGreat
