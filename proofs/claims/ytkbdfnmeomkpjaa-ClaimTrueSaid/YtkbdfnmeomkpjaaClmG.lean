/- What holds is true, plainly: behind a stream an end that a record covers has no hits but those that it names; no program in sight. -/
import Derived.Test.YtkbdfnmeomkpjaaClmF
import Derived.Test.YtkbdfnmeomkpjaaHg
namespace Go.Proofs.Ytkbdfnmeomkpjaa
open Go.RowKit
set_option linter.unusedVariables false
set_option linter.unusedSimpArgs false

/-- A hit ends within so many ends from here on. -/
def inR (a : Nat) (c : Int) (x : Hg.HitT) : Bool := decide (a ≤ x.1) && decide ((x.1 : Int) < (a : Int) + c)
def namedL (l : List (List UInt8)) (s t : List UInt8) (c : Int) : List Int := ((Hg.allL l (s ++ t)).filter (inR s.length c)).map (fun x => x.2)
theorem all_mem {l : List (List UInt8)} {u : List UInt8} {x : Hg.HitT} (h : x ∈ Hg.allL l u) : x.1 ≤ u.length ∧ ∃ (i : Nat) (y : List UInt8), l[i]? = some y ∧ y <:+ u.take x.1 ∧ x.2 = (i : Int) := by
  unfold Hg.allL Hg.allE at h
  obtain ⟨e, he, hx⟩ := List.mem_flatMap.1 h
  have he := List.mem_range.1 he
  rw [Hg.rowK_hits (by omega)] at hx
  unfold Hg.hitsI at hx
  rw [List.map_map] at hx
  obtain ⟨i, hi, rfl⟩ := List.mem_map.1 hx
  obtain ⟨y, hy, hs⟩ := hitsL_mem.1 hi
  exact ⟨by show e ≤ _; omega, i, y, hy, hs, rfl⟩
theorem rev_suffix {y u : List UInt8} (h : y <:+ u) {d : Nat} (hd : d < y.length) : y.reverse[d]? = u.reverse[d]? := by
  obtain ⟨r, rfl⟩ := h
  rw [List.reverse_append, List.getElem?_append_left (by simpa using hd)]
theorem rev_take {s t : List UInt8} {j d : Nat} (hj : j ≤ t.length) : ((s ++ t).take (s.length + j)).reverse[j + d]? = s.reverse[d]? := by
  rw [List.take_append, List.take_of_length_le (by omega), Nat.add_sub_cancel_left, List.reverse_append, List.getElem?_append_right (by simp; omega)]
  congr 1
  simp
  omega
/-- None of those is named if none of the patterns can end there. -/
theorem named_none {l : List (List UInt8)} {s t : List UInt8} {c : Int} (h : ∀ (j : Nat) (y : List UInt8), (j : Int) < c → j ≤ t.length → y ∈ l → ¬ y <:+ (s ++ t).take (s.length + j)) : namedL l s t c = [] := by
  unfold namedL
  rw [List.map_eq_nil_iff, List.filter_eq_nil_iff]
  intro x hx hr
  unfold inR at hr
  rw [Bool.and_eq_true, decide_eq_true_iff, decide_eq_true_iff] at hr
  obtain ⟨h1, i, y, hy, hs, _⟩ := all_mem hx
  rw [List.length_append] at h1
  refine h (x.1 - s.length) y (by omega) (by omega) (List.mem_of_getElem? hy) ?_
  rw [show s.length + (x.1 - s.length) = x.1 by omega]
  exact hs
theorem flat_one {α : Type} (f : Nat → List α) (k : Nat) : ∀ N, (∀ e, e < N → e ≠ k → f e = []) → (List.range N).flatMap f = if k < N then f k else []
  | 0, _ => by simp
  | N + 1, h => by
    rw [List.range_succ, List.flatMap_append, flat_one f k N (fun e he hne => h e (by omega) hne)]
    by_cases hk : k < N
    · rw [if_pos hk, if_pos (by omega)]
      have := h N (by omega) (by omega)
      simp [this]
    · rw [if_neg hk]
      by_cases hkN : k = N
      · subst hkN; rw [if_pos (by omega)]; simp
      · rw [if_neg (by omega)]
        have := h N (by omega) (fun e => hkN e.symm)
        simp [this]
/-- Of one end those that end there are named. -/
theorem named_one (l : List (List UInt8)) (s t : List UInt8) : namedL l s t 1 = (hitsL l s).map (fun (i : Nat) => (i : Int)) := by
  unfold namedL Hg.allL Hg.allE
  rw [List.filter_flatMap, flat_one _ s.length]
  · rw [if_pos (by rw [List.length_append]; omega), Hg.rowK_hits (by rw [List.length_append]; omega), List.take_left']
    · unfold Hg.hitsI
      rw [List.map_map, List.filter_eq_self.2]
      · rw [List.map_map]
        rfl
      · intro x hx
        obtain ⟨i, _, rfl⟩ := List.mem_map.1 hx
        unfold inR
        rw [decide_eq_true (by show s.length ≤ s.length; exact Nat.le_refl _), Bool.true_and, decide_eq_true_iff]
        show (s.length : Int) < (s.length : Int) + 1
        omega
    · rfl
  · intro e he hne
    rw [List.filter_eq_nil_iff]
    intro x hx hr
    unfold Hg.rowK at hx
    obtain ⟨i, _, rfl⟩ := List.mem_map.1 hx
    unfold inR at hr
    rw [Bool.and_eq_true, decide_eq_true_iff, decide_eq_true_iff] at hr
    have h1 : s.length ≤ e := hr.1
    have h2 : (e : Int) < (s.length : Int) + 1 := hr.2
    omega
/-- WHAT HOLDS IS TRUE. -/
theorem holds_true {lp : List ByteArray} {s t : List UInt8} {kind n : Int} {zs : List Int} (hne : ∀ y ∈ bl lp, y ≠ []) (hml : ∀ y ∈ bl lp, minL lp ≤ y.length) (h : hoB lp s kind n zs = true) : 1 ≤ coV kind n ∧ namedL (bl lp) s t (coV kind n) = zs := by
  unfold hoB at h
  by_cases hs : s = []
  · rw [if_pos hs] at h; cases h
  rw [if_neg hs] at h
  by_cases hb : zs ≠ [] ∧ kind ≠ 4
  · rw [if_pos hb] at h; cases h
  rw [if_neg hb] at h
  have hz : kind ≠ 4 → zs = [] := fun h4 => Classical.byContradiction fun e => hb ⟨e, h4⟩
  clear hb
  by_cases h1 : kind = 1
  · subst h1
    rw [if_pos rfl] at h
    unfold skB at h
    cases hc : s.reverse[0]? with
    | none => rw [hc] at h; cases h
    | some c =>
      rw [hc] at h
      have h : skipB (bl lp) (minL lp) c n = true := h
      unfold skipB at h
      rw [Bool.and_eq_true, Bool.and_eq_true, decide_eq_true_iff, decide_eq_true_iff, Bool.not_eq_true', List.any_eq_false] at h
      obtain ⟨⟨n1, n2⟩, hno⟩ := h
      have e : coV 1 n = n := by unfold coV; rw [if_pos (.inl rfl), if_neg (by omega)]
      rw [e, hz (by decide)]
      refine ⟨n1, named_none fun j y hj hjt hy hsuf => ?_⟩
      have hyl := hml y hy
      refine hno j (List.mem_range.2 (by omega)) ?_
      unfold hasD
      rw [List.any_eq_true]
      refine ⟨y, hy, decide_eq_true ?_⟩
      rw [rev_suffix hsuf (by omega)]
      have := rev_take (s := s) (d := 0) hjt
      rw [Nat.add_zero] at this
      rw [this, hc]
  rw [if_neg h1] at h
  by_cases h2 : kind = 2
  · subst h2
    rw [if_pos rfl] at h
    unfold leB at h
    cases hc : s.reverse[0]? with
    | none => rw [hc] at h; cases h
    | some b =>
      cases ha : s.reverse[1]? with
      | none => rw [hc, ha] at h; cases h
      | some a =>
        rw [hc, ha] at h
        have h : leapB (bl lp) (minL lp) a b n = true := h
        unfold leapB at h
        rw [Bool.and_eq_true, Bool.and_eq_true, decide_eq_true_iff, decide_eq_true_iff, Bool.not_eq_true', List.any_eq_false] at h
        obtain ⟨⟨n1, n2⟩, hno⟩ := h
        have e : coV 2 n = n := by unfold coV; rw [if_pos (.inr rfl), if_neg (by omega)]
        rw [e, hz (by decide)]
        refine ⟨n1, named_none fun j y hj hjt hy hsuf => ?_⟩
        have hyl := hml y hy
        refine hno j (List.mem_range.2 (by omega)) ?_
        unfold hasP
        rw [List.any_eq_true]
        refine ⟨y, hy, decide_eq_true ⟨?_, ?_⟩⟩
        · rw [rev_suffix hsuf (by omega)]
          have := rev_take (s := s) (d := 0) hjt
          rw [Nat.add_zero] at this
          rw [this, hc]
        · rw [rev_suffix hsuf (by omega), rev_take hjt, ha]
  rw [if_neg h2] at h
  by_cases h3 : kind = 3
  · subst h3
    rw [if_pos rfl] at h
    have e : coV 3 n = 1 := rfl
    rw [e, hz (by decide), named_one]
    refine ⟨by decide, ?_⟩
    rw [List.map_eq_nil_iff, List.eq_nil_iff_forall_not_mem]
    intro i hi
    obtain ⟨y, hy, hsuf⟩ := hitsL_mem.1 hi
    have hyne := hne y (List.mem_of_getElem? hy)
    have hil := (List.getElem?_eq_some_iff.1 hy).1
    have hg : (bl lp).getD i [] = y := by rw [List.getD_eq_getElem?_getD, hy]; rfl
    unfold msB at h
    cases hc : s.reverse[0]? with
    | none => rw [hc] at h; cases h
    | some c =>
      rw [hc] at h
      have h : (decide (1 ≤ n) && (endK (bl lp) c.toNat (bl lp).length).all (fun i => refB (bl lp) s i n.toNat)) = true := h
      rw [Bool.and_eq_true, decide_eq_true_iff, List.all_eq_true] at h
      have hm : i ∈ endK (bl lp) c.toNat (bl lp).length := by
        unfold endK
        rw [List.mem_filter]
        refine ⟨List.mem_range.2 hil, decide_eq_true ?_⟩
        rw [hg, sfx_last hyne hsuf, hc]
        simp
      have hr := h.2 i hm
      unfold refB at hr
      rw [hg, Bool.or_eq_true, Bool.and_eq_true, decide_eq_true_iff, decide_eq_true_iff, decide_eq_true_iff] at hr
      rcases hr with hr | ⟨hr1, hr2⟩
      · have := hsuf.length_le; omega
      · exact hr2 (rev_suffix hsuf hr1)
  rw [if_neg h3] at h
  by_cases h4 : kind = 4
  · subst h4
    rw [if_pos rfl, Bool.and_eq_true, decide_eq_true_iff, decide_eq_true_iff] at h
    have e : coV 4 n = 1 := rfl
    rw [e, named_one, h.2, idB_hits hne]
    exact ⟨by decide, rfl⟩
  · rw [if_neg h4] at h; cases h
end Go.Proofs.Ytkbdfnmeomkpjaa
