/- The sort at uint16 of at most twelve numbers, and what Compact leaves of a sorted list; no condition but the sizes. -/
import Derived.Test.YtkbdfnmeomkpjaaGreatGrdJ
import Derived.Lib.SlicesCompact
namespace Go.Proofs.YtkbdfnmeomkpjaaGreat
open Go.RowKit Go.Sort
set_option linter.unusedVariables false
set_option linter.unusedSimpArgs false
set_option maxRecDepth 100000

def u16Vs (L : List Nat) : List Value := L.map (fun y : Nat => Value.int .u16 (y : Int))
theorem u16Vs_len (L : List Nat) : (u16Vs L).length = L.length := by simp [u16Vs]
theorem u16Vs_at {L : List Nat} {k y : Nat} (h : L[k]? = some y) : (u16Vs L)[k]? = some (.int .u16 (y : Int)) := by
  unfold u16Vs; rw [List.getElem?_map, h]; rfl
def castA (L : List Nat) : Array Int := (L.map (fun y : Nat => (y : Int))).toArray
theorem castA_size (L : List Nat) : (castA L).size = L.length := by simp [castA]
theorem castA_at {L : List Nat} {j y : Nat} (h : L[j]? = some y) : (castA L)[j]! = (y : Int) := by
  obtain ⟨h1, h2⟩ := List.getElem?_eq_some_iff.1 h
  have hj : j < (castA L).size := by rw [castA_size]; exact h1
  rw [getElem!_pos _ j hj]
  simp [castA, h2]
theorem Row.holds {w : World} {t : TypeId} {b cap n : Nat} {L : List Nat} (h : Row w t 1 (.slice (some ⟨b, 0, none⟩) n cap) n (u16Vs L)) : Holds (Value.int .u16) w b 0 (castA L) := by
  intro j hj
  rw [castA_size] at hj
  have hy := List.getElem?_eq_getElem hj
  rw [castA_at hy, Nat.zero_add]
  exact ⟨h.cell (u16Vs_at hy), h.free⟩
theorem Row.putRow_ {w : World} {t : TypeId} {b cap n : Nat} {xs : List Value} (h : Row w t 1 (.slice (some ⟨b, 0, none⟩) n cap) n xs) (q : Nat) (d : Array Int) (hd : d.size = n) :
    Row (putRow (Value.int .u16) (Sort.ahead w q) b 0 d) t 1 (.slice (some ⟨b, 0, none⟩) n cap) n (d.toList.map (Value.int .u16)) := by
  refine ⟨by simp [hd], ?_⟩
  rcases h.2 with ⟨h2, _⟩ | ⟨g, cap', cur, hv, hg, hh, hnc, hm, hz, ht⟩
  · cases h2
  · injection hv with h3 _ h5
    injection h3 with h3
    injection h3 with h3
    subst h3; subst h5
    refine .inr ⟨b, cap, putCells (Value.int .u16) 0 d cur, rfl, hg, ?_, hnc, hm, by simp [putCells, hz], ?_⟩
    · simp [putRow, mapBlock, Sort.ahead, Array.getElem?_modify, hh, onCells]
    · subst hd
      apply List.ext_getElem?
      intro j
      by_cases hj : j < d.size
      · rw [List.getElem?_take_of_lt (by omega), Array.getElem?_toList]
        simp [putCells, hj, show j < cur.size by omega]
      · rw [List.getElem?_take_eq_none (by omega), List.getElem?_eq_none (by simp; omega)]
theorem Keeps.putRow_ (w : World) (b q : Nat) (d : Array Int) : Keeps (fun x => x = b) w (putRow (Value.int .u16) (Sort.ahead w q) b 0 d) := by
  refine ⟨rfl, rfl, rfl, by simp [putRow, mapBlock, Sort.ahead], fun k hk hne => ?_⟩
  have : b ≠ k := fun e => hne e.symm
  simp [putRow, mapBlock, Sort.ahead, Array.getElem?_modify, this]

set_option maxHeartbeats 2000000 in
theorem pdq16_ (blk off cap a b : Nat) (lim : Int) (d : Array Int) (w : World) (hH : Holds (Value.int .u16) w blk off d) (hab : a ≤ b) (hb : b ≤ d.size) (hsz : d.size < 4611686018427387904) (h12 : b - a ≤ 12) :
    Calls Tryz.prog 84 #[.slice (some ⟨blk, off, none⟩) d.size cap, .int .i64 a, .int .i64 b, .int .i64 lim] w fun e w' => e = .returned (.tuple #[]) ∧ ∃ n, w' = putRow (Value.int .u16) (Sort.ahead w n) blk off (Sort.insertionSort ltInt d a b) := by
  have HI := Lib.hid (isort16_ blk off cap a b d w hH hab hb hsz)
  clear hH
  go_enter Tryz.func84, Tryz.ntmps84
  go_wp2_with fail
  refine wp_loop_rounds 1 ?_
  rw [rounds_succ]
  go_wp2_with (go_at_call 108; refine HI.out.mono ?_; rintro e w' ⟨rfl, n, rfl⟩)
  (try simp only [Exit.inBlock, Exit.then])
  refine bodyPost_ret (results_none rfl _ _ _) rfl ?_
  exact ⟨rfl, n, rfl⟩
set_option maxHeartbeats 2000000 in
theorem sort16_ (blk off cap : Nat) (d : Array Int) (w : World) (hH : Holds (Value.int .u16) w blk off d) (h12 : d.size ≤ 12) :
    Calls Tryz.prog 58 #[.slice (some ⟨blk, off, none⟩) d.size cap] w fun e w' => e = .returned (.tuple #[]) ∧ ∃ n, w' = putRow (Value.int .u16) (Sort.ahead w n) blk off (Sort.insertionSort ltInt d 0 d.size) := by
  have HP := Lib.hid (fun lim => pdq16_ blk off cap 0 d.size lim d w hH (Nat.zero_le _) (Nat.le_refl _) (by omega) (by omega))
  have HL := Lib.hid (fun (w : World) => Tryz.bits_Len (d.size : Int) w (by omega) (by omega))
  clear hH
  go_enter Tryz.func58, Tryz.ntmps58
  go_wp2_with fail
  refine (HL.out _).mono ?_
  rintro e w' ⟨rfl, rfl⟩
  go_wp2_with (go_at_call 84; refine (HP.out _).mono ?_; rintro e w' ⟨rfl, n, rfl⟩)
  go_end0
  exact ⟨rfl, n, rfl⟩

theorem swo_ltInt : SWO ltInt := ⟨fun x => by simp [ltInt], fun x y z h1 h2 => by simp [ltInt] at *; omega, fun x y z h1 h2 => by simp [ltInt] at *; omega⟩
/-- What the sort makes of a list of numbers. -/
theorem sort_plain (L : List Nat) : ∃ L' : List Nat, Sort.insertionSort ltInt (castA L) 0 L.length = castA L' ∧ L'.Perm L ∧ L'.Pairwise (· ≤ ·) := by
  obtain ⟨⟨h1, _, h3⟩, h4⟩ := insertionSort_holds (lt := ltInt) swo_ltInt (castA L) 0 L.length (Nat.zero_le _) (by rw [castA_size]; exact Nat.le_refl _)
  generalize Sort.insertionSort ltInt (castA L) 0 L.length = d at *
  rw [castA_size] at h1
  rw [show d.extract 0 L.length = d by rw [← h1]; exact Array.extract_size, show (castA L).extract 0 L.length = castA L by rw [← castA_size L]; exact Array.extract_size] at h3
  have hnn : ∀ x ∈ d.toList, ∃ y : Nat, x = (y : Int) := fun x hx => by
    have := h3.mem_iff.1 hx
    simp [castA] at this
    obtain ⟨a, _, e⟩ := this
    exact ⟨a, e.symm⟩
  have e : d = castA (d.toList.map Int.toNat) := by
    unfold castA
    rw [List.map_map]
    apply Array.ext'
    rw [List.map_congr_left (g := id) (fun x hx => by obtain ⟨y, rfl⟩ := hnn x hx; simp)]
    simp
  refine ⟨d.toList.map Int.toNat, e, ?_, ?_⟩
  · have := h3.map Int.toNat
    refine this.trans ?_
    unfold castA
    rw [List.map_map]
    rw [List.map_congr_left (g := id) (fun x _ => by simp)]
    simp
  · rw [List.pairwise_iff_getElem]
    intro i j hi hj hij
    have := h4 i j (Nat.zero_le _) hij (by simp at hj; omega)
    rw [e] at this
    rw [castA_at (List.getElem?_eq_getElem hi), castA_at (List.getElem?_eq_getElem hj)] at this
    simp only [ltInt, decide_eq_false_iff_not] at this
    omega
theorem castA_vals (L : List Nat) : (castA L).toList.map (Value.int .u16) = u16Vs L := by simp [castA, u16Vs]
set_option maxHeartbeats 1000000 in
theorem srt16_ (b cap : Nat) (L : List Nat) (w : World) (h : Row w 90 1 (.slice (some ⟨b, 0, none⟩) L.length cap) L.length (u16Vs L)) (hn : L.length ≤ 12) :
    Calls Tryz.prog 58 #[.slice (some ⟨b, 0, none⟩) L.length cap] w fun e w' => e = .returned (.tuple #[]) ∧ ∃ L' : List Nat, L'.Perm L ∧ L'.Pairwise (· ≤ ·) ∧ Row w' 90 1 (.slice (some ⟨b, 0, none⟩) L'.length cap) L'.length (u16Vs L') ∧ Keeps (fun x => x = b) w w' := by
  obtain ⟨L', e1, e2, e3⟩ := sort_plain L
  have hl := e2.length_eq
  have := sort16_ b 0 cap (castA L) w h.holds (by rw [castA_size]; exact hn)
  rw [castA_size] at this
  refine this.mono ?_
  rintro e w' ⟨rfl, q, rfl⟩
  refine ⟨rfl, L', e2, e3, ?_, Keeps.putRow_ _ _ _ _⟩
  rw [e1, hl, ← castA_vals L']
  exact h.putRow_ q (castA L') (by rw [castA_size, hl])

open Go.Lib in
theorem comp_upto (L : List Nat) (hs : L.Pairwise (· ≤ ·)) : ∀ m, m ≤ L.length → ∃ M : List Nat, compactUpTo (castA L) m = M.map (fun y : Nat => (y : Int)) ∧ M.Pairwise (· < ·) ∧ (∀ y, y ∈ M ↔ ∃ j, j < m ∧ L[j]? = some y) ∧ M.length ≤ m
  | 0, _ => ⟨[], rfl, List.Pairwise.nil, fun y => ⟨fun h => (by cases h), fun ⟨j, h, _⟩ => (by omega)⟩, Nat.le_refl _⟩
  | m + 1, hm => by
    obtain ⟨M, h1, h2, h3, h4⟩ := comp_upto L hs m (by omega)
    obtain ⟨x, hx⟩ : ∃ x, L[m]? = some x := ⟨_, List.getElem?_eq_getElem (by omega)⟩
    rw [compactUpTo_succ, h1, castA_at hx]
    by_cases hk : keeps (castA L) m = true
    · rw [if_pos hk]
      refine ⟨M ++ [x], by simp, ?_, fun y => ?_, by simp; omega⟩
      · rw [List.pairwise_append]
        refine ⟨h2, List.pairwise_singleton _ _, fun a ha c hc => ?_⟩
        simp at hc
        subst hc
        obtain ⟨j, hj, hja⟩ := (h3 a).1 ha
        have hm0 : m ≠ 0 := by omega
        obtain ⟨z, hz⟩ : ∃ z, L[m - 1]? = some z := ⟨_, List.getElem?_eq_getElem (by omega)⟩
        have hne : c ≠ z := by
          intro e
          subst e
          simp [keeps, hm0, castA_at hx, castA_at hz] at hk
        obtain ⟨a1, a2⟩ := List.getElem?_eq_some_iff.1 hja
        obtain ⟨c1, c2⟩ := List.getElem?_eq_some_iff.1 hx
        obtain ⟨z1, z2⟩ := List.getElem?_eq_some_iff.1 hz
        have hzc := List.pairwise_iff_getElem.1 hs (m - 1) m z1 c1 (by omega)
        rw [z2, c2] at hzc
        by_cases he : j = m - 1
        · subst he
          rw [hz] at hja
          injection hja with hja
          omega
        · have := List.pairwise_iff_getElem.1 hs j (m - 1) a1 z1 (by omega)
          rw [a2, z2] at this
          omega
      · rw [List.mem_append, h3]
        constructor
        · rintro (⟨j, hj, e⟩ | e)
          · exact ⟨j, by omega, e⟩
          · simp at e; subst e; exact ⟨m, by omega, hx⟩
        · rintro ⟨j, hj, e⟩
          by_cases he : j = m
          · subst he; rw [hx] at e; injection e with e; subst e; right; simp
          · exact .inl ⟨j, by omega, e⟩
    · rw [if_neg hk]
      refine ⟨M, by simp, h2, fun y => ?_, by omega⟩
      rw [h3]
      constructor
      · rintro ⟨j, hj, e⟩; exact ⟨j, by omega, e⟩
      · rintro ⟨j, hj, e⟩
        by_cases he : j = m
        · subst he
          have hj0 : j ≠ 0 := fun e0 => by subst e0; simp [keeps] at hk
          obtain ⟨z, hz⟩ : ∃ z, L[j - 1]? = some z := ⟨_, List.getElem?_eq_getElem (by omega)⟩
          refine ⟨j - 1, by omega, ?_⟩
          rw [hz]
          rw [hx] at e
          injection e with e
          simp [keeps, hj0, castA_at hx, castA_at hz] at hk
          rw [← e]
          exact congrArg some (by omega)
        · exact ⟨j, by omega, e⟩
open Go.Lib in
theorem comp_plain (L : List Nat) (hs : L.Pairwise (· ≤ ·)) : ∃ M : List Nat, compactUpTo (castA L) (castA L).size = M.map (fun y : Nat => (y : Int)) ∧ M.Pairwise (· < ·) ∧ (∀ y, y ∈ M ↔ y ∈ L) ∧ M.length ≤ L.length := by
  obtain ⟨M, h1, h2, h3, h4⟩ := comp_upto L hs L.length (Nat.le_refl _)
  refine ⟨M, by rw [castA_size]; exact h1, h2, fun y => ?_, h4⟩
  rw [h3]
  constructor
  · rintro ⟨j, _, e⟩; exact List.mem_of_getElem? e
  · intro h
    obtain ⟨j, hj, e⟩ := List.getElem_of_mem h
    exact ⟨j, hj, by rw [List.getElem?_eq_getElem hj, e]⟩
end Go.Proofs.YtkbdfnmeomkpjaaGreat
