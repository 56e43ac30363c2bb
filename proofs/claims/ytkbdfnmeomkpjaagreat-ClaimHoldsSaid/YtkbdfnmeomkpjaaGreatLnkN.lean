/- How the states of a trie are made, one behind the other, plainly; no condition, no program in sight. -/
import Derived.Test.YtkbdfnmeomkpjaaGreatLnkM
namespace Go.Proofs.YtkbdfnmeomkpjaaGreat
set_option linter.unusedVariables false
set_option linter.unusedSimpArgs false

/-- A state, as the program keeps it. -/
structure TSt where
  above : Int
  by_ : UInt8
  depth : Nat
  id : Int
  first : Nat
  many : Nat
def tst0 : TSt := ⟨-1, 0, 0, -1, 0, 0⟩
/-- The patterns that begin with p are those from f to t. -/
structure Rng (l : List (List UInt8)) (p : List UInt8) (f t : Nat) : Prop where
  le : f ≤ t
  hi : t ≤ l.length
  mem : ∀ i x, l[i]? = some x → (p <+: x ↔ f ≤ i ∧ i < t)
/-- Groups that go on alike, from a to b. -/
structure Tile (l : List (List UInt8)) (d hi a b : Nat) (gs : List (UInt8 × Nat × Nat)) : Prop where
  le : a ≤ b
  each : ∀ g ∈ gs, a ≤ g.2.1 ∧ g.2.1 < g.2.2 ∧ g.2.2 ≤ b ∧ (∀ i x, l[i]? = some x → g.2.1 ≤ i → i < g.2.2 → x[d]? = some g.1) ∧ (g.2.2 < hi → ∀ x, l[g.2.2]? = some x → x[d]? ≠ some g.1)
  cover : ∀ i, a ≤ i → i < b → ∃ g ∈ gs, g.2.1 ≤ i ∧ i < g.2.2
  ord : gs.Pairwise (fun g g' => g.2.2 ≤ g'.2.1)
theorem Tile.start (l : List (List UInt8)) (d hi a : Nat) : Tile l d hi a a [] :=
  ⟨Nat.le_refl _, fun g hg => (List.not_mem_nil hg).elim, fun i h1 h2 => by omega, List.Pairwise.nil⟩
theorem Tile.snoc {l : List (List UInt8)} {d hi a b t : Nat} {gs : List (UInt8 × Nat × Nat)} {c : UInt8} (h : Tile l d hi a b gs) (hb : b < t) (hc : ∀ i x, l[i]? = some x → b ≤ i → i < t → x[d]? = some c) (hm : t < hi → ∀ x, l[t]? = some x → x[d]? ≠ some c) :
    Tile l d hi a t (gs ++ [(c, b, t)]) := by
  refine ⟨by have := h.le; omega, fun g hg => ?_, fun i h1 h2 => ?_, ?_⟩
  · rcases List.mem_append.1 hg with hg | hg
    · obtain ⟨e1, e2, e3, e4, e5⟩ := h.each g hg
      exact ⟨e1, e2, by omega, e4, e5⟩
    · rw [List.mem_singleton] at hg
      subst hg
      exact ⟨h.le, hb, Nat.le_refl _, hc, hm⟩
  · rcases Nat.lt_or_ge i b with h3 | h3
    · obtain ⟨g, hg, h4⟩ := h.cover i h1 h3
      exact ⟨g, by simp [hg], h4⟩
    · exact ⟨(c, b, t), by simp, h3, h2⟩
  · rw [List.pairwise_append]
    refine ⟨h.ord, by simp, fun g hg g' hg' => ?_⟩
    rw [List.mem_singleton] at hg'
    subst hg'
    exact (h.each g hg).2.2.1

theorem pre_split {p x : List UInt8} (h : p <+: x) {c : UInt8} (hc : x[p.length]? = some c) : ∃ r, x = p ++ c :: r := by
  obtain ⟨t, rfl⟩ := h
  rw [List.getElem?_append_right (Nat.le_refl _), Nat.sub_self] at hc
  cases t with
  | nil => simp at hc
  | cons d t => simp at hc; subst hc; exact ⟨t, rfl⟩
/-- Bytes behind a common beginning do not fall. -/
theorem byte_mono {l : List (List UInt8)} (hl : l.Pairwise (· < ·)) {p x y : List UInt8} {i j : Nat} (hx : l[i]? = some x) (hy : l[j]? = some y) (hij : i < j) (hpx : p <+: x) (hpy : p <+: y) {c d : UInt8} (hc : x[p.length]? = some c) (hd : y[p.length]? = some d) : c.toNat ≤ d.toNat := by
  obtain ⟨hi, rfl⟩ := List.getElem?_eq_some_iff.1 hx
  obtain ⟨hj, rfl⟩ := List.getElem?_eq_some_iff.1 hy
  have h := (List.pairwise_iff_getElem.1 hl) i j hi hj hij
  obtain ⟨r, e1⟩ := pre_split hpx hc
  obtain ⟨s, e2⟩ := pre_split hpy hd
  rw [e1, e2, lt_app, List.cons_lt_cons_iff] at h
  rcases h with h | ⟨e, _⟩
  · rw [UInt8.lt_iff_toNat_lt] at h; omega
  · rw [e]; exact Nat.le_refl _
/-- Where the groups begin: behind the pattern that the state is. -/
def skipF (l : List (List UInt8)) (p : List UInt8) (f t : Nat) : Nat := if f < t ∧ l[f]? = some p then f + 1 else f
theorem first_is {l : List (List UInt8)} (hl : l.Pairwise (· < ·)) {p : List UInt8} {f t j : Nat} (h : Rng l p f t) (hj : l[j]? = some p) : j = f ∧ f < t := by
  obtain ⟨h1, h2⟩ := (h.mem j p hj).1 (List.prefix_refl p)
  refine ⟨?_, by omega⟩
  rcases Nat.lt_or_ge f j with h3 | h3
  · have hfl : f < l.length := by have := h.hi; omega
    have hf := List.getElem?_eq_getElem hfl
    have hp := (h.mem f _ hf).2 ⟨Nat.le_refl _, by omega⟩
    obtain ⟨hjl, e⟩ := List.getElem?_eq_some_iff.1 hj
    have h4 := (List.pairwise_iff_getElem.1 hl) f j hfl hjl h3
    rw [e] at h4
    obtain ⟨r, hr⟩ := hp
    rw [← hr] at h4
    have : p ++ r < p ++ [] := by rwa [List.append_nil]
    rw [lt_app] at this
    exact absurd this (List.not_lt_nil r)
  · omega
theorem skip_le {l : List (List UInt8)} {p : List UInt8} {f t : Nat} (h : f ≤ t) : f ≤ skipF l p f t ∧ skipF l p f t ≤ t := by
  unfold skipF; split <;> omega
/-- Behind it all patterns go on. -/
theorem goes_on {l : List (List UInt8)} (hl : l.Pairwise (· < ·)) {p : List UInt8} {f t i : Nat} {x : List UInt8} (h : Rng l p f t) (hx : l[i]? = some x) : (p <+: x ∧ p.length < x.length) ↔ skipF l p f t ≤ i ∧ i < t := by
  constructor
  · rintro ⟨h1, h2⟩
    obtain ⟨h3, h4⟩ := (h.mem i x hx).1 h1
    refine ⟨?_, h4⟩
    unfold skipF
    split
    · rename_i hf
      rcases Nat.eq_or_lt_of_le h3 with e | e
      · subst e
        rw [hf.2] at hx
        cases hx
        omega
      · omega
    · exact h3
  · rintro ⟨h1, h2⟩
    have h3 := (skip_le (l := l) (p := p) h.le).1
    have h4 := (h.mem i x hx).2 ⟨by omega, h2⟩
    refine ⟨h4, ?_⟩
    rcases Nat.lt_or_ge p.length x.length with h5 | h5
    · exact h5
    · have e : p = x := h4.eq_of_length (Nat.le_antisymm h4.length_le h5)
      subst e
      obtain ⟨rfl, h6⟩ := first_is hl h hx
      unfold skipF at h1
      rw [if_pos ⟨h6, hx⟩] at h1
      omega
section
variable {l : List (List UInt8)} (hl : l.Pairwise (· < ·)) {p : List UInt8} {f t : Nat} (h : Rng l p f t) {gs : List (UInt8 × Nat × Nat)} (hT : Tile l p.length t (skipF l p f t) t gs)
include hl h hT
theorem tile_rise : gs.Pairwise (fun g g' => g.1.toNat < g'.1.toNat) := by
  refine List.Pairwise.imp_of_mem ?_ hT.ord
  intro g g' hg hg' ho
  obtain ⟨a1, a2, a3, a4, a5⟩ := hT.each g hg
  obtain ⟨b1, b2, b3, b4, b5⟩ := hT.each g' hg'
  have hlen := h.hi
  have hm := List.getElem?_eq_getElem (l := l) (i := g.2.2) (by omega)
  have hm' := List.getElem?_eq_getElem (l := l) (i := g'.2.1) (by omega)
  have hq := (goes_on hl h hm).2 ⟨by omega, by omega⟩
  have hq' := (goes_on hl h hm').2 ⟨by omega, by omega⟩
  have hc' := b4 _ _ hm' (Nat.le_refl _) b2
  have hc : (l[g.2.2]'(by omega))[p.length]? = some ((l[g.2.2]'(by omega))[p.length]'hq.2) := List.getElem?_eq_getElem hq.2
  have hne := a5 (by omega) _ hm
  have hg1 := List.getElem?_eq_getElem (l := l) (i := g.2.1) (by omega)
  have hp1 := (goes_on hl h hg1).2 ⟨by omega, by omega⟩
  have h1 := byte_mono hl hg1 hm (by omega) hp1.1 hq.1 (a4 _ _ hg1 (Nat.le_refl _) a2) hc
  have h2 : (l[g.2.2]'(by omega))[p.length].toNat ≤ g'.1.toNat := by
    rcases Nat.eq_or_lt_of_le ho with e | e
    · have h9 : (l[g.2.2]'(by omega))[p.length]? = some g'.1 := by
        have := hc'
        simp only [← e] at this
        exact this
      rw [hc] at h9
      exact Nat.le_of_eq (congrArg UInt8.toNat (Option.some.inj h9))
    · exact byte_mono hl hm hm' e hq.1 hq'.1 hc hc'
  have h3 : g.1.toNat ≠ (l[g.2.2]'(by omega))[p.length].toNat := fun e => hne (by rw [hc, UInt8.toNat_inj.1 e])
  omega
theorem tile_same {g g' : UInt8 × Nat × Nat} (hg : g ∈ gs) (hg' : g' ∈ gs) (e : g.1 = g'.1) : g = g' := by
  obtain ⟨i, hi, rfl⟩ := List.mem_iff_getElem.1 hg
  obtain ⟨j, hj, rfl⟩ := List.mem_iff_getElem.1 hg'
  have hr := tile_rise hl h hT
  rcases Nat.lt_trichotomy i j with h1 | h1 | h1
  · have := (List.pairwise_iff_getElem.1 hr) i j hi hj h1
    rw [e] at this
    omega
  · subst h1; rfl
  · have := (List.pairwise_iff_getElem.1 hr) j i hj hi h1
    rw [e] at this
    omega
theorem tile_rng {g : UInt8 × Nat × Nat} (hg : g ∈ gs) : Rng l (p ++ [g.1]) g.2.1 g.2.2 := by
  obtain ⟨a1, a2, a3, a4, a5⟩ := hT.each g hg
  refine ⟨by omega, by have := h.hi; omega, fun i x hx => ⟨fun hp => ?_, fun hi => ?_⟩⟩
  · have h1 : p <+: x := (List.prefix_append p _).trans hp
    have h2 : p.length < x.length := by have := hp.length_le; simp at this; omega
    obtain ⟨h3, h4⟩ := (goes_on hl h hx).1 ⟨h1, h2⟩
    obtain ⟨g', hg', h5⟩ := hT.cover i h3 h4
    have h6 := (hT.each g' hg').2.2.2.1 i x hx h5.1 h5.2
    obtain ⟨r, rfl⟩ := hp
    rw [List.append_assoc, List.getElem?_append_right (Nat.le_refl _), Nat.sub_self] at h6
    simp at h6
    rw [tile_same hl h hT hg hg' h6]
    exact h5
  · have h1 := (goes_on hl h hx).2 ⟨by omega, by omega⟩
    obtain ⟨r, rfl⟩ := pre_split h1.1 (a4 i x hx hi.1 hi.2)
    exact ⟨r, by simp⟩
theorem tile_kid {c : UInt8} : IsSt l (p ++ [c]) ↔ ∃ g ∈ gs, g.1 = c := by
  constructor
  · rintro (e | ⟨x, hx, hp⟩)
    · simp at e
    · obtain ⟨i, hi⟩ := List.mem_iff_getElem?.1 hx
      have h1 : p <+: x := (List.prefix_append p _).trans hp
      have h2 : p.length < x.length := by have := hp.length_le; simp at this; omega
      obtain ⟨h3, h4⟩ := (goes_on hl h hi).1 ⟨h1, h2⟩
      obtain ⟨g', hg', h5⟩ := hT.cover i h3 h4
      have h6 := (hT.each g' hg').2.2.2.1 i x hi h5.1 h5.2
      obtain ⟨r, rfl⟩ := hp
      rw [List.append_assoc, List.getElem?_append_right (Nat.le_refl _), Nat.sub_self] at h6
      simp at h6
      exact ⟨g', hg', h6.symm⟩
  · rintro ⟨g, hg, rfl⟩
    obtain ⟨a1, a2, a3, a4, a5⟩ := hT.each g hg
    have hlen := h.hi
    have hm := List.getElem?_eq_getElem (l := l) (i := g.2.1) (by omega)
    exact .inr ⟨_, List.mem_of_getElem? hm, ((tile_rng hl h hT hg).mem _ _ hm).2 ⟨Nat.le_refl _, a2⟩⟩
end

/-- What holds while the states are made: k of them are through. -/
structure BI (l P : List (List UInt8)) (S : List TSt) (k : Nat) (J : List (Nat × Nat × Nat)) : Prop where
  len : S.length = P.length
  zero : P[0]? = some []
  root : ∀ (s : TSt), S[0]? = some s → s.above = -1 ∧ s.by_ = 0
  srt : P.Pairwise slt
  mem : ∀ p ∈ P, IsSt l p
  kids : ∀ (i : Nat) (p : List UInt8) (c : UInt8), i < k → P[i]? = some p → IsSt l (p ++ [c]) → p ++ [c] ∈ P
  up : ∀ (i : Nat) (p : List UInt8) (s : TSt), P[i]? = some p → S[i]? = some s → 0 < i → ∃ (j : Nat) (q : List UInt8), j < k ∧ j < i ∧ P[j]? = some q ∧ p = q ++ [s.by_] ∧ s.above = (j : Int)
  depth : ∀ (i : Nat) (p : List UInt8) (s : TSt), P[i]? = some p → S[i]? = some s → s.depth = p.length
  id : ∀ (i : Nat) (p : List UInt8) (s : TSt), i < k → P[i]? = some p → S[i]? = some s → (∀ j : Nat, l[j]? = some p → s.id = (j : Int)) ∧ (p ∉ l → s.id = -1)
  fresh : ∀ (i : Nat) (s : TSt), k ≤ i → S[i]? = some s → s.id = -1 ∧ s.many = 0 ∧ s.first = 0
  span : ∀ (i : Nat) (p : List UInt8) (s : TSt), i < k → P[i]? = some p → S[i]? = some s → s.first + s.many ≤ P.length ∧ (∀ (m : Nat) (s' : TSt), s.first ≤ m → m < s.first + s.many → S[m]? = some s' → P[m]? = some (p ++ [s'.by_])) ∧ (∀ (c : UInt8), p ++ [c] ∈ P → ∃ m : Nat, s.first ≤ m ∧ m < s.first + s.many ∧ P[m]? = some (p ++ [c]))
  jlen : J.length + k = P.length
  jobs : ∀ (j : Nat) (g : Nat × Nat × Nat), J[j]? = some g → g.1 = k + j ∧ ∃ p, P[k + j]? = some p ∧ Rng l p g.2.1 g.2.2

theorem BI.start (l : List (List UInt8)) : BI l [[]] [tst0] 0 [(0, 0, l.length)] := by
  refine ⟨rfl, rfl, fun s hs => by simp [tst0] at hs; subst hs; exact ⟨rfl, rfl⟩, by simp, fun p hp => by simp at hp; exact .inl hp, fun i p c hi => by omega, fun i p s hp _ hi => ?_, fun i p s hp hs => ?_, fun i p s hi => by omega, fun i s _ hs => ?_, fun i p s hi => by omega, rfl, fun j g hg => ?_⟩
  · have := (List.getElem?_eq_some_iff.1 hp).1; simp at this; omega
  · have h0 := (List.getElem?_eq_some_iff.1 hp).1
    simp at h0
    subst h0
    simp at hp hs
    subst hp; subst hs
    rfl
  · have h0 := (List.getElem?_eq_some_iff.1 hs).1
    simp at h0
    subst h0
    simp at hs
    subst hs
    exact ⟨rfl, rfl, rfl⟩
  · have h0 := (List.getElem?_eq_some_iff.1 hg).1
    simp at h0
    subst h0
    simp at hg
    subst hg
    refine ⟨rfl, [], rfl, Nat.zero_le _, Nat.le_refl _, fun i x hx => ⟨fun _ => ⟨Nat.zero_le _, (List.getElem?_eq_some_iff.1 hx).1⟩, fun _ => List.nil_prefix⟩⟩

/-- The states behind one that is through. -/
def stepS (S : List TSt) (k : Nat) (d : Nat) (idv : Int) (n : Nat) (gs : List (UInt8 × Nat × Nat)) (s : TSt) : List TSt :=
  S.set k ⟨s.above, s.by_, s.depth, idv, n, gs.length⟩ ++ gs.map (fun g => ⟨(k : Int), g.1, d + 1, -1, 0, 0⟩)
def numJ (n : Nat) : List (UInt8 × Nat × Nat) → List (Nat × Nat × Nat)
  | [] => []
  | g :: gs => (n, g.2.1, g.2.2) :: numJ (n + 1) gs
theorem numJ_len : ∀ (n : Nat) (gs : List (UInt8 × Nat × Nat)), (numJ n gs).length = gs.length
  | _, [] => rfl
  | n, g :: gs => by simp [numJ, numJ_len (n + 1) gs]
theorem numJ_at : ∀ (n : Nat) (gs : List (UInt8 × Nat × Nat)) (j : Nat) (g : UInt8 × Nat × Nat), gs[j]? = some g → (numJ n gs)[j]? = some (n + j, g.2.1, g.2.2)
  | n, [], j, g, h => by simp at h
  | n, a :: gs, 0, g, h => by simp at h; subst h; rfl
  | n, a :: gs, j + 1, g, h => by
    have := numJ_at (n + 1) gs j g (by simpa using h)
    rw [numJ]
    simpa [Nat.add_assoc, Nat.add_comm 1 j] using this
theorem numJ_snoc : ∀ (n : Nat) (gs : List (UInt8 × Nat × Nat)) (g : UInt8 × Nat × Nat), numJ n (gs ++ [g]) = numJ n gs ++ [(n + gs.length, g.2.1, g.2.2)]
  | n, [], g => rfl
  | n, a :: gs, g => by
    rw [List.cons_append, numJ, numJ, numJ_snoc (n + 1) gs g]
    simp [Nat.add_assoc, Nat.add_comm 1]

theorem BI.step {l P : List (List UInt8)} {S : List TSt} {k f t : Nat} {J : List (Nat × Nat × Nat)} (hl : l.Pairwise (· < ·)) (h : BI l P S k ((k, f, t) :: J)) {p : List UInt8} {s : TSt} (hp : P[k]? = some p) (hs : S[k]? = some s)
    {gs : List (UInt8 × Nat × Nat)} (hT : Tile l p.length t (skipF l p f t) t gs) {idv : Int} (hid : (∀ j : Nat, l[j]? = some p → idv = (j : Int)) ∧ (p ∉ l → idv = -1)) :
    BI l (P ++ gs.map (fun g => p ++ [g.1])) (stepS S k p.length idv P.length gs s) (k + 1) (J ++ numJ P.length gs) := by
  have hkl := (List.getElem?_eq_some_iff.1 hp).1
  have hR : Rng l p f t := by
    obtain ⟨_, q, hq, hr⟩ := h.jobs 0 _ rfl
    rw [Nat.add_zero, hp] at hq
    cases hq
    exact hr
  have hlen : (stepS S k p.length idv P.length gs s).length = P.length + gs.length := by simp [stepS, h.len]
  have hSl := h.len
  have low : ∀ i, i < P.length → (P ++ gs.map (fun g => p ++ [g.1]))[i]? = P[i]? := fun i hi => List.getElem?_append_left hi
  have high : ∀ i, P.length ≤ i → (P ++ gs.map (fun g => p ++ [g.1]))[i]? = (gs[i - P.length]?).map (fun g => p ++ [g.1]) := fun i hi => by rw [List.getElem?_append_right hi, List.getElem?_map]
  have lowS : ∀ i, i < P.length → i ≠ k → (stepS S k p.length idv P.length gs s)[i]? = S[i]? := fun i hi hne => by
    unfold stepS
    rw [List.getElem?_append_left (by simp; omega), List.getElem?_set_ne (Ne.symm hne)]
  have atS : (stepS S k p.length idv P.length gs s)[k]? = some ⟨s.above, s.by_, s.depth, idv, P.length, gs.length⟩ := by
    unfold stepS
    rw [List.getElem?_append_left (by simp; omega), List.getElem?_set_self (by omega)]
  have highS : ∀ i, P.length ≤ i → (stepS S k p.length idv P.length gs s)[i]? = (gs[i - P.length]?).map (fun g => ⟨(k : Int), g.1, p.length + 1, -1, 0, 0⟩) := fun i hi => by
    unfold stepS
    rw [List.getElem?_append_right (by simp; omega), List.getElem?_map]
    simp [hSl]
  have hkid : ∀ g ∈ gs, IsSt l (p ++ [g.1]) := fun g hg => (tile_kid hl hR hT).2 ⟨g, hg, rfl⟩
  -- each state that is there comes ahead of each kid
  have hahead : ∀ q ∈ P, ∀ c : UInt8, slt q (p ++ [c]) := by
    intro q hq c
    obtain ⟨i, hi⟩ := List.mem_iff_getElem?.1 hq
    have hil := (List.getElem?_eq_some_iff.1 hi).1
    rcases Nat.eq_zero_or_pos i with e | e
    · subst e
      rw [h.zero] at hi
      cases hi
      left; simp
    · have hsi := List.getElem?_eq_getElem (l := S) (i := i) (by omega)
      obtain ⟨j, q', hj, _, hq', e1, _⟩ := h.up i q _ hi hsi e
      have hjl := (List.getElem?_eq_some_iff.1 hq').1
      have h1 := (List.pairwise_iff_getElem.1 h.srt) j k hjl hkl hj
      obtain ⟨_, e2⟩ := List.getElem?_eq_some_iff.1 hq'
      obtain ⟨_, e3⟩ := List.getElem?_eq_some_iff.1 hp
      rw [e2, e3] at h1
      rw [e1]
      rcases h1 with h1 | ⟨h1, h2⟩
      · left; simp; omega
      · right; exact ⟨by simp [h1], lt_of_app h1 h2⟩
  refine ⟨by rw [hlen]; simp, ?_, ?_, ?_, ?_, ?_, ?_, ?_, ?_, ?_, ?_, ?_, ?_⟩
  · rw [low 0 (by omega)]; exact h.zero
  · intro s' hs'
    rcases Nat.eq_zero_or_pos k with e | e
    · subst e
      rw [atS] at hs'
      cases hs'
      exact h.root s hs
    · rw [lowS 0 (by omega) (by omega)] at hs'
      exact h.root s' hs'
  · rw [List.pairwise_append]
    refine ⟨h.srt, ?_, fun q hq r hr => ?_⟩
    · rw [List.pairwise_map]
      exact (tile_rise hl hR hT).imp fun {g g'} hg => .inr ⟨by simp, by rw [lt_app, List.cons_lt_cons_iff]; exact .inl (UInt8.lt_iff_toNat_lt.2 hg)⟩
    · obtain ⟨g, _, rfl⟩ := List.mem_map.1 hr
      exact hahead q hq g.1
  · intro q hq
    rcases List.mem_append.1 hq with hq | hq
    · exact h.mem q hq
    · obtain ⟨g, hg, rfl⟩ := List.mem_map.1 hq
      exact hkid g hg
  · intro i q c hi hq hc
    rcases Nat.lt_or_ge i k with h1 | h1
    · rw [low i (by omega)] at hq
      exact List.mem_append_left _ (h.kids i q c h1 hq hc)
    · obtain rfl : i = k := by omega
      rw [low _ (by omega), hp] at hq
      cases hq
      obtain ⟨g, hg, e⟩ := (tile_kid hl hR hT).1 hc
      exact List.mem_append_right _ (List.mem_map.2 ⟨g, hg, by rw [e]⟩)
  · intro i q s' hq hs' hi
    rcases Nat.lt_or_ge i P.length with h1 | h1
    · rw [low i h1] at hq
      by_cases hik : i = k
      · subst hik
        rw [atS] at hs'
        cases hs'
        rw [hp] at hq
        cases hq
        obtain ⟨j, q', e1, e2, e3, e4, e5⟩ := h.up _ _ _ hp hs hi
        exact ⟨j, q', by omega, e2, by rw [low j (by omega)]; exact e3, e4, e5⟩
      · rw [lowS i h1 hik] at hs'
        obtain ⟨j, q', e1, e2, e3, e4, e5⟩ := h.up _ _ _ hq hs' hi
        exact ⟨j, q', by omega, e2, by rw [low j (by omega)]; exact e3, e4, e5⟩
    · rw [high i h1] at hq
      rw [highS i h1] at hs'
      cases hg : gs[i - P.length]? with
      | none => rw [hg] at hq; simp at hq
      | some g =>
        rw [hg] at hq hs'
        simp at hq hs'
        subst hq; subst hs'
        exact ⟨k, p, by omega, by omega, by rw [low k hkl]; exact hp, rfl, rfl⟩
  · intro i q s' hq hs'
    rcases Nat.lt_or_ge i P.length with h1 | h1
    · rw [low i h1] at hq
      by_cases hik : i = k
      · subst hik
        rw [atS] at hs'
        cases hs'
        rw [hp] at hq
        cases hq
        exact (h.depth _ _ _ hp hs : s.depth = p.length)
      · rw [lowS i h1 hik] at hs'
        exact h.depth _ _ _ hq hs'
    · rw [high i h1] at hq
      rw [highS i h1] at hs'
      cases hg : gs[i - P.length]? with
      | none => rw [hg] at hq; simp at hq
      | some g =>
        rw [hg] at hq hs'
        simp at hq hs'
        subst hq; subst hs'
        simp
  · intro i q s' hi hq hs'
    rw [low i (by omega)] at hq
    by_cases hik : i = k
    · subst hik
      rw [atS] at hs'
      cases hs'
      rw [hp] at hq
      cases hq
      exact hid
    · rw [lowS i (by omega) hik] at hs'
      exact h.id _ _ _ (by omega) hq hs'
  · intro i s' hi hs'
    rcases Nat.lt_or_ge i P.length with h1 | h1
    · rw [lowS i h1 (by omega)] at hs'
      exact h.fresh _ _ (by omega) hs'
    · rw [highS i h1] at hs'
      cases hg : gs[i - P.length]? with
      | none => rw [hg] at hs'; simp at hs'
      | some g =>
        rw [hg] at hs'
        simp at hs'
        subst hs'
        exact ⟨rfl, rfl, rfl⟩
  · intro i q s' hi hq hs'
    rw [low i (by omega)] at hq
    have hplus : (P ++ gs.map (fun g => p ++ [g.1])).length = P.length + gs.length := by simp
    by_cases hik : i = k
    · subst hik
      rw [atS] at hs'
      cases hs'
      rw [hp] at hq
      cases hq
      refine ⟨by rw [hplus]; exact Nat.le_refl _, fun m s' h1 h2 hs' => ?_, fun c hc => ?_⟩
      · dsimp only at h1 h2
        rw [highS m h1] at hs'
        rw [high m h1]
        cases hg : gs[m - P.length]? with
        | none => rw [hg] at hs'; simp at hs'
        | some g =>
          rw [hg] at hs'
          simp at hs'
          subst hs'
          rfl
      · have hst : IsSt l (p ++ [c]) := by
          rcases List.mem_append.1 hc with hc | hc
          · exact h.mem _ hc
          · obtain ⟨g, hg, e⟩ := List.mem_map.1 hc
            rw [← e]; exact hkid g hg
        obtain ⟨g, hg, rfl⟩ := (tile_kid hl hR hT).1 hst
        obtain ⟨m, hm⟩ := List.mem_iff_getElem?.1 hg
        have hml := (List.getElem?_eq_some_iff.1 hm).1
        refine ⟨P.length + m, Nat.le_add_right _ _, by dsimp only; omega, ?_⟩
        rw [high _ (by omega), Nat.add_sub_cancel_left, hm]
        rfl
    · rw [lowS i (by omega) hik] at hs'
      obtain ⟨a1, a2, a3⟩ := h.span i q s' (by omega) hq hs'
      refine ⟨by rw [hplus]; omega, fun m s2 h1 h2 hs2 => ?_, fun c hc => ?_⟩
      · rw [low m (by omega)]
        by_cases hmk : m = k
        · subst hmk
          rw [atS] at hs2
          cases hs2
          exact a2 _ s h1 h2 hs
        · rw [lowS m (by omega) hmk] at hs2
          exact a2 m s2 h1 h2 hs2
      · have hc' : q ++ [c] ∈ P := by
          refine h.kids i q c (by omega) hq ?_
          rcases List.mem_append.1 hc with hc | hc
          · exact h.mem _ hc
          · obtain ⟨g, hg, e⟩ := List.mem_map.1 hc
            rw [← e]; exact hkid g hg
        obtain ⟨m, h1, h2, h3⟩ := a3 c hc'
        exact ⟨m, h1, h2, by rw [low m (by omega)]; exact h3⟩
  · have := h.jlen
    simp [numJ_len] at this ⊢
    omega
  · intro j g hg
    have hjl := h.jlen
    simp at hjl
    rcases Nat.lt_or_ge j J.length with h1 | h1
    · rw [List.getElem?_append_left h1] at hg
      obtain ⟨e1, q, e2, e3⟩ := h.jobs (j + 1) g (by simpa using hg)
      refine ⟨by omega, q, ?_, e3⟩
      rw [show k + 1 + j = k + (j + 1) by omega, low _ (by omega)]
      exact e2
    · rw [List.getElem?_append_right h1] at hg
      have hm := (List.getElem?_eq_some_iff.1 hg).1
      rw [numJ_len] at hm
      have hgs := List.getElem?_eq_getElem hm
      have := numJ_at P.length gs _ _ hgs
      rw [this] at hg
      cases hg
      refine ⟨by dsimp only; omega, p ++ [(gs[j - J.length]'hm).1], ?_, tile_rng hl hR hT (List.getElem_mem hm)⟩
      rw [high _ (by omega), show k + 1 + j - P.length = j - J.length by omega, hgs]
      rfl

/-- All are through: the states are those that the document counts. -/
structure TrieOk (l : List (List UInt8)) (S : List TSt) : Prop where
  len : S.length = (statesL l).length
  root : ∀ (s : TSt), S[0]? = some s → s.above = -1 ∧ s.by_ = 0
  up : ∀ (i : Nat) (p : List UInt8) (s : TSt), (statesL l)[i]? = some p → S[i]? = some s → 0 < i → ∃ (j : Nat) (q : List UInt8), j < i ∧ (statesL l)[j]? = some q ∧ p = q ++ [s.by_] ∧ s.above = (j : Int)
  depth : ∀ (i : Nat) (p : List UInt8) (s : TSt), (statesL l)[i]? = some p → S[i]? = some s → s.depth = p.length
  id : ∀ (i : Nat) (p : List UInt8) (s : TSt), (statesL l)[i]? = some p → S[i]? = some s → (∀ j : Nat, l[j]? = some p → s.id = (j : Int)) ∧ (p ∉ l → s.id = -1)
  span : ∀ (i : Nat) (p : List UInt8) (s : TSt), (statesL l)[i]? = some p → S[i]? = some s → s.first + s.many ≤ (statesL l).length ∧ (∀ (m : Nat) (s' : TSt), s.first ≤ m → m < s.first + s.many → S[m]? = some s' → (statesL l)[m]? = some (p ++ [s'.by_])) ∧ (∀ (c : UInt8), p ++ [c] ∈ statesL l → ∃ m : Nat, s.first ≤ m ∧ m < s.first + s.many ∧ (statesL l)[m]? = some (p ++ [c]))
theorem BI.all {l P : List (List UInt8)} {S : List TSt} {k : Nat} {J : List (Nat × Nat × Nat)} (hl : l.Pairwise (· < ·)) (h : BI l P S k J) (hJ : J = []) : P = statesL l := by
  have hk : k = P.length := by have := h.jlen; rw [hJ] at this; simpa using this
  obtain ⟨h1, h2⟩ := states_ok l hl
  refine uniq _ _ h.srt h1 fun p => ?_
  rw [h2]
  refine ⟨h.mem p, ?_⟩
  have key : ∀ n (p : List UInt8), p.length ≤ n → IsSt l p → p ∈ P := by
    intro n
    induction n with
    | zero =>
      intro p hp _
      have : p = [] := List.length_eq_zero_iff.1 (by omega)
      subst this
      exact List.mem_of_getElem? h.zero
    | succ n ih =>
      intro p hp hs
      rcases List.eq_nil_or_concat p with e | ⟨q, c, e⟩
      · subst e; exact List.mem_of_getElem? h.zero
      · obtain rfl : p = q ++ [c] := by simpa using e
        have hq := ih q (by simp at hp; omega) (isSt_pre hs)
        obtain ⟨i, hi⟩ := List.mem_iff_getElem?.1 hq
        exact h.kids i q c (by have := (List.getElem?_eq_some_iff.1 hi).1; omega) hi hs
  exact key p.length p (Nat.le_refl _)
theorem BI.done {l P : List (List UInt8)} {S : List TSt} {k : Nat} (hl : l.Pairwise (· < ·)) (h : BI l P S k []) : TrieOk l S := by
  have e := h.all hl rfl
  have hk : k = P.length := by have := h.jlen; simpa using this
  have hSl := h.len
  subst e
  refine ⟨h.len, h.root, fun i p s hp hs hi => ?_, h.depth, fun i p s hp hs => h.id i p s (by have := (List.getElem?_eq_some_iff.1 hp).1; omega) hp hs, fun i p s hp hs => h.span i p s (by have := (List.getElem?_eq_some_iff.1 hp).1; omega) hp hs⟩
  obtain ⟨j, q, _, h2, h3, h4, h5⟩ := h.up i p s hp hs hi
  exact ⟨j, q, h2, h3, h4, h5⟩
theorem sub_len : ∀ (b a : List (List UInt8)), a.Pairwise slt → b.Pairwise slt → (∀ x ∈ a, x ∈ b) → a.length ≤ b.length
  | [], [], _, _, _ => Nat.le_refl _
  | [], x :: a, _, _, h => absurd (h x (by simp)) (by simp)
  | y :: b, [], _, _, _ => Nat.zero_le _
  | y :: b, x :: a, ha, hb, h => by
    rw [List.pairwise_cons] at ha hb
    rcases List.mem_cons.1 (h x (by simp)) with e | hx
    · subst e
      have := sub_len b a ha.2 hb.2 fun z hz => by
        rcases List.mem_cons.1 (h z (by simp [hz])) with e | hz'
        · subst e; exact absurd (ha.1 z hz) (slt_ir z)
        · exact hz'
      simp; omega
    · have := sub_len b (x :: a) (List.pairwise_cons.2 ha) hb.2 fun z hz => by
        rcases List.mem_cons.1 (h z hz) with e | hz'
        · subst e
          rcases List.mem_cons.1 hz with e | hz
          · subst e; exact hx
          · exact absurd (ha.1 z hz) (slt_as (hb.1 x hx))
        · exact hz'
      simp at this ⊢; omega
/-- There are never more than all. -/
theorem BI.few {l P : List (List UInt8)} {S : List TSt} {k : Nat} {J : List (Nat × Nat × Nat)} (hl : l.Pairwise (· < ·)) (h : BI l P S k J) : P.length ≤ (statesL l).length :=
  sub_len _ _ h.srt (states_ok l hl).1 fun x hx => ((states_ok l hl).2 x).2 (h.mem x hx)

end Go.Proofs.YtkbdfnmeomkpjaaGreat
