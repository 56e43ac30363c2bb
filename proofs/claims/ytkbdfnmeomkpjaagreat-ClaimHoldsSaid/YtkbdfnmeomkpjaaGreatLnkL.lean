/- Tries and links, plainly: all beginnings of patterns, and where they fall back to; no condition, no program in sight. -/
import Derived.Test.YtkbdfnmeomkpjaaGreatMem
namespace Go.Proofs.YtkbdfnmeomkpjaaGreat
set_option linter.unusedVariables false
set_option linter.unusedSimpArgs false

/-! ### Texts in order -/
theorem lt_ir (a : List UInt8) : ¬ a < a := List.lt_irrefl a
theorem lt_tr {a b c : List UInt8} (h : a < b) (k : b < c) : a < c := List.lt_trans h k
theorem lt_as {a b : List UInt8} (h : a < b) : ¬ b < a := fun k => lt_ir a (lt_tr h k)
theorem lt_tri : ∀ (a b : List UInt8), a < b ∨ a = b ∨ b < a
  | [], [] => .inr (.inl rfl)
  | [], b :: bs => .inl (List.nil_lt_cons b bs)
  | a :: as, [] => .inr (.inr (List.nil_lt_cons a as))
  | a :: as, b :: bs => by
    simp only [List.cons_lt_cons_iff, List.cons.injEq]
    rcases Nat.lt_trichotomy a.toNat b.toNat with h | h | h
    · exact .inl (.inl (UInt8.lt_iff_toNat_lt.2 h))
    · have e : a = b := UInt8.toNat_inj.1 h
      subst e
      rcases lt_tri as bs with h | h | h
      · exact .inl (.inr ⟨rfl, h⟩)
      · exact .inr (.inl ⟨rfl, h⟩)
      · exact .inr (.inr (.inr ⟨rfl, h⟩))
    · exact .inr (.inr (.inl (UInt8.lt_iff_toNat_lt.2 h)))
/-- Behind a common beginning the rest decides. -/
theorem lt_app : ∀ (p a b : List UInt8), p ++ a < p ++ b ↔ a < b
  | [], a, b => Iff.rfl
  | c :: p, a, b => by
    rw [List.cons_append, List.cons_append, List.cons_lt_cons_iff, lt_app p a b]
    constructor
    · rintro (h | ⟨_, h⟩)
      · exact absurd h (by rw [UInt8.lt_iff_toNat_lt]; omega)
      · exact h
    · exact fun h => .inr ⟨rfl, h⟩
theorem lt_of_app {a b x y : List UInt8} (hl : a.length = b.length) (h : a < b) : a ++ x < b ++ y := by
  induction a generalizing b with
  | nil => cases b with
    | nil => exact absurd h (lt_ir _)
    | cons b bs => simp at hl
  | cons c a ih => cases b with
    | nil => simp at hl
    | cons d b =>
      rw [List.cons_append, List.cons_append, List.cons_lt_cons_iff]
      rw [List.cons_lt_cons_iff] at h
      rcases h with h | ⟨e, h⟩
      · exact .inl h
      · exact .inr ⟨e, ih (by simpa using hl) h⟩
/-- The shorter ones first, those of one length in order. -/
def slt (p q : List UInt8) : Prop := p.length < q.length ∨ (p.length = q.length ∧ p < q)
theorem slt_ir (a : List UInt8) : ¬ slt a a := by
  rintro (h | ⟨_, h⟩)
  · omega
  · exact lt_ir _ h
theorem slt_tr {a b c : List UInt8} (h : slt a b) (k : slt b c) : slt a c := by
  rcases h with h | ⟨e, h⟩
  · rcases k with k | ⟨e', k⟩
    · exact .inl (by omega)
    · exact .inl (by omega)
  · rcases k with k | ⟨e', k⟩
    · exact .inl (by omega)
    · exact .inr ⟨e.trans e', lt_tr h k⟩
theorem slt_as {a b : List UInt8} (h : slt a b) : ¬ slt b a := fun k => slt_ir a (slt_tr h k)
/-- Two lists in order with the same members are one. -/
theorem uniq : ∀ (a b : List (List UInt8)), a.Pairwise slt → b.Pairwise slt → (∀ x, x ∈ a ↔ x ∈ b) → a = b
  | [], [], _, _, _ => rfl
  | [], y :: b, _, _, h => absurd ((h y).2 (by simp)) (by simp)
  | x :: a, [], _, _, h => absurd ((h x).1 (by simp)) (by simp)
  | x :: a, y :: b, ha, hb, h => by
    rw [List.pairwise_cons] at ha hb
    have e : x = y := by
      rcases List.mem_cons.1 ((h x).1 (by simp)) with e | hx
      · exact e
      · rcases List.mem_cons.1 ((h y).2 (by simp)) with e | hy
        · exact e.symm
        · exact absurd (ha.1 y hy) (slt_as (hb.1 x hx))
    subst e
    rw [uniq a b ha.2 hb.2 fun z => by
      constructor
      · intro hz
        rcases List.mem_cons.1 ((h z).1 (by simp [hz])) with e | hz'
        · subst e; exact absurd (ha.1 z hz) (slt_ir z)
        · exact hz'
      · intro hz
        rcases List.mem_cons.1 ((h z).2 (by simp [hz])) with e | hz'
        · subst e; exact absurd (hb.1 z hz) (slt_ir z)
        · exact hz']

/-! ### The states, as the document counts them -/
/-- Is a text a beginning of a pattern? -/
def IsSt (l : List (List UInt8)) (p : List UInt8) : Prop := p = [] ∨ ∃ x ∈ l, p <+: x
def lastOf (out : List (List UInt8)) : List UInt8 := out.getLastD []
def stepL (n : Nat) (out : List (List UInt8)) (x : List UInt8) : List (List UInt8) := if n ≤ x.length ∧ x.take n ≠ lastOf out then out ++ [x.take n] else out
def roundL (l : List (List UInt8)) (out : List (List UInt8)) (n : Nat) : List (List UInt8) := l.foldl (stepL n) out
def mostL (l : List (List UInt8)) : Nat := l.foldl (fun m x => max m x.length) 0
def statesN (l : List (List UInt8)) (k : Nat) : List (List UInt8) := (List.range k).foldl (fun out n => roundL l out (n + 1)) [[]]
def statesL (l : List (List UInt8)) : List (List UInt8) := statesN l (mostL l)
theorem statesN_succ (l : List (List UInt8)) (k : Nat) : statesN l (k + 1) = roundL l (statesN l k) (k + 1) := by
  unfold statesN
  rw [List.range_succ, List.foldl_append]
  rfl
theorem mostL_le (l : List (List UInt8)) : ∀ x ∈ l, x.length ≤ mostL l := by
  have key : ∀ (l : List (List UInt8)) (m : Nat), m ≤ l.foldl (fun m x => max m x.length) m ∧ ∀ x ∈ l, x.length ≤ l.foldl (fun m x => max m x.length) m := by
    intro l
    induction l with
    | nil => intro m; exact ⟨Nat.le_refl _, fun x hx => by cases hx⟩
    | cons y l ih =>
      intro m
      rw [List.foldl_cons]
      have h := ih (max m y.length)
      refine ⟨by omega, fun x hx => ?_⟩
      rcases List.mem_cons.1 hx with rfl | hx
      · omega
      · exact h.2 x hx
  exact (key l 0).2
theorem take_mono {a b : List UInt8} (h : a < b) (n : Nat) (ha : n ≤ a.length) (hb : n ≤ b.length) : a.take n = b.take n ∨ a.take n < b.take n := by
  rcases lt_tri (a.take n) (b.take n) with h1 | h1 | h1
  · exact .inr h1
  · exact .inl h1
  · have := lt_of_app (x := b.drop n) (y := a.drop n) (by simp; omega) h1
    rw [List.take_append_drop, List.take_append_drop] at this
    exact absurd h (lt_as this)
/-- One round: behind states that are shorter come those of this length, in order. -/
theorem round_ok (l : List (List UInt8)) (hl : l.Pairwise (· < ·)) (n : Nat) (out0 : List (List UInt8)) (h0 : out0.Pairwise slt) (hlen : ∀ p ∈ out0, p.length ≤ n) (hne : out0 ≠ []) :
    (roundL l out0 (n + 1)).Pairwise slt ∧ roundL l out0 (n + 1) ≠ [] ∧ ∀ p, p ∈ roundL l out0 (n + 1) ↔ p ∈ out0 ∨ (p.length = n + 1 ∧ ∃ x ∈ l, p <+: x) := by
  have key : ∀ (pre suf : List (List UInt8)), pre ++ suf = l → ∀ out : List (List UInt8), out.Pairwise slt → out ≠ [] → (∀ p, p ∈ out ↔ p ∈ out0 ∨ (p.length = n + 1 ∧ ∃ x ∈ pre, p <+: x)) →
      ((lastOf out).length ≤ n ∨ ∃ x ∈ pre, lastOf out = x.take (n + 1) ∧ n + 1 ≤ x.length) →
      (∀ p ∈ out, p = lastOf out ∨ slt p (lastOf out)) →
      (suf.foldl (stepL (n + 1)) out).Pairwise slt ∧ suf.foldl (stepL (n + 1)) out ≠ [] ∧ ∀ p, p ∈ suf.foldl (stepL (n + 1)) out ↔ p ∈ out0 ∨ (p.length = n + 1 ∧ ∃ x ∈ l, p <+: x) := by
    intro pre suf
    induction suf generalizing pre with
    | nil =>
      intro e out h1 h2 h3 _ _
      rw [List.append_nil] at e
      subst e
      exact ⟨h1, h2, h3⟩
    | cons y suf ih =>
      intro e out h1 h2 h3 h4 h5
      rw [List.foldl_cons]
      have hpl : ∀ x ∈ pre, x < y := by
        intro x hx
        rw [← e] at hl
        exact (List.pairwise_append.1 hl).2.2 x hx y (by simp)
      by_cases hy : n + 1 ≤ y.length
      · by_cases hq : y.take (n + 1) = lastOf out
        · have e1 : stepL (n + 1) out y = out := by unfold stepL; rw [if_neg (by rintro ⟨_, h⟩; exact h hq)]
          rw [e1]
          have hin : lastOf out ∈ out := by
            unfold lastOf
            rw [List.getLastD_eq_getLast?, List.getLast?_eq_some_getLast h2]
            exact List.getLast_mem h2
          refine ih (pre ++ [y]) (by simpa using e) out h1 h2 (fun p => ?_) ?_ h5
          · rw [h3 p]
            constructor
            · rintro (h | ⟨h, x, hx, hp⟩)
              · exact .inl h
              · exact .inr ⟨h, x, by simp [hx], hp⟩
            · rintro (h | ⟨h, x, hx, hp⟩)
              · exact .inl h
              · rcases List.mem_append.1 hx with hx | hx
                · exact .inr ⟨h, x, hx, hp⟩
                · simp at hx
                  subst hx
                  have e2 : p = x.take (n + 1) := by rw [← h]; exact (List.prefix_iff_eq_take.1 hp)
                  rw [e2, hq]
                  exact (h3 _).1 hin
          · exact .inr ⟨y, by simp, hq.symm, hy⟩
        · have e1 : stepL (n + 1) out y = out ++ [y.take (n + 1)] := by unfold stepL; rw [if_pos ⟨hy, hq⟩]
          rw [e1]
          have hlast : slt (lastOf out) (y.take (n + 1)) := by
            rcases h4 with h4 | ⟨x, hx, h4, h6⟩
            · left; simp; omega
            · right
              refine ⟨by rw [h4]; simp; omega, ?_⟩
              rcases take_mono (hpl x hx) (n + 1) h6 hy with h | h
              · rw [h4, h] at hq; exact absurd rfl hq
              · rw [h4]; exact h
          have hlo : lastOf (out ++ [y.take (n + 1)]) = y.take (n + 1) := by unfold lastOf; simp
          refine ih (pre ++ [y]) (by simpa using e) _ ?_ (by simp) (fun p => ?_) ?_ ?_
          · rw [List.pairwise_append]
            refine ⟨h1, by simp, fun a ha b hb => ?_⟩
            simp at hb
            subst hb
            rcases h5 a ha with rfl | h
            · exact hlast
            · exact slt_tr h hlast
          · rw [List.mem_append, h3 p]
            constructor
            · rintro ((h | ⟨h, x, hx, hp⟩) | h)
              · exact .inl h
              · exact .inr ⟨h, x, by simp [hx], hp⟩
              · simp at h
                subst h
                exact .inr ⟨by simp; omega, y, by simp, List.take_prefix _ _⟩
            · rintro (h | ⟨h, x, hx, hp⟩)
              · exact .inl (.inl h)
              · rcases List.mem_append.1 hx with hx | hx
                · exact .inl (.inr ⟨h, x, hx, hp⟩)
                · simp at hx
                  subst hx
                  refine .inr ?_
                  rw [List.mem_singleton, ← h]
                  exact (List.prefix_iff_eq_take.1 hp)
          · exact .inr ⟨y, by simp, hlo, hy⟩
          · intro p hp
            rw [hlo]
            rcases List.mem_append.1 hp with hp | hp
            · rcases h5 p hp with rfl | h
              · exact .inr hlast
              · exact .inr (slt_tr h hlast)
            · simp at hp; exact .inl hp
      · have e1 : stepL (n + 1) out y = out := by unfold stepL; rw [if_neg (by rintro ⟨h, _⟩; exact hy h)]
        rw [e1]
        refine ih (pre ++ [y]) (by simpa using e) out h1 h2 (fun p => ?_) ?_ h5
        · rw [h3 p]
          constructor
          · rintro (h | ⟨h, x, hx, hp⟩)
            · exact .inl h
            · exact .inr ⟨h, x, by simp [hx], hp⟩
          · rintro (h | ⟨h, x, hx, hp⟩)
            · exact .inl h
            · rcases List.mem_append.1 hx with hx | hx
              · exact .inr ⟨h, x, hx, hp⟩
              · simp at hx
                subst hx
                have := hp.length_le
                omega
        · rcases h4 with h4 | ⟨x, hx, h4⟩
          · exact .inl h4
          · exact .inr ⟨x, by simp [hx], h4⟩
  have hin : lastOf out0 ∈ out0 := by
    unfold lastOf
    rw [List.getLastD_eq_getLast?, List.getLast?_eq_some_getLast hne]
    exact List.getLast_mem hne
  refine key [] l rfl out0 h0 hne (fun p => by simp) (.inl (hlen _ hin)) (fun p hp => ?_)
  obtain ⟨i, hi, rfl⟩ := List.mem_iff_getElem.1 hp
  have hlo : lastOf out0 = out0[out0.length - 1]'(by omega) := by
    unfold lastOf
    rw [List.getLastD_eq_getLast?, List.getLast?_eq_some_getLast hne, List.getLast_eq_getElem]
    rfl
  rw [hlo]
  rcases Nat.lt_or_ge i (out0.length - 1) with h | h
  · exact .inr ((List.pairwise_iff_getElem.1 h0) i (out0.length - 1) hi (by omega) h)
  · left; congr 1; omega

theorem statesN_ok (l : List (List UInt8)) (hl : l.Pairwise (· < ·)) : ∀ k, (statesN l k).Pairwise slt ∧ statesN l k ≠ [] ∧ ∀ p, p ∈ statesN l k ↔ p = [] ∨ (p.length ≤ k ∧ ∃ x ∈ l, p <+: x)
  | 0 => by
    refine ⟨by simp [statesN], by simp [statesN], fun p => ⟨fun h => .inl (by simpa [statesN] using h), fun h => ?_⟩⟩
    have e : p = [] := by
      rcases h with h | ⟨h, _⟩
      · exact h
      · exact List.length_eq_zero_iff.1 (by omega)
    subst e
    simp [statesN]
  | k + 1 => by
    obtain ⟨h1, h2, h3⟩ := statesN_ok l hl k
    rw [statesN_succ]
    obtain ⟨g1, g2, g3⟩ := round_ok l hl k (statesN l k) h1 (fun p hp => by
      rcases (h3 p).1 hp with rfl | h
      · simp
      · exact h.1) h2
    refine ⟨g1, g2, fun p => ?_⟩
    rw [g3, h3]
    constructor
    · rintro ((h | ⟨h, x⟩) | ⟨h, x⟩)
      · exact .inl h
      · exact .inr ⟨by omega, x⟩
      · exact .inr ⟨by omega, x⟩
    · rintro (h | ⟨h, x⟩)
      · exact .inl (.inl h)
      · rcases Nat.lt_or_ge k p.length with hk | hk
        · exact .inr ⟨by omega, x⟩
        · exact .inl (.inr ⟨hk, x⟩)
theorem states_ok (l : List (List UInt8)) (hl : l.Pairwise (· < ·)) : (statesL l).Pairwise slt ∧ ∀ p, p ∈ statesL l ↔ IsSt l p := by
  obtain ⟨h1, h2, h3⟩ := statesN_ok l hl (mostL l)
  refine ⟨h1, fun p => ?_⟩
  unfold statesL IsSt
  rw [h3]
  constructor
  · rintro (h | ⟨_, h⟩)
    · exact .inl h
    · exact .inr h
  · rintro (h | ⟨x, hx, hp⟩)
    · exact .inl h
    · exact .inr ⟨Nat.le_trans hp.length_le (mostL_le l x hx), x, hx, hp⟩
theorem isSt_pre {l : List (List UInt8)} {p q : List UInt8} (h : IsSt l (p ++ q)) : IsSt l p := by
  rcases h with h | ⟨x, hx, hp⟩
  · exact .inl (List.append_eq_nil_iff.1 h).1
  · exact .inr ⟨x, hx, (List.prefix_append p q).trans hp⟩

end Go.Proofs.YtkbdfnmeomkpjaaGreat
