/- Where states fall back to, plainly; no condition, no program in sight. -/
import Derived.Test.YtkbdfnmeomkpjaaGreatLnkL
namespace Go.Proofs.YtkbdfnmeomkpjaaGreat
set_option linter.unusedVariables false
set_option linter.unusedSimpArgs false

theorem nodup_idx {S : List (List UInt8)} (h : S.Pairwise slt) {i : Nat} {p : List UInt8} (hp : S[i]? = some p) : S.idxOf p = i := by
  obtain ⟨hi, rfl⟩ := List.getElem?_eq_some_iff.1 hp
  have hm : S[i] ∈ S := List.getElem_mem hi
  have hk := List.idxOf_lt_length_iff.2 hm
  have e : S[S.idxOf S[i]] = S[i] := List.getElem_idxOf hk
  rcases Nat.lt_trichotomy (S.idxOf S[i]) i with hlt | heq | hgt
  · have := (List.pairwise_iff_getElem.1 h) _ _ hk hi hlt
    rw [e] at this
    exact absurd this (slt_ir _)
  · exact heq
  · have := (List.pairwise_iff_getElem.1 h) _ _ hi hk hgt
    rw [e] at this
    exact absurd this (slt_ir _)
theorem idx_some {S : List (List UInt8)} {p : List UInt8} (h : p ∈ S) : S[S.idxOf p]? = some p := by
  have hk := List.idxOf_lt_length_iff.2 h
  rw [List.getElem?_eq_getElem hk, List.getElem_idxOf hk]
theorem mem_at {S : List (List UInt8)} {i : Nat} {p : List UInt8} (h : S[i]? = some p) : p ∈ S := List.mem_of_getElem? h
/-- Shorter states have lesser numbers. -/
theorem short_lt {S : List (List UInt8)} (h : S.Pairwise slt) {i j : Nat} {p q : List UInt8} (hp : S[i]? = some p) (hq : S[j]? = some q) (hl : p.length < q.length) : i < j := by
  obtain ⟨hi, rfl⟩ := List.getElem?_eq_some_iff.1 hp
  obtain ⟨hj, rfl⟩ := List.getElem?_eq_some_iff.1 hq
  rcases Nat.lt_trichotomy i j with h1 | h1 | h1
  · exact h1
  · subst h1; omega
  · have := (List.pairwise_iff_getElem.1 h) _ _ hj hi h1
    rcases this with h2 | ⟨h2, _⟩ <;> omega

/-- The states of a set: all beginnings, in order, each once. -/
structure Sts (l S : List (List UInt8)) : Prop where
  pats : ∀ x ∈ l, x ≠ []
  srt : S.Pairwise slt
  mem : ∀ p, p ∈ S ↔ IsSt l p
theorem Sts.zero {l S : List (List UInt8)} (h : Sts l S) : S[0]? = some [] := by
  have h0 : [] ∈ S := (h.mem []).2 (.inl rfl)
  have h1 := idx_some h0
  have : S.idxOf [] = 0 := by
    rcases Nat.eq_zero_or_pos (S.idxOf []) with e | e
    · exact e
    · have hk := List.idxOf_lt_length_iff.2 h0
      have := (List.pairwise_iff_getElem.1 h.srt) 0 _ (by omega) hk e
      rw [List.getElem_idxOf hk] at this
      rcases this with h2 | ⟨h2, h3⟩
      · simp at h2
      · have : S[0] = [] := List.length_eq_zero_iff.1 (by simpa using h2)
        rw [this] at h3
        exact absurd h3 (lt_ir _)
  rwa [this] at h1
theorem Sts.sub {l S : List (List UInt8)} (h : Sts l S) {x : List UInt8} (hx : x ∈ l) : x ∈ S := (h.mem x).2 (.inr ⟨x, hx, List.prefix_refl x⟩)
theorem Sts.pre {l S : List (List UInt8)} (h : Sts l S) {p q : List UInt8} (hx : p ++ q ∈ S) : p ∈ S := (h.mem p).2 (isSt_pre ((h.mem _).1 hx))
theorem Sts.idx {l S : List (List UInt8)} (h : Sts l S) {i : Nat} {p : List UInt8} (hp : S[i]? = some p) : S.idxOf p = i := nodup_idx h.srt hp

/-- The longest state with which a text ends. -/
def lsuf (S : List (List UInt8)) : List UInt8 → Nat
  | [] => 0
  | c :: p => if (c :: p) ∈ S then S.idxOf (c :: p) else lsuf S p
theorem lsuf_spec {l S : List (List UInt8)} (h : Sts l S) : ∀ p, ∃ q, S[lsuf S p]? = some q ∧ q <:+ p ∧ ∀ q', q' <:+ p → q' ∈ S → q' <:+ q
  | [] => ⟨[], h.zero, List.suffix_refl _, fun q' h1 _ => h1⟩
  | c :: p => by
    unfold lsuf
    split
    · rename_i hm
      exact ⟨c :: p, idx_some hm, List.suffix_refl _, fun q' h1 _ => h1⟩
    · rename_i hm
      obtain ⟨q, h1, h2, h3⟩ := lsuf_spec h p
      refine ⟨q, h1, h2.trans (List.suffix_cons c p), fun q' hq hS => ?_⟩
      rcases List.suffix_cons_iff.1 hq with e | hq
      · subst e; exact absurd hS hm
      · exact h3 q' hq hS
theorem suf_antisymm {p q : List UInt8} (h : p <:+ q) (k : q <:+ p) : p = q := h.eq_of_length (Nat.le_antisymm h.length_le k.length_le)
theorem lsuf_eq {l S : List (List UInt8)} (h : Sts l S) {p q : List UInt8} {i : Nat} (hi : S[i]? = some q) (hq : q <:+ p) (hm : ∀ q', q' <:+ p → q' ∈ S → q' <:+ q) : lsuf S p = i := by
  obtain ⟨r, h1, h2, h3⟩ := lsuf_spec h p
  have e : r = q := suf_antisymm (hm r h2 (mem_at h1)) (h3 q hq (mem_at hi))
  subst e
  rw [← h.idx h1, h.idx hi]
theorem lsuf_lt {l S : List (List UInt8)} (h : Sts l S) (p : List UInt8) : lsuf S p < S.length := by
  obtain ⟨q, h1, _⟩ := lsuf_spec h p
  exact (List.getElem?_eq_some_iff.1 h1).1
theorem suf_snoc {q p : List UInt8} {c : UInt8} (h : q <:+ p ++ [c]) : q = [] ∨ ∃ r, q = r ++ [c] ∧ r <:+ p := by
  obtain ⟨t, ht⟩ := h
  rcases List.eq_nil_or_concat q with e | ⟨r, d, e⟩
  · exact .inl e
  · obtain rfl : q = r ++ [d] := by simpa using e
    rw [← List.append_assoc] at ht
    have := List.append_inj' ht rfl
    obtain ⟨h1, h2⟩ := this
    simp at h2
    subst h2
    exact .inr ⟨r, rfl, t, h1⟩
/-- A byte more: only the longest state counts. -/
theorem lsuf_step {l S : List (List UInt8)} (h : Sts l S) {p q : List UInt8} (c : UInt8) (hq : S[lsuf S p]? = some q) : lsuf S (p ++ [c]) = lsuf S (q ++ [c]) := by
  obtain ⟨q0, h1, h2, h3⟩ := lsuf_spec h p
  rw [hq] at h1
  cases h1
  obtain ⟨r, g1, g2, g3⟩ := lsuf_spec h (q ++ [c])
  refine lsuf_eq h g1 (g2.trans ?_) fun q' hs hS => ?_
  · obtain ⟨t, ht⟩ := h2
    exact ⟨t, by rw [← ht, List.append_assoc]⟩
  · rcases suf_snoc hs with e | ⟨v, e, hv⟩
    · subst e; exact List.nil_suffix
    · subst e
      refine g3 _ ?_ hS
      obtain ⟨t, ht⟩ := h3 v hv (h.pre hS)
      exact ⟨t, by rw [← List.append_assoc, ht]⟩
theorem lsuf_in {l S : List (List UInt8)} (h : Sts l S) {p : List UInt8} {i : Nat} (hp : S[i]? = some p) : lsuf S p = i :=
  lsuf_eq h hp (List.suffix_refl _) fun _ h1 _ => h1
theorem lsuf_out {S : List (List UInt8)} {c : UInt8} {p : List UInt8} (h : c :: p ∉ S) : lsuf S (c :: p) = lsuf S p := by
  rw [lsuf, if_neg h]

/-- The longest pattern with which a text ends; -1: none. -/
def osuf (l S : List (List UInt8)) : List UInt8 → Int
  | [] => -1
  | c :: p => if (c :: p) ∈ l then (S.idxOf (c :: p) : Int) else osuf l S p
theorem osuf_step {l S : List (List UInt8)} (h : Sts l S) : ∀ (p q : List UInt8), S[lsuf S p]? = some q → osuf l S p = if q ∈ l then (lsuf S p : Int) else osuf l S q.tail
  | [], q, hq => by
    have : q = [] := by
      have := h.zero
      rw [show lsuf S [] = 0 from rfl, this] at hq
      simpa using hq.symm
    subst this
    rw [if_neg (fun hx => h.pats _ hx rfl)]
    rfl
  | c :: p, q, hq => by
    by_cases hm : (c :: p) ∈ S
    · have e : lsuf S (c :: p) = S.idxOf (c :: p) := by rw [lsuf, if_pos hm]
      rw [e, idx_some hm] at hq
      cases hq
      rw [osuf, e]
      rfl
    · have hl : (c :: p) ∉ l := fun hx => hm (h.sub hx)
      rw [osuf, if_neg hl, lsuf_out hm]
      rw [lsuf_out hm] at hq
      exact osuf_step h p q hq
theorem osuf_spec {l S : List (List UInt8)} (h : Sts l S) : ∀ p, osuf l S p = -1 ∨ ∃ (k : Nat) (q : List UInt8), osuf l S p = (k : Int) ∧ S[k]? = some q ∧ q ∈ l ∧ q <:+ p
  | [] => .inl rfl
  | c :: p => by
    unfold osuf
    split
    · rename_i hm
      exact .inr ⟨_, c :: p, rfl, idx_some (h.sub hm), hm, List.suffix_refl _⟩
    · rcases osuf_spec h p with e | ⟨k, q, h1, h2, h3, h4⟩
      · exact .inl e
      · exact .inr ⟨k, q, h1, h2, h3, h4.trans (List.suffix_cons c p)⟩

/-- The numbers of the patterns with which a text ends, the longest first. -/
def hsuf (l : List (List UInt8)) : List UInt8 → List Nat
  | [] => []
  | c :: p => if (c :: p) ∈ l then l.idxOf (c :: p) :: hsuf l p else hsuf l p
theorem hsuf_tail {l S : List (List UInt8)} (h : Sts l S) : ∀ (p : List UInt8), (osuf l S p = -1 → hsuf l p = []) ∧ ∀ k : Nat, osuf l S p = (k : Int) → hsuf l p = hsuf l (S.getD k [])
  | [] => ⟨fun _ => rfl, fun k hk => by unfold osuf at hk; omega⟩
  | c :: p => by
    by_cases hm : (c :: p) ∈ l
    · rw [osuf, if_pos hm]
      refine ⟨fun e => by omega, fun k hk => ?_⟩
      obtain rfl : S.idxOf (c :: p) = k := by omega
      rw [List.getD_eq_getElem?_getD, idx_some (h.sub hm)]
      rfl
    · rw [osuf, if_neg hm, hsuf, if_neg hm]
      exact hsuf_tail h p
/-- The same numbers, rising. -/
def hitsL (l : List (List UInt8)) (p : List UInt8) : List Nat := (List.range l.length).filter fun i => (l.getD i []).isSuffixOf p
theorem hitsL_mem {l : List (List UInt8)} {p : List UInt8} {i : Nat} : i ∈ hitsL l p ↔ ∃ x, l[i]? = some x ∧ x <:+ p := by
  unfold hitsL
  rw [List.mem_filter, List.mem_range, List.isSuffixOf_iff_suffix]
  constructor
  · rintro ⟨h1, h2⟩
    refine ⟨_, List.getElem?_eq_getElem h1, ?_⟩
    rw [List.getD_eq_getElem?_getD, List.getElem?_eq_getElem h1] at h2
    exact h2
  · rintro ⟨x, hx, hs⟩
    refine ⟨(List.getElem?_eq_some_iff.1 hx).1, ?_⟩
    rw [List.getD_eq_getElem?_getD, hx]
    exact hs
theorem idx_lex {l : List (List UInt8)} (h : l.Pairwise (· < ·)) {i : Nat} {p : List UInt8} (hp : l[i]? = some p) : l.idxOf p = i := by
  obtain ⟨hi, rfl⟩ := List.getElem?_eq_some_iff.1 hp
  have hm : l[i] ∈ l := List.getElem_mem hi
  have hk := List.idxOf_lt_length_iff.2 hm
  have e : l[l.idxOf l[i]] = l[i] := List.getElem_idxOf hk
  rcases Nat.lt_trichotomy (l.idxOf l[i]) i with hlt | heq | hgt
  · have := (List.pairwise_iff_getElem.1 h) _ _ hk hi hlt
    rw [e] at this
    exact absurd this (lt_ir _)
  · exact heq
  · have := (List.pairwise_iff_getElem.1 h) _ _ hi hk hgt
    rw [e] at this
    exact absurd this (lt_ir _)
theorem hsuf_mem {l : List (List UInt8)} (h : l.Pairwise (· < ·)) (hne : ∀ x ∈ l, x ≠ []) : ∀ (p : List UInt8) (i : Nat), i ∈ hsuf l p ↔ ∃ x, l[i]? = some x ∧ x <:+ p
  | [], i => by
    unfold hsuf
    constructor
    · intro h; cases h
    · rintro ⟨x, hx, hs⟩
      exact absurd (List.suffix_nil.1 hs) (hne x (List.mem_of_getElem? hx))
  | c :: p, i => by
    unfold hsuf
    split
    · rename_i hm
      rw [List.mem_cons, hsuf_mem h hne p i]
      constructor
      · rintro (rfl | ⟨x, hx, hs⟩)
        · exact ⟨c :: p, idx_some hm, List.suffix_refl _⟩
        · exact ⟨x, hx, hs.trans (List.suffix_cons c p)⟩
      · rintro ⟨x, hx, hs⟩
        rcases List.suffix_cons_iff.1 hs with e | hs
        · subst e; exact .inl (idx_lex h hx).symm
        · exact .inr ⟨x, hx, hs⟩
    · rename_i hm
      rw [hsuf_mem h hne p i]
      constructor
      · rintro ⟨x, hx, hs⟩
        exact ⟨x, hx, hs.trans (List.suffix_cons c p)⟩
      · rintro ⟨x, hx, hs⟩
        rcases List.suffix_cons_iff.1 hs with e | hs
        · subst e; exact absurd (List.mem_of_getElem? hx) hm
        · exact ⟨x, hx, hs⟩
theorem hsuf_nodup {l : List (List UInt8)} (h : l.Pairwise (· < ·)) (hne : ∀ x ∈ l, x ≠ []) : ∀ (p : List UInt8), (hsuf l p).Nodup
  | [] => by simp [hsuf]
  | c :: p => by
    unfold hsuf
    split
    · rename_i hm
      rw [List.nodup_cons]
      refine ⟨fun hi => ?_, hsuf_nodup h hne p⟩
      obtain ⟨x, hx, hs⟩ := (hsuf_mem h hne p _).1 hi
      rw [idx_some hm] at hx
      cases hx
      have := hs.length_le
      simp only [List.length_cons] at this
      omega
    · exact hsuf_nodup h hne p
/-- A row in order with the same members. -/
theorem sorted_eq : ∀ (a b : List Nat), a.Pairwise (· < ·) → b.Pairwise (· < ·) → (∀ x, x ∈ a ↔ x ∈ b) → a = b
  | [], [], _, _, _ => rfl
  | [], y :: b, _, _, h => absurd ((h y).2 (by simp)) (by simp)
  | x :: a, [], _, _, h => absurd ((h x).1 (by simp)) (by simp)
  | x :: a, y :: b, ha, hb, h => by
    rw [List.pairwise_cons] at ha hb
    have e : x = y := by
      rcases List.mem_cons.1 ((h x).1 (by simp)) with e | hx
      · exact e
      · rcases List.mem_cons.1 ((h y).2 (by simp)) with e | hy
        · exact e.symm
        · have := ha.1 y hy; have := hb.1 x hx; omega
    subst e
    rw [sorted_eq a b ha.2 hb.2 fun z => by
      constructor
      · intro hz
        rcases List.mem_cons.1 ((h z).1 (by simp [hz])) with e | hz'
        · subst e; have := ha.1 z hz; omega
        · exact hz'
      · intro hz
        rcases List.mem_cons.1 ((h z).2 (by simp [hz])) with e | hz'
        · subst e; have := hb.1 z hz; omega
        · exact hz']
theorem hitsL_sorted (l : List (List UInt8)) (p : List UInt8) : (hitsL l p).Pairwise (· < ·) := List.Pairwise.filter _ List.pairwise_lt_range

/-! ### Through a text from the root -/
theorem hits_same {l S : List (List UInt8)} (h : Sts l S) {p q : List UInt8} (hq : S[lsuf S p]? = some q) : hitsL l q = hitsL l p := by
  obtain ⟨q0, h1, h2, h3⟩ := lsuf_spec h p
  rw [hq] at h1
  cases h1
  refine sorted_eq _ _ (hitsL_sorted l q) (hitsL_sorted l p) fun i => ?_
  rw [hitsL_mem, hitsL_mem]
  constructor
  · rintro ⟨x, hx, hs⟩
    exact ⟨x, hx, hs.trans h2⟩
  · rintro ⟨x, hx, hs⟩
    exact ⟨x, hx, h3 x hs (h.sub (List.mem_of_getElem? hx))⟩

/-! ### What LinkFalls asks -/
theorem fall_less {l S : List (List UInt8)} (h : Sts l S) {i : Nat} {p : List UInt8} (hp : S[i]? = some p) (hi : 0 < i) : lsuf S p.tail < i ∧ ∃ q, S[lsuf S p.tail]? = some q ∧ q.length < p.length := by
  have hne : p ≠ [] := by
    rintro rfl
    have := h.idx hp
    rw [h.idx h.zero] at this
    omega
  obtain ⟨q, h1, h2, _⟩ := lsuf_spec h p.tail
  have hl : q.length < p.length := by
    have h3 := h2.length_le
    have : 0 < p.length := List.length_pos_iff.2 hne
    rw [List.length_tail] at h3
    omega
  exact ⟨short_lt h.srt h1 hp hl, q, h1, hl⟩
theorem out_less {l S : List (List UInt8)} (h : Sts l S) {p q : List UInt8} (hq : S[lsuf S p]? = some q) {k : Nat} (hk : osuf l S p = (k : Int)) : 1 ≤ k ∧ ∃ r, S[k]? = some r ∧ r.length ≤ q.length := by
  obtain ⟨q0, h1, h2, h3⟩ := lsuf_spec h p
  rw [hq] at h1
  cases h1
  rcases osuf_spec h p with e | ⟨k', r, e, g1, g2, g3⟩
  · rw [hk] at e; omega
  · rw [hk] at e
    obtain rfl : k = k' := by omega
    refine ⟨?_, r, g1, (h3 r g3 (mem_at g1)).length_le⟩
    rcases Nat.eq_zero_or_pos k with h0 | h0
    · subst h0
      rw [h.zero] at g1
      cases g1
      exact absurd rfl (h.pats _ g2)
    · exact h0

end Go.Proofs.YtkbdfnmeomkpjaaGreat
