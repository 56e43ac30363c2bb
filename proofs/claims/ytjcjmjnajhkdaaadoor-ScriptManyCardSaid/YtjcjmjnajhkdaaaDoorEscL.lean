import Derived.Test.YtjcjmjnajhkdaaaDoorMem
namespace Go.Proofs.YtjcjmjnajhkdaaaDoor
set_option maxRecDepth 100000
/-- The plain law of layer 5 (escape): no program in sight. -/
def hexL : List UInt8 := [48, 49, 50, 51, 52, 53, 54, 55, 56, 57, 97, 98, 99, 100, 101, 102]
def hexd (n : Nat) : UInt8 := hexL.getD n 0
def codedL (c : UInt8) : List UInt8 := [92, 120, hexd (c.toNat / 16), hexd (c.toNat % 16)]
def plainB (c : UInt8) : Bool := decide (32 < c.toNat) && decide (c.toNat ≤ 126) && decide (c.toNat ≠ 92)
def signL (c : UInt8) : List UInt8 := if c.toNat = 92 then [92, 92] else if plainB c then [c] else codedL c
def signsL (l : List UInt8) : List UInt8 := l.flatMap signL
def quoteL (l : List UInt8) : List UInt8 := if l = [] then [45] else if l = [45] then codedL 45 else signsL l

/-- The first byte of a text, and what is behind it: as escape.next goes. -/
def nextL (l : List UInt8) : Option (UInt8 × List UInt8) :=
  match l with
  | [] => none
  | a :: r =>
    if a ≠ 92 then some (a, r) else
    match r with
    | [] => none
    | b :: r2 => if b = 92 then some (92, r2) else
      match r2 with
      | [] => none
      | [_] => none
      | h :: k :: r4 => if b ≠ 120 then none else
        match hexL.idxOf? h, hexL.idxOf? k with
        | some x, some y => some (UInt8.ofNat (x * 16 + y), r4)
        | _, _ => none

theorem all_bytes {p : UInt8 → Prop} (h : ∀ n : Fin 256, p (UInt8.ofNat n.val)) (c : UInt8) : p c := by
  have := h ⟨c.toNat, c.toNat_lt⟩
  simpa using this

theorem next_sign (c : UInt8) (r : List UInt8) : nextL (signL c ++ r) = some (c, r) := by
  have h : ∀ c : UInt8, (signL c = [92, 92] ∧ c = 92) ∨ (signL c = [c] ∧ c ≠ 92) ∨ (∃ h k x y, signL c = [92, 120, h, k] ∧ hexL.idxOf? h = some x ∧ hexL.idxOf? k = some y ∧ c = UInt8.ofNat (x * 16 + y)) := by
    intro c
    unfold signL
    split
    · exact .inl ⟨rfl, UInt8.toNat_inj.1 (by simpa using ‹_›)⟩
    · split
      · exact .inr (.inl ⟨rfl, fun e => by subst e; simp at *⟩)
      · refine .inr (.inr ⟨_, _, c.toNat / 16, c.toNat % 16, rfl, ?_, ?_, ?_⟩)
        · exact all_bytes (p := fun c => hexL.idxOf? (hexd (c.toNat / 16)) = some (c.toNat / 16)) (by decide +kernel) c
        · exact all_bytes (p := fun c => hexL.idxOf? (hexd (c.toNat % 16)) = some (c.toNat % 16)) (by decide +kernel) c
        · rw [show c.toNat / 16 * 16 + c.toNat % 16 = c.toNat by omega]; simp
  rcases h c with ⟨e, rfl⟩ | ⟨e, hn⟩ | ⟨h, k, x, y, e, h1, h2, rfl⟩
  · rw [e]; simp [nextL]
  · rw [e]; simp [nextL, hn]
  · rw [e]; simp [nextL, h1, h2]

theorem sign_ne (c : UInt8) : signL c ≠ [] := by
  unfold signL codedL; split; · simp
  · split <;> simp

/-- A text starts with at most one sign. -/
theorem sign_once {c c' : UInt8} {r r' : List UInt8} (h : signL c ++ r = signL c' ++ r') : c = c' ∧ r = r' := by
  have h1 := next_sign c r
  rw [h, next_sign] at h1
  simpa [eq_comm] using h1

theorem signs_inj : ∀ {a b : List UInt8}, signsL a = signsL b → a = b
  | [], [], _ => rfl
  | [], c :: b, h => by simp [signsL, sign_ne] at h
  | c :: a, [], h => by simp [signsL, sign_ne] at h
  | c :: a, d :: b, h => by
    simp only [signsL, List.flatMap_cons] at h
    obtain ⟨rfl, hr⟩ := sign_once h
    rw [signs_inj (a := a) (b := b) hr]

theorem signs_append (a b : List UInt8) : signsL (a ++ b) = signsL a ++ signsL b := by simp [signsL]
theorem signs_one (c : UInt8) : signsL [c] = signL c := by simp [signsL]

theorem signs_cut : ∀ {a b r : List UInt8}, signsL b = signsL a ++ r → ∃ d, b = a ++ d ∧ signsL d = r
  | [], b, r, h => ⟨b, rfl, by simpa [signsL] using h⟩
  | c :: a, [], r, h => by simp [signsL, sign_ne] at h
  | c :: a, d :: b, r, h => by
    simp only [signsL, List.flatMap_cons, List.append_assoc] at h
    obtain ⟨rfl, hr⟩ := sign_once h
    obtain ⟨x, e, hx⟩ := signs_cut (a := a) (b := b) (r := r) hr
    exact ⟨x, by rw [e]; rfl, hx⟩

theorem quote_inj {a b : List UInt8} (h : quoteL a = quoteL b) : a = b := by
  have h45 : signsL [45] = [45] := by decide
  have h2d : ∀ l, signsL l = codedL 45 → False := by
    intro l hl
    cases l with
    | nil => simp [signsL, codedL] at hl
    | cons c r =>
      have h1 := next_sign c (signsL r)
      have : signL c ++ signsL r = codedL 45 := by simpa [signsL] using hl
      rw [this] at h1
      have h3 : nextL (codedL 45) = some (45, []) := by decide
      rw [h3] at h1
      injection h1 with h1; injection h1 with h1 h4
      subst h1
      rw [← h4] at this
      revert this; decide
  have key : ∀ a : List UInt8, a ≠ [] → a ≠ [45] → quoteL a ≠ [45] ∧ quoteL a ≠ codedL 45 := by
    intro a h1 h2
    unfold quoteL; rw [if_neg h1, if_neg h2]
    exact ⟨fun h => h2 (signs_inj (h.trans h45.symm)), fun h => h2d a h⟩
  have q0 : quoteL [] = [45] := rfl
  have q1 : quoteL [45] = codedL 45 := rfl
  by_cases ha : a = []
  · by_cases hb : b = []
    · rw [ha, hb]
    · by_cases hb' : b = [45]
      · subst ha; subst hb'; revert h; decide
      · subst ha; exact absurd h.symm (key b hb hb').1
  · by_cases ha' : a = [45]
    · by_cases hb : b = []
      · subst ha'; subst hb; revert h; decide
      · by_cases hb' : b = [45]
        · rw [ha', hb']
        · subst ha'; exact absurd h.symm (key b hb hb').2
    · by_cases hb : b = []
      · subst hb; exact absurd h (key a ha ha').1
      · by_cases hb' : b = [45]
        · subst hb'; exact absurd h (key a ha ha').2
        · unfold quoteL at h; rw [if_neg ha, if_neg ha', if_neg hb, if_neg hb'] at h
          exact signs_inj h

/-- What a text says, if it says anything. -/
noncomputable def unqL (s : List UInt8) : Option (List UInt8) := open Classical in if h : ∃ out, quoteL out = s then some h.choose else none
theorem unq_iff {s out : List UInt8} : unqL s = some out ↔ quoteL out = s := by
  unfold unqL
  split
  · rename_i h
    refine ⟨fun e => ?_, fun e => congrArg some (quote_inj (h.choose_spec.trans e.symm))⟩
    injection e with e
    rw [← e]; exact h.choose_spec
  · rename_i h
    exact ⟨fun e => (nomatch e), fun e => absurd ⟨_, e⟩ h⟩
theorem unq_quote (s : List UInt8) : unqL (quoteL s) = some s := unq_iff.2 rfl
theorem unq_none {s : List UInt8} (h : ∀ out, quoteL out ≠ s) : unqL s = none := by
  cases e : unqL s with
  | none => rfl
  | some out => exact absurd (unq_iff.1 e) (h out)

/-- The whole of a text, read by nextL: its rule in steps. -/
inductive Reads : List UInt8 → List UInt8 → Prop
  | done : Reads [] []
  | step {s c r out} : nextL s = some (c, r) → Reads r out → Reads s (c :: out)
theorem reads_signs : ∀ out, Reads (signsL out) out
  | [] => .done
  | c :: out => .step (c := c) (by simp only [signsL, List.flatMap_cons]; exact next_sign c _) (reads_signs out)
theorem sign_range (c : UInt8) : ∀ x ∈ signL c, 33 ≤ x.toNat ∧ x.toNat ≤ 126 := all_bytes (p := fun c => ∀ x ∈ signL c, 33 ≤ x.toNat ∧ x.toNat ≤ 126) (by decide +kernel) c
theorem quote_range (l : List UInt8) : ∀ x ∈ quoteL l, 33 ≤ x.toNat ∧ x.toNat ≤ 126 := by
  unfold quoteL
  split
  · decide
  · split
    · decide
    · intro x hx
      obtain ⟨c, _, h⟩ := List.mem_flatMap.1 hx
      exact sign_range c x h
theorem quote_ne (l : List UInt8) : quoteL l ≠ [] := by
  unfold quoteL
  split
  · simp
  · split
    · simp [codedL]
    · rename_i h _
      cases l with
      | nil => exact absurd rfl h
      | cons c r => simp [signsL, sign_ne]
theorem sign_len (c : UInt8) : (signL c).length ≤ 4 := by
  unfold signL codedL
  split
  · simp
  · split <;> simp
theorem signs_len : ∀ l, (signsL l).length ≤ 4 * l.length
  | [] => by simp [signsL]
  | c :: l => by
    have h1 := signs_len l; have h2 := sign_len c
    simp only [signsL, List.flatMap_cons, List.length_append, List.length_cons] at *
    omega
theorem quote_len (l : List UInt8) : (quoteL l).length ≤ 4 * l.length + 4 := by
  unfold quoteL; split; · simp
  · split; · simp [codedL]
    · have := signs_len l; omega
end Go.Proofs.YtjcjmjnajhkdaaaDoor
