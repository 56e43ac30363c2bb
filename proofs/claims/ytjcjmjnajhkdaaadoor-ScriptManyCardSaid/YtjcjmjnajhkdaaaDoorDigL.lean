/- Numbers as texts, and back: the plain law of layer 1; no program in sight. -/
import Derived.Test.YtjcjmjnajhkdaaaDoorMem
import Derived.Lib.Join
namespace Go.Proofs.YtjcjmjnajhkdaaaDoor
set_option linter.unusedVariables false
set_option linter.unusedSimpArgs false

def dg (k : Nat) : UInt8 := UInt8.ofNat (48 + k)
def natL (k : Nat) : List UInt8 := if k < 10 then [dg k] else natL (k / 10) ++ [dg (k % 10)]
termination_by k
decreasing_by omega

def textL (n : Int) : List UInt8 := if n < 0 then 45 :: natL n.natAbs else natL n.natAbs

def isD (c : UInt8) : Bool := decide (48 ≤ c.toNat ∧ c.toNat ≤ 57)
def stripD (s : List UInt8) : List UInt8 := if s.head? = some 45 then s.tail else s
def valL (d : List UInt8) : Nat := d.foldl (fun a c => 10 * a + (c.toNat - 48)) 0
def formB (s : List UInt8) : Bool := (stripD s).all isD && (!(stripD s).isEmpty && ((stripD s).headD 0 != 48 || s == [48]))
def numZ (s : List UInt8) : Int := if s.head? = some 45 then -(valL (stripD s) : Int) else valL (stripD s)

theorem valL_snoc (d : List UInt8) (c : UInt8) : valL (d ++ [c]) = 10 * valL d + (c.toNat - 48) := by simp [valL]
theorem digit_of (k : Nat) (h : k < 10) : (dg k).toNat = 48 + k := by unfold dg; rw [UInt8.toNat_ofNat']; omega
theorem dg_of {k : Nat} {c : UInt8} (h : 48 + k = c.toNat) : dg k = c := by unfold dg; rw [h]; simp
theorem natL_small {k : Nat} (h : k < 10) : natL k = [dg k] := by rw [natL, if_pos h]
theorem natL_big {k : Nat} (h : ¬ k < 10) : natL k = natL (k / 10) ++ [dg (k % 10)] := by rw [natL, if_neg h]

theorem natL_val (k : Nat) : valL (natL k) = k := by
  induction k using Nat.strongRecOn with
  | _ k ih =>
    by_cases h : k < 10
    · rw [natL_small h]; simp only [valL, List.foldl]; rw [digit_of k h]; omega
    · rw [natL_big h, valL_snoc, ih (k / 10) (by omega), digit_of _ (by omega)]; omega
theorem natL_digits (k : Nat) : ∀ c ∈ natL k, 48 ≤ c.toNat ∧ c.toNat ≤ 57 := by
  induction k using Nat.strongRecOn with
  | _ k ih =>
    intro c hc
    by_cases h : k < 10
    · rw [natL_small h] at hc; rw [List.mem_singleton.1 hc, digit_of k h]; omega
    · rw [natL_big h] at hc
      rcases List.mem_append.1 hc with hc | hc
      · exact ih (k / 10) (by omega) c hc
      · rw [List.mem_singleton.1 hc, digit_of _ (by omega)]; omega
theorem natL_ne (k : Nat) : natL k ≠ [] := by
  by_cases h : k < 10
  · rw [natL_small h]; simp
  · rw [natL_big h]; simp
theorem natL_len (m k : Nat) (h : k < 10 ^ m) (hm : 1 ≤ m) : (natL k).length ≤ m := by
  induction m generalizing k with
  | zero => omega
  | succ m ih =>
    by_cases hk : k < 10
    · rw [natL_small hk]; simp
    · rw [natL_big hk, List.length_append]
      have h1 : k / 10 < 10 ^ m := by rw [Nat.pow_succ] at h; omega
      have h2 : 1 ≤ m := by
        rcases Nat.eq_zero_or_pos m with rfl | h2
        · simp at h; omega
        · exact h2
      have := ih (k / 10) h1 h2
      simp; omega
theorem natL_head (k : Nat) (hk : 0 < k) : (natL k).headD 0 ≠ 48 := by
  induction k using Nat.strongRecOn with
  | _ k ih =>
    by_cases h : k < 10
    · rw [natL_small h]
      intro he
      have := congrArg UInt8.toNat (show dg k = 48 from he)
      rw [digit_of k h] at this
      have h48 : (48 : UInt8).toNat = 48 := rfl
      omega
    · rw [natL_big h]
      have := ih (k / 10) (by omega) (by omega)
      cases hn : natL (k / 10) with
      | nil => exact absurd hn (natL_ne _)
      | cons a l => rw [hn] at this; simpa using this

theorem valL_cons (a : UInt8) (l : List UInt8) : ∀ b, l.foldl (fun a c => 10 * a + (c.toNat - 48)) b = b * 10 ^ l.length + valL l := by
  induction l with
  | nil => intro b; simp [valL]
  | cons c l ih =>
    intro b
    simp only [List.foldl_cons, List.length_cons, valL]
    rw [ih, ih (10 * 0 + (c.toNat - 48)), Nat.pow_succ, Nat.add_mul, Nat.mul_zero, Nat.zero_add]
    have : 10 * b * 10 ^ l.length = b * (10 ^ l.length * 10) := by rw [Nat.mul_comm 10 b, Nat.mul_assoc, Nat.mul_comm 10]
    omega
theorem valL_pos {c : UInt8} {l : List UInt8} (h : 48 ≤ c.toNat) (hc : c ≠ 48) : 10 ^ l.length ≤ valL (c :: l) := by
  have h1 : c.toNat ≠ 48 := fun e => hc (UInt8.toNat_inj.1 e)
  show _ ≤ (c :: l).foldl _ 0
  rw [List.foldl_cons, valL_cons c]
  have : 1 * 10 ^ l.length ≤ (10 * 0 + (c.toNat - 48)) * 10 ^ l.length := Nat.mul_le_mul_right _ (by omega)
  omega

/-- A row of digits, without a 0 ahead, is the text of its number. -/
theorem natL_of_val : ∀ (n : Nat) (d : List UInt8), d.length = n → d ≠ [] → (∀ c ∈ d, 48 ≤ c.toNat ∧ c.toNat ≤ 57) → (d.headD 0 ≠ 48 ∨ d = [48]) → natL (valL d) = d := by
  intro n
  induction n with
  | zero => intro d h hne; exact absurd (List.eq_nil_of_length_eq_zero h) hne
  | succ n ih =>
    intro d hl hne hd h0
    obtain ⟨d', c, rfl⟩ : ∃ d' c, d = d' ++ [c] := ⟨d.dropLast, d.getLast hne, (List.dropLast_concat_getLast hne).symm⟩
    have hc := hd c (by simp)
    rw [valL_snoc]
    by_cases he : d' = []
    · subst he
      have : 10 * valL [] + (c.toNat - 48) < 10 := by simp [valL]; omega
      rw [natL_small this]
      rw [dg_of (c := c) (by simp [valL]; omega), List.nil_append]
    · have hh : d'.headD 0 ≠ 48 := by
        rcases h0 with h0 | h0
        · cases d' with
          | nil => exact absurd rfl he
          | cons a l => simpa using h0
        · cases d' with
          | nil => exact absurd rfl he
          | cons a l => simp at h0
      have hv : 1 ≤ valL d' := by
        cases d' with
        | nil => exact absurd rfl he
        | cons a l =>
          have := valL_pos (l := l) (hd a (by simp)).1 (by simpa using hh)
          have : 0 < 10 ^ l.length := Nat.pow_pos (by decide)
          omega
      have h2 := ih d' (by simpa using hl) he (fun c hc => hd c (by simp [hc])) (.inl hh)
      rw [natL_big (by omega), show (10 * valL d' + (c.toNat - 48)) / 10 = valL d' by omega, h2, dg_of (c := c) (by omega)]

theorem natL_head_ne (k : Nat) : (natL k).head? ≠ some 45 := by
  cases h : natL k with
  | nil => simp
  | cons a l =>
    have := natL_digits k a (by rw [h]; simp)
    intro he
    simp at he
    rw [he] at this
    exact absurd this.1 (by decide)
theorem textL_neg {n : Int} (h : n < 0) : textL n = 45 :: natL n.natAbs := by rw [textL, if_pos h]
theorem textL_pos {n : Int} (h : ¬ n < 0) : textL n = natL n.natAbs := by rw [textL, if_neg h]
theorem textL_ne (n : Int) : textL n ≠ [] := by
  unfold textL; split
  · simp
  · exact natL_ne _
theorem strip_text (n : Int) : stripD (textL n) = natL n.natAbs := by
  by_cases h : n < 0
  · rw [textL_neg h]; rfl
  · rw [textL_pos h, stripD, if_neg (natL_head_ne _)]
theorem form_text (n : Int) : formB (textL n) = true := by
  unfold formB
  rw [strip_text]
  have h1 : (natL n.natAbs).all isD = true := List.all_eq_true.2 fun c hc => by simp [isD, natL_digits _ c hc]
  have h2 : (natL n.natAbs).isEmpty = false := by cases h : natL n.natAbs with | nil => exact absurd h (natL_ne _) | cons _ _ => rfl
  rw [h1, h2]
  by_cases h : n = 0
  · subst h
    have : textL 0 = [48] := by rw [textL_pos (by decide)]; exact natL_small (by decide)
    rw [this]; simp
  · have := natL_head n.natAbs (by omega)
    simp only [Bool.not_false, Bool.true_and, Bool.or_eq_true, bne_iff_ne]
    exact .inl this
theorem num_text (n : Int) : numZ (textL n) = n := by
  unfold numZ
  rw [strip_text, natL_val]
  by_cases h : n < 0
  · rw [textL_neg h, List.head?_cons, if_pos rfl]; omega
  · rw [textL_pos h, if_neg (natL_head_ne _)]; omega

theorem form_parts {s : List UInt8} (h : formB s = true) : (∀ c ∈ stripD s, 48 ≤ c.toNat ∧ c.toNat ≤ 57) ∧ stripD s ≠ [] ∧ ((stripD s).headD 0 ≠ 48 ∨ s = [48]) := by
  unfold formB at h
  simp only [Bool.and_eq_true, Bool.or_eq_true, List.all_eq_true, isD, decide_eq_true_eq, Bool.not_eq_true', bne_iff_ne, beq_iff_eq] at h
  obtain ⟨h1, h2, h3⟩ := h
  exact ⟨h1, by intro e; rw [e] at h2; exact absurd h2 (by decide), h3⟩
theorem text_num {s : List UInt8} (h : formB s = true) : textL (numZ s) = s := by
  obtain ⟨h1, h2, h3⟩ := form_parts h
  by_cases hm : s.head? = some 45
  · obtain ⟨r, rfl⟩ : ∃ r, s = 45 :: r := by
      cases s with
      | nil => simp at hm
      | cons a l => simp at hm; exact ⟨l, by rw [hm]⟩
    have hs : stripD (45 :: r) = r := rfl
    rw [hs] at h1 h2 h3
    have h0 : r.headD 0 ≠ 48 := by
      rcases h3 with h3 | h3
      · exact h3
      · simp at h3
    have hv : 1 ≤ valL r := by
      cases r with
      | nil => exact absurd rfl h2
      | cons a l =>
        have := valL_pos (l := l) (h1 a (by simp)).1 (by simpa using h0)
        have : 0 < 10 ^ l.length := Nat.pow_pos (by decide)
        omega
    have hz : numZ (45 :: r) = -(valL r : Int) := by unfold numZ; rw [List.head?_cons, if_pos rfl, hs]
    rw [hz, textL_neg (by omega), show (-(valL r : Int)).natAbs = valL r by omega, natL_of_val _ r rfl h2 h1 (.inl h0)]
  · have hs : stripD s = s := by rw [stripD, if_neg hm]
    rw [hs] at h1 h2 h3
    have hz : numZ s = (valL s : Int) := by unfold numZ; rw [if_neg hm, hs]
    rw [hz, textL_pos (by omega), show ((valL s : Nat) : Int).natAbs = valL s by omega, natL_of_val _ s rfl h2 h1 h3]
theorem val_big {d : List UInt8} (h1 : ∀ c ∈ d, 48 ≤ c.toNat ∧ c.toNat ≤ 57) (h0 : d.headD 0 ≠ 48) (hl : 20 ≤ d.length) : 10 ^ 19 ≤ valL d := by
  cases d with
  | nil => simp at hl
  | cons a l =>
    have h2 := valL_pos (l := l) (h1 a (by simp)).1 (by simpa using h0)
    have h3 : 10 ^ 19 ≤ 10 ^ l.length := Nat.pow_le_pow_right (by decide) (by simp at hl; omega)
    omega
theorem val_small : ∀ (d : List UInt8), (∀ c ∈ d, 48 ≤ c.toNat ∧ c.toNat ≤ 57) → valL d < 10 ^ d.length
  | [], _ => by simp [valL]
  | c :: l, h => by
    have h1 := val_small l fun c hc => h c (by simp [hc])
    have h2 := h c (by simp)
    show (c :: l).foldl _ 0 < _
    rw [List.foldl_cons, valL_cons c, List.length_cons, Nat.pow_succ]
    have : (10 * 0 + (c.toNat - 48)) * 10 ^ l.length ≤ 9 * 10 ^ l.length := Nat.mul_le_mul_right _ (by omega)
    omega

/-- The number of a text, or why there is none. -/
def parseV (s : List UInt8) (least most : Int) : Int × Int :=
  if formB s then (if -9223372036854775808 ≤ numZ s ∧ numZ s ≤ 9223372036854775807 ∧ least ≤ numZ s ∧ numZ s ≤ most then (numZ s, 0) else (0, 11)) else (0, 3)
theorem parse_back (n : Int) (h : -9223372036854775808 ≤ n ∧ n ≤ 9223372036854775807) : parseV (textL n) (-9223372036854775808) 9223372036854775807 = (n, 0) := by
  unfold parseV
  rw [form_text, num_text, if_pos rfl, if_pos ⟨h.1, h.2, h.1, h.2⟩]

/-- A row's text. -/
def rowL (l : List Int) : List UInt8 := if l = [] then [45] else Lib.join (l.map textL) [44]
theorem join_snoc (a : List UInt8) (l : List (List UInt8)) (x : List UInt8) : Lib.join ((a :: l) ++ [x]) [44] = Lib.join (a :: l) [44] ++ 44 :: x := by
  induction l generalizing a with
  | nil => simp [Lib.join_cons, Lib.joinTail]
  | cons b l ih => simp [Lib.join_cons, Lib.joinTail]
end Go.Proofs.YtjcjmjnajhkdaaaDoor
