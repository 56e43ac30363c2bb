/- Scripts, plainly: how a text is read and how a script is written; no condition. -/
import Derived.Test.YtjcjmjnajhkdaaaDoorEs
import Derived.Test.YtjcjmjnajhkdaaaDoorDg
import Derived.Test.YtjcjmjnajhkdaaaDoorSplit
namespace Go.Proofs.YtjcjmjnajhkdaaaDoor
set_option linter.unusedVariables false
set_option linter.unusedSimpArgs false
set_option maxRecDepth 100000

/-- A script. -/
structure Sc where
  pats : List (List UInt8)
  parts : List (List UInt8)
  table : Int
  skip : Bool
  every : Int
  edits : List (Int × Int × Int)
  certs : List Int
def sc0 : Sc := ⟨[], [], 0, false, 0, [], []⟩

def wPattern : List UInt8 := [112, 97, 116, 116, 101, 114, 110]
def wPart : List UInt8 := [112, 97, 114, 116]
def wScan : List UInt8 := [115, 99, 97, 110]
def wSpoil : List UInt8 := [115, 112, 111, 105, 108]
def wCerts : List UInt8 := [99, 101, 114, 116, 115]
def wSkip : List UInt8 := [115, 107, 105, 112]
def wStep : List UInt8 := [115, 116, 101, 112]
def tabW : List (List UInt8) := [[], [100, 101, 110, 115, 101], [115, 112, 97, 114, 115, 101], [108, 105, 110, 107, 115]]
def kindW : List (List UInt8) := [[], [100, 114, 111, 112], [116, 119, 105, 99, 101], [115, 119, 97, 112], [110, 117, 109], [111, 102, 116, 101, 110], [116, 117, 114, 110], [110, 97, 109, 101], [102, 108, 105, 112], [99, 117, 116], [116, 97, 105, 108]]
/-- Where a word first stands; -1: nowhere. -/
def idx : List (List UInt8) → List UInt8 → Int
  | [], _ => -1
  | x :: xs, a => if x = a then 0 else if idx xs a = -1 then -1 else idx xs a + 1

def iMin : Int := -9223372036854775808
def iMax : Int := 9223372036854775807

/-- What a line's words turn. -/
noncomputable def lineV (s : Sc) (sc cc : Bool) : List (List UInt8) → Option (Sc × Bool × Bool)
  | [a, b] =>
    if a = wPattern then (unqL b).map (fun x => ({ s with pats := s.pats ++ [x] }, sc, cc))
    else if a = wPart then (unqL b).map (fun x => ({ s with parts := s.parts ++ [x] }, sc, cc))
    else if a = wCerts then
      if (rowV b 0 1048576).2 = 0 ∧ 1 ≤ (rowV b 0 1048576).1.length ∧ (rowV b 0 1048576).1.length ≤ 400 ∧ cc = false then some ({ s with certs := (rowV b 0 1048576).1 }, sc, true) else none
    else none
  | [a, b, c, d] =>
    if a = wScan then
      if (parseV d 1 4611686018427387903).2 = 0 ∧ 0 < idx tabW b ∧ (c = wSkip ∨ c = wStep) ∧ sc = false then some ({ s with table := idx tabW b, skip := decide (c = wSkip), every := (parseV d 1 4611686018427387903).1 }, true, cc) else none
    else if a = wSpoil then
      if (parseV c iMin iMax).2 = 0 ∧ (parseV d iMin iMax).2 = 0 ∧ 0 < idx kindW b then some ({ s with edits := s.edits ++ [(idx kindW b, (parseV c iMin iMax).1, (parseV d iMin iMax).1)] }, sc, cc) else none
    else none
  | _ => none

/-- Is a line left out? -/
def dead (w : List (List UInt8)) : Bool := match w with | [] => true | a :: _ => a.headD 0 == 35

/-- Line by line. -/
noncomputable def parseGo : Sc → Bool → Bool → Nat → Nat → List (List UInt8) → Sc × Int × Int
  | s, sc, cc, n, no, [] => if sc then (s, 0, 0) else (sc0, 0, 14)
  | s, sc, cc, n, no, l :: ls =>
    if dead (wordsL l) then parseGo s sc cc n (no + 1) ls
    else if 400 < n + 1 then (sc0, no + 1, 13)
    else match lineV s sc cc (wordsL l) with
      | none => (sc0, no + 1, 3)
      | some (s', sc', cc') => parseGo s' sc' cc' (n + 1) (no + 1) ls
noncomputable def parseS (t : List UInt8) : Sc × Int × Int := parseGo sc0 false false 0 0 (linesL t)

/-- May a script be? -/
def checkV (s : Sc) : Bool := decide (s.pats.length + s.parts.length + s.edits.length + 1 + (if s.certs = [] then 0 else 1) ≤ 400) && decide (s.certs.length ≤ 400) && decide (1 ≤ s.table ∧ s.table ≤ 3) && decide (1 ≤ s.every ∧ s.every ≤ 4611686018427387903)
  && s.edits.all (fun e => decide (1 ≤ e.1 ∧ e.1 ≤ 10)) && s.certs.all (fun n => decide (0 ≤ n ∧ n ≤ 1048576))

def sp (a b : List UInt8) : List UInt8 := a ++ 32 :: b
def scanL (s : Sc) : List UInt8 := sp wScan (sp (tabW.getD s.table.toNat []) (sp (if s.skip then wSkip else wStep) (textL s.every)))
def editL (e : Int × Int × Int) : List UInt8 := sp wSpoil (sp (kindW.getD e.1.toNat []) (sp (textL e.2.1) (textL e.2.2)))
/-- A script's lines. -/
def rowsL (s : Sc) : List (List UInt8) := s.pats.map (fun p => sp wPattern (quoteL p)) ++ (s.parts.map (fun p => sp wPart (quoteL p)) ++ (scanL s :: (s.edits.map editL ++ (if s.certs = [] then [] else [sp wCerts (rowL s.certs)]))))
def printL (s : Sc) : List UInt8 := (rowsL s).flatMap (· ++ [10])

/-! ### Words and lines -/
theorem words_cons (a r : List UInt8) (h0 : a ≠ []) (h : ∀ x ∈ a, x ≠ 32) : wordsL (sp a r) = a :: wordsL r := by
  have key : ∀ (a w : List UInt8), (∀ x ∈ a, x ≠ 32) → w ++ a ≠ [] → wordsF (a ++ 32 :: r) w = (w ++ a) :: wordsF r [] := by
    intro a
    induction a with
    | nil => intro w _ hw; rw [List.nil_append, wordsF, if_pos rfl, if_neg (by simpa using hw)]; simp
    | cons c a ih =>
      intro w hx hw
      rw [List.cons_append, wordsF, if_neg (hx c (by simp)), ih _ (fun x h => hx x (by simp [h])) (by simp)]
      simp
  have := key a [] h (by simpa using h0)
  simpa [wordsL, sp] using this
theorem lines_cons (a r : List UInt8) (h : ∀ x ∈ a, x ≠ 10) : linesL (a ++ 10 :: r) = a :: linesL r := by
  have := lines_run a (10 :: r) h
  rw [this, linesL, if_pos rfl]
  simp
theorem lines_flat : ∀ (xs : List (List UInt8)) (r : List UInt8), (∀ x ∈ xs, ∀ c ∈ x, c ≠ 10) → linesL (xs.flatMap (· ++ [10]) ++ r) = xs ++ linesL r
  | [], r, _ => rfl
  | x :: xs, r, h => by
    rw [List.flatMap_cons, List.append_assoc, List.append_assoc]
    show linesL (x ++ 10 :: (xs.flatMap (· ++ [10]) ++ r)) = _
    rw [lines_cons _ _ (h x (by simp)), lines_flat xs r (fun y hy => h y (by simp [hy]))]
    rfl

/-- A byte of a number's text, or of a row's. -/
theorem text_range (n : Int) : ∀ c ∈ textL n, 44 ≤ c.toNat ∧ c.toNat ≤ 57 := by
  intro c hc
  by_cases h : n < 0
  · rw [textL_neg h] at hc
    rcases List.mem_cons.1 hc with rfl | hc
    · decide
    · have := natL_digits _ c hc; omega
  · rw [textL_pos h] at hc
    have := natL_digits _ c hc; omega
theorem join_range : ∀ (l : List (List UInt8)), (∀ x ∈ l, ∀ c ∈ x, 44 ≤ c.toNat ∧ c.toNat ≤ 57) → ∀ c ∈ Lib.join l [44], 44 ≤ c.toNat ∧ c.toNat ≤ 57
  | [], _, c, hc => by simp [Lib.join] at hc
  | [x], h, c, hc => by rw [Lib.join_one] at hc; exact h x (by simp) c hc
  | x :: y :: l, h, c, hc => by
    have e : Lib.join (x :: y :: l) [44] = x ++ [44] ++ Lib.join (y :: l) [44] := by simp [Lib.join]
    rw [e] at hc
    rcases List.mem_append.1 hc with hc | hc
    · rcases List.mem_append.1 hc with hc | hc
      · exact h x (by simp) c hc
      · simp at hc; subst hc; decide
    · exact join_range (y :: l) (fun z hz => h z (by simp [hz])) c hc
theorem row_range (l : List Int) : ∀ c ∈ rowL l, 44 ≤ c.toNat ∧ c.toNat ≤ 57 := by
  intro c hc
  unfold rowL at hc
  split at hc
  · simp at hc; subst hc; decide
  · exact join_range _ (fun x hx => by
      obtain ⟨z, _, rfl⟩ := List.mem_map.1 hx
      exact text_range z) c hc

end Go.Proofs.YtjcjmjnajhkdaaaDoor
