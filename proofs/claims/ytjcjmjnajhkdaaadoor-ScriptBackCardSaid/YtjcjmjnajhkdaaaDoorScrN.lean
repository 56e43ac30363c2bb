/- What is parsed of a text may be, and is no longer than it; no condition. -/
import Derived.Test.YtjcjmjnajhkdaaaDoorScrM
namespace Go.Proofs.YtjcjmjnajhkdaaaDoor
set_option linter.unusedVariables false
set_option linter.unusedSimpArgs false
set_option maxRecDepth 100000

/-- How long words are, with a space behind each. -/
def wl (ws : List (List UInt8)) : Nat := (ws.map (fun x => x.length + 1)).sum
theorem wordsF_sum : ∀ (l w : List UInt8), wl (wordsF l w) ≤ l.length + w.length + 1
  | [], w => by
    unfold wordsF; split
    · simp [wl]
    · simp [wl]
  | c :: r, w => by
    unfold wordsF; split
    · have := wordsF_sum r []
      split <;> simp [wl] at this ⊢ <;> omega
    · have := wordsF_sum r (w ++ [c])
      simp at this ⊢; omega
theorem words_sum (l : List UInt8) : wl (wordsL l) ≤ l.length + 1 := by have := wordsF_sum l []; simpa [wordsL] using this
theorem lines_sum : ∀ l, wl (linesL l) = l.length + 1
  | [] => rfl
  | c :: l => by
    have ih := lines_sum l
    unfold linesL
    split
    · simp [wl] at ih ⊢; omega
    · cases h : linesL l with
      | nil => exact absurd h (lines_ne l)
      | cons x xs => rw [h] at ih; simp [wl] at ih ⊢; omega

/-- How long a script is, written. -/
def sl (s : Sc) : Nat := (s.pats.map (fun p => (quoteL p).length + 9)).sum + (s.parts.map (fun p => (quoteL p).length + 6)).sum + (s.edits.map (fun e => (editL e).length + 1)).sum

/-- What holds of a script while it is read. -/
structure Fine (s : Sc) (sc cc : Bool) (n z : Nat) : Prop where
  count : s.pats.length + s.parts.length + s.edits.length + (if sc then 1 else 0) + (if cc then 1 else 0) ≤ n
  some_ : cc = true ↔ s.certs ≠ []
  few : s.certs.length ≤ 400
  conf : sc = true → (1 ≤ s.table ∧ s.table ≤ 3) ∧ (1 ≤ s.every ∧ s.every ≤ 4611686018427387903)
  kinds : ∀ e ∈ s.edits, 1 ≤ e.1 ∧ e.1 ≤ 10
  nums : NumsOk s
  certs : ∀ c ∈ s.certs, 0 ≤ c ∧ c ≤ 1048576
  long : sl s + (if sc then (scanL s).length + 1 else 0) + (if cc then (rowL s.certs).length + 7 else 0) ≤ z

theorem idx_le (l : List (List UInt8)) (a : List UInt8) : -1 ≤ idx l a ∧ idx l a < l.length := by
  induction l with
  | nil => exact ⟨by simp [idx], by simp [idx]⟩
  | cons x xs ih =>
    unfold idx
    split
    · simp
    · split <;> simp <;> omega
theorem idx_get : ∀ (l : List (List UInt8)) (a : List UInt8) (k : Nat), idx l a = (k : Int) → l.getD k [] = a
  | [], a, k, h => by simp [idx] at h
  | x :: xs, a, k, h => by
    unfold idx at h
    split at h
    · rename_i hx
      obtain rfl : k = 0 := by omega
      simpa using hx
    · split at h
      · omega
      · obtain ⟨j, rfl⟩ : ∃ j, k = j + 1 := ⟨k - 1, by have := (idx_le xs a).1; omega⟩
        rw [List.getD_cons_succ]
        exact idx_get xs a j (by omega)


theorem join_sF : ∀ (l w : List UInt8), Lib.join (sF l w) [44] = w ++ l
  | [], w => by simp [sF, Lib.join_one]
  | c :: l, w => by
    unfold sF
    split
    · rename_i hc
      have ih := join_sF l []
      cases h : sF l [] with
      | nil => exact absurd h (sF_ne l [])
      | cons x xs =>
        rw [h] at ih
        rw [Lib.join_cons]
        have e : Lib.joinTail [44] (x :: xs) = 44 :: Lib.join (x :: xs) [44] := by rw [Lib.join_cons]; simp [Lib.joinTail]
        rw [e, ih, hc]
        simp
    · rw [join_sF l (w ++ [c])]
      simp
theorem rowP_ok (lo hi : Int) : ∀ (ps : List (List UInt8)) (acc : List Int), (rowP lo hi ps acc).2 = 0 → (rowP lo hi ps acc).1 = acc ++ ps.map numZ ∧ ∀ p ∈ ps, formB p = true ∧ lo ≤ numZ p ∧ numZ p ≤ hi
  | [], acc, _ => by simp [rowP]
  | p :: ps, acc, h => by
    rw [rowP] at h ⊢
    by_cases h0 : (parseV p lo hi).2 = 0
    · rw [if_pos h0] at h ⊢
      have ih := rowP_ok lo hi ps _ h
      have hp : formB p = true ∧ (parseV p lo hi).1 = numZ p ∧ lo ≤ numZ p ∧ numZ p ≤ hi := by
        rcases parse_cases p lo hi with h | h | h
        · exact ⟨h.2.2.2.1, h.2.2.2.2.1, h.2.2.2.2.2⟩
        · omega
        · omega
      refine ⟨by rw [ih.1, hp.2.1]; simp, fun q hq => ?_⟩
      rcases List.mem_cons.1 hq with rfl | hq
      · exact ⟨hp.1, hp.2.2⟩
      · exact ih.2 q hq
    · rw [if_neg h0] at h
      exact absurd h h0
theorem row_text {b : List UInt8} {lo hi : Int} (h : (rowV b lo hi).2 = 0) (hne : (rowV b lo hi).1 ≠ []) : rowL (rowV b lo hi).1 = b ∧ ∀ z ∈ (rowV b lo hi).1, lo ≤ z ∧ z ≤ hi := by
  unfold rowV at h hne ⊢
  split
  · rename_i e; rw [if_pos e] at hne; exact absurd rfl hne
  · rename_i e
    rw [if_neg e] at h hne
    obtain ⟨h1, h2⟩ := rowP_ok lo hi _ _ h
    rw [h1] at hne ⊢
    rw [List.nil_append] at hne ⊢
    refine ⟨?_, fun z hz => ?_⟩
    · unfold rowL
      rw [if_neg hne, List.map_map]
      have : (splitL b).map (textL ∘ numZ) = splitL b := by
        conv => rhs; rw [← List.map_id (splitL b)]
        exact List.map_congr_left fun q hq => text_num (h2 q hq).1
      rw [this]
      have := join_sF b []
      simpa [splitL] using this
    · obtain ⟨q, hq, rfl⟩ := List.mem_map.1 hz
      exact (h2 q hq).2
theorem parse_fine {s : List UInt8} {lo hi : Int} (h : (parseV s lo hi).2 = 0) : textL (parseV s lo hi).1 = s ∧ (lo ≤ (parseV s lo hi).1 ∧ (parseV s lo hi).1 ≤ hi) ∧ (iMin ≤ (parseV s lo hi).1 ∧ (parseV s lo hi).1 ≤ iMax) := by
  rcases parse_cases s lo hi with h' | h' | h'
  · obtain ⟨_, a, b, c, d, e, f⟩ := h'
    exact ⟨by rw [d, text_num c], by rw [d]; exact ⟨e, f⟩, a, b⟩
  · omega
  · omega

theorem unq_text {b x : List UInt8} (h : unqL b = some x) : quoteL x = b := unq_iff.1 h

/-- A line keeps it. -/
theorem fine_line {s s' : Sc} {sc cc sc' cc' : Bool} {n z : Nat} {ws : List (List UInt8)} (h : Fine s sc cc n z) (hl : lineV s sc cc ws = some (s', sc', cc')) : Fine s' sc' cc' (n + 1) (z + wl ws) := by
  obtain ⟨c1, c2, c3, c4, c5, c6, c7, c8⟩ := h
  unfold lineV at hl
  split at hl
  · rename_i a b
    split at hl
    · rename_i ha
      cases hu : unqL b with
      | none => rw [hu] at hl; cases hl
      | some x =>
        rw [hu] at hl
        simp only [Option.map_some, Option.some.injEq, Prod.mk.injEq] at hl
        obtain ⟨rfl, rfl, rfl⟩ := hl
        have hb := unq_text hu
        refine ⟨by simp; omega, c2, c3, c4, c5, c6, c7, ?_⟩
        subst ha
        have e2 : sl { s with pats := s.pats ++ [x] } = sl s + (b.length + 9) := by simp [sl, hb]; omega
        have e3 : scanL { s with pats := s.pats ++ [x] } = scanL s := rfl
        rw [e2, e3]
        simp [wl, wPattern]
        omega
    split at hl
    · rename_i _ ha
      cases hu : unqL b with
      | none => rw [hu] at hl; cases hl
      | some x =>
        rw [hu] at hl
        simp only [Option.map_some, Option.some.injEq, Prod.mk.injEq] at hl
        obtain ⟨rfl, rfl, rfl⟩ := hl
        have hb := unq_text hu
        refine ⟨by simp; omega, c2, c3, c4, c5, c6, c7, ?_⟩
        subst ha
        have e2 : sl { s with parts := s.parts ++ [x] } = sl s + (b.length + 6) := by simp [sl, hb]; omega
        have e3 : scanL { s with parts := s.parts ++ [x] } = scanL s := rfl
        rw [e2, e3]
        simp [wl, wPart]
        omega
    split at hl
    · rename_i _ _ ha
      split at hl
      · rename_i hr
        obtain ⟨r1, r2, r3, r4⟩ := hr
        simp only [Option.some.injEq, Prod.mk.injEq] at hl
        obtain ⟨rfl, rfl, rfl⟩ := hl
        have hne : (rowV b 0 1048576).1 ≠ [] := by intro e; rw [e] at r2; simp at r2
        obtain ⟨t1, t2⟩ := row_text r1 hne
        subst r4
        refine ⟨by simp at c1 ⊢; omega, by simp [hne], r3, c4, c5, c6, t2, ?_⟩
        subst ha
        have e3 : scanL { s with certs := (rowV b 0 1048576).1 } = scanL s := rfl
        have e2 : sl { s with certs := (rowV b 0 1048576).1 } = sl s := rfl
        rw [e2, e3]
        simp only [t1]
        simp [wl, wCerts] at c8 ⊢
        omega
      · cases hl
    · cases hl
  · rename_i a b c d
    split at hl
    · rename_i ha
      split at hl
      · rename_i hr
        obtain ⟨r1, r2, r3, r4⟩ := hr
        simp only [Option.some.injEq, Prod.mk.injEq] at hl
        obtain ⟨rfl, rfl, rfl⟩ := hl
        subst r4
        obtain ⟨t1, t2, t3⟩ := parse_fine r1
        have hi := idx_le tabW b
        have hk := idx_get tabW b (idx tabW b).toNat (by omega)
        have hi2 : idx tabW b < 4 := hi.2
        refine ⟨by simp at c1 ⊢; omega, c2, c3, fun _ => ⟨by dsimp only; omega, t2⟩, c5, c6, c7, ?_⟩
        subst ha
        have e2 : sl { s with table := idx tabW b, skip := decide (c = wSkip), every := (parseV d 1 4611686018427387903).1 } = sl s := rfl
        have e3 : (scanL { s with table := idx tabW b, skip := decide (c = wSkip), every := (parseV d 1 4611686018427387903).1 }).length = b.length + c.length + d.length + 7 := by
          unfold scanL sp
          dsimp only
          rw [hk, t1]
          rcases r3 with rfl | rfl
          · simp [wScan, wSkip]; omega
          · rw [show decide (wStep = wSkip) = false from by decide]; simp [wScan, wStep]; omega
        rw [e2, e3]
        simp [wl, wScan] at c8 ⊢
        omega
      · cases hl
    split at hl
    · rename_i _ ha
      split at hl
      · rename_i hr
        obtain ⟨r1, r2, r3⟩ := hr
        simp only [Option.some.injEq, Prod.mk.injEq] at hl
        obtain ⟨rfl, rfl, rfl⟩ := hl
        obtain ⟨t1, _, t3⟩ := parse_fine r1
        obtain ⟨u1, _, u3⟩ := parse_fine r2
        have hi := idx_le kindW b
        have hk := idx_get kindW b (idx kindW b).toNat (by omega)
        have hi2 : idx kindW b < 11 := hi.2
        refine ⟨by simp; omega, c2, c3, c4, ?_, ?_, c7, ?_⟩
        · intro e he
          rcases List.mem_append.1 he with he | he
          · exact c5 e he
          · simp at he; subst he; dsimp only; omega
        · intro e he
          rcases List.mem_append.1 he with he | he
          · exact c6 e he
          · simp at he; subst he; exact ⟨t3, u3⟩
        · subst ha
          have e4 : (editL (idx kindW b, (parseV c iMin iMax).1, (parseV d iMin iMax).1)).length = b.length + c.length + d.length + 8 := by
            unfold editL sp
            dsimp only
            rw [hk, t1, u1]
            simp [wSpoil]; omega
          have e2 : sl { s with edits := s.edits ++ [(idx kindW b, (parseV c iMin iMax).1, (parseV d iMin iMax).1)] } = sl s + (b.length + c.length + d.length + 9) := by simp [sl, e4]; omega
          have e3 : scanL { s with edits := s.edits ++ [(idx kindW b, (parseV c iMin iMax).1, (parseV d iMin iMax).1)] } = scanL s := rfl
          rw [e2, e3]
          simp [wl, wSpoil] at c8 ⊢
          omega
      · cases hl
    · cases hl
  · cases hl

/-- All lines keep it. -/
theorem fine_go : ∀ (ls : List (List UInt8)) (s : Sc) (sc cc : Bool) (n no z : Nat) (r : Sc), Fine s sc cc n z → n ≤ 400 → (∃ m, parseGo s sc cc n no ls = (r, m, 0)) → ∃ cc' n', Fine r true cc' n' (z + wl ls) ∧ n' ≤ 400
  | [], s, sc, cc, n, no, z, r, h, hn, ⟨m, e⟩ => by
    rw [parseGo] at e
    cases sc with
    | true =>
      rw [if_pos rfl] at e
      injection e with e _
      subst e
      exact ⟨cc, n, by simpa [wl] using h, hn⟩
    | false => rw [if_neg (by decide)] at e; injection e with _ e; injection e with _ e; exact absurd e (by decide)
  | l :: ls, s, sc, cc, n, no, z, r, h, hn, ⟨m, e⟩ => by
    have hw := words_sum l
    have e1 : wl (l :: ls) = l.length + 1 + wl ls := by simp [wl]
    rw [parseGo] at e
    split at e
    · obtain ⟨cc', n', h1, h2⟩ := fine_go ls s sc cc n (no + 1) z r h hn ⟨m, e⟩
      refine ⟨cc', n', ?_, h2⟩
      obtain ⟨d1, d2, d3, d4, d5, d6, d7, d8⟩ := h1
      exact ⟨d1, d2, d3, d4, d5, d6, d7, by rw [e1]; omega⟩
    · split at e
      · injection e with _ e; injection e with _ e; exact absurd e (by decide)
      · rename_i hn4
        cases hl : lineV s sc cc (wordsL l) with
        | none => rw [hl] at e; injection e with _ e; injection e with _ e; exact absurd e (by decide)
        | some st =>
          obtain ⟨s1, sc1, cc1⟩ := st
          rw [hl] at e
          obtain ⟨cc', n', h1, h2⟩ := fine_go ls s1 sc1 cc1 (n + 1) (no + 1) _ r (fine_line h hl) (by omega) ⟨m, e⟩
          refine ⟨cc', n', ?_, h2⟩
          obtain ⟨d1, d2, d3, d4, d5, d6, d7, d8⟩ := h1
          exact ⟨d1, d2, d3, d4, d5, d6, d7, by rw [e1]; omega⟩

theorem flat_len (xs : List (List UInt8)) : (xs.flatMap (· ++ [10])).length = wl xs := by
  induction xs with
  | nil => rfl
  | cons x xs ih => rw [List.flatMap_cons, List.length_append, ih]; simp [wl]
/-- WHAT IS PARSED MAY BE, and is no longer than the text. -/
theorem parse_may {t : List UInt8} {r : Sc} {m : Int} (h : parseS t = (r, m, 0)) : checkV r = true ∧ NumsOk r ∧ (printL r).length ≤ t.length + 1 := by
  have h0 : Fine sc0 false false 0 0 := ⟨by simp [sc0], by simp [sc0], by simp [sc0], by simp, by simp [sc0], by simp [NumsOk, sc0], by simp [sc0], by simp [sl, sc0]⟩
  obtain ⟨cc, n, ⟨d1, d2, d3, d4, d5, d6, d7, d8⟩, hn⟩ := fine_go _ _ _ _ _ _ 0 r h0 (by omega) ⟨m, h⟩
  obtain ⟨d4a, d4b⟩ := d4 rfl
  have hcc : (if cc then 1 else 0) = (if r.certs = [] then 0 else 1) := by
    by_cases hc : r.certs = []
    · have : cc = false := by cases cc with | false => rfl | true => exact absurd hc (d2.1 rfl)
      simp [hc, this]
    · have : cc = true := d2.2 hc
      simp [hc, this]
  refine ⟨?_, d6, ?_⟩
  · unfold checkV
    simp only [Bool.and_eq_true, decide_eq_true_eq, List.all_eq_true]
    refine ⟨⟨⟨⟨⟨?_, d3⟩, d4a⟩, d4b⟩, d5⟩, d7⟩
    rw [← hcc]
    simp at d1
    omega
  · rw [lines_sum] at d8
    unfold printL
    rw [flat_len]
    have e1 : wl (rowsL r) = (r.pats.map (fun p => (quoteL p).length + 9)).sum + ((r.parts.map (fun p => (quoteL p).length + 6)).sum + ((scanL r).length + 1 + ((r.edits.map (fun e => (editL e).length + 1)).sum + (if r.certs = [] then 0 else (rowL r.certs).length + 7)))) := by
      unfold rowsL wl
      simp only [List.map_append, List.sum_append, List.map_map, List.map_cons, List.sum_cons]
      have p1 : ∀ p, (sp wPattern (quoteL p)).length + 1 = (quoteL p).length + 9 := fun p => by simp [sp, wPattern]
      have p2 : ∀ p, (sp wPart (quoteL p)).length + 1 = (quoteL p).length + 6 := fun p => by simp [sp, wPart]
      have p3 : ∀ l, (sp wCerts (rowL l)).length + 1 = (rowL l).length + 7 := fun p => by simp [sp, wCerts]
      simp only [Function.comp_def, p1, p2]
      split
      · rfl
      · simp only [List.map_cons, List.map_nil, List.sum_cons, List.sum_nil, p3]; omega
    rw [e1]
    have hc2 : (if cc then (rowL r.certs).length + 7 else 0) = (if r.certs = [] then 0 else (rowL r.certs).length + 7) := by
      by_cases hc : r.certs = []
      · have : cc = false := by cases cc with | false => rfl | true => exact absurd hc (d2.1 rfl)
        simp [hc, this]
      · simp [hc, d2.2 hc]
    rw [hc2] at d8
    simp only [if_true, sl] at d8
    omega

end Go.Proofs.YtjcjmjnajhkdaaaDoor
