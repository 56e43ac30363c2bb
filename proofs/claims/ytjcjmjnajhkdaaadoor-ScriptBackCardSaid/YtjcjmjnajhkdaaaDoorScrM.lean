/- What is written of a script is read as it was; no condition but that the script may be. -/
import Derived.Test.YtjcjmjnajhkdaaaDoorScrL
namespace Go.Proofs.YtjcjmjnajhkdaaaDoor
set_option linter.unusedVariables false
set_option linter.unusedSimpArgs false
set_option maxRecDepth 100000

/-- The lines' turns, one behind the other. -/
noncomputable def goM : Sc × Bool × Bool → List (List UInt8) → Option (Sc × Bool × Bool)
  | st, [] => some st
  | st, l :: ls => match lineV st.1 st.2.1 st.2.2 (wordsL l) with | none => none | some st' => goM st' ls
def Live (l : List UInt8) : Prop := dead (wordsL l) = false

theorem go_app : ∀ (a b : List (List UInt8)) (st st' : Sc × Bool × Bool), goM st a = some st' → goM st (a ++ b) = goM st' b
  | [], b, st, st', h => by simp [goM] at h; subst h; rfl
  | l :: a, b, st, st', h => by
    rw [List.cons_append, goM]
    rw [goM] at h
    cases e : lineV st.1 st.2.1 st.2.2 (wordsL l) with
    | none => rw [e] at h; cases h
    | some st1 => rw [e] at h; exact go_app a b st1 st' h
theorem parse_go : ∀ (ls rest : List (List UInt8)) (s s' : Sc) (sc cc sc' cc' : Bool) (n no : Nat), (∀ l ∈ ls, Live l) → goM (s, sc, cc) ls = some (s', sc', cc') → n + ls.length ≤ 400 →
    parseGo s sc cc n no (ls ++ rest) = parseGo s' sc' cc' (n + ls.length) (no + ls.length) rest
  | [], rest, s, s', sc, cc, sc', cc', n, no, _, h, _ => by simp [goM] at h; obtain ⟨rfl, rfl, rfl⟩ := h; rfl
  | l :: ls, rest, s, s', sc, cc, sc', cc', n, no, hl, h, hn => by
    rw [List.length_cons] at hn
    have h1 : dead (wordsL l) = false := hl l (by simp)
    rw [goM] at h
    rw [List.cons_append, parseGo, h1]
    simp only [Bool.false_eq_true, if_false]
    rw [if_neg (by omega)]
    dsimp only at h
    cases e : lineV s sc cc (wordsL l) with
    | none => rw [e] at h; cases h
    | some st1 =>
      obtain ⟨s1, sc1, cc1⟩ := st1
      rw [e] at h
      dsimp only at h ⊢
      rw [parse_go ls rest s1 s' sc1 cc1 sc' cc' (n + 1) (no + 1) (fun x hx => hl x (by simp [hx])) h (by omega), List.length_cons, show n + 1 + ls.length = n + (ls.length + 1) by omega, show no + 1 + ls.length = no + (ls.length + 1) by omega]

theorem no32 {l : List UInt8} {a b : Nat} (h : ∀ c ∈ l, a ≤ c.toNat ∧ c.toNat ≤ b) (ha : 32 < a) : ∀ c ∈ l, c ≠ 32 := by
  intro c hc e; subst e; have := (h _ hc).1; simp at this; omega
theorem no10 {l : List UInt8} {a b : Nat} (h : ∀ c ∈ l, a ≤ c.toNat ∧ c.toNat ≤ b) (ha : 32 < a) : ∀ c ∈ l, c ≠ 10 := by
  intro c hc e; subst e; have := (h _ hc).1; simp at this; omega
theorem row_ne (l : List Int) : rowL l ≠ [] := by
  unfold rowL
  split
  · simp
  · rename_i h
    cases l with
    | nil => exact absurd rfl h
    | cons a l =>
      intro e
      have : Lib.join ((a :: l).map textL) [44] ≠ [] := by
        cases l with
        | nil => simpa [Lib.join_one] using textL_ne a
        | cons b l => simp [Lib.join, textL_ne]
      exact this e

theorem words_pat (p : List UInt8) : wordsL (sp wPattern (quoteL p)) = [wPattern, quoteL p] := by
  rw [words_cons _ _ (by decide) (by decide), words_one _ (quote_ne p) (no32 (quote_range p) (by decide))]
theorem words_part (p : List UInt8) : wordsL (sp wPart (quoteL p)) = [wPart, quoteL p] := by
  rw [words_cons _ _ (by decide) (by decide), words_one _ (quote_ne p) (no32 (quote_range p) (by decide))]
theorem words_certs (l : List Int) : wordsL (sp wCerts (rowL l)) = [wCerts, rowL l] := by
  rw [words_cons _ _ (by decide) (by decide), words_one _ (row_ne l) (no32 (row_range l) (by decide))]
theorem words_four (a b c d : List UInt8) (ha : a ≠ [] ∧ ∀ x ∈ a, x ≠ 32) (hb : b ≠ [] ∧ ∀ x ∈ b, x ≠ 32) (hc : c ≠ [] ∧ ∀ x ∈ c, x ≠ 32) (hd : d ≠ [] ∧ ∀ x ∈ d, x ≠ 32) : wordsL (sp a (sp b (sp c d))) = [a, b, c, d] := by
  rw [words_cons _ _ ha.1 ha.2, words_cons _ _ hb.1 hb.2, words_cons _ _ hc.1 hc.2, words_one _ hd.1 hd.2]
theorem text_word (n : Int) : textL n ≠ [] ∧ ∀ x ∈ textL n, x ≠ 32 := ⟨textL_ne n, no32 (text_range n) (by decide)⟩

theorem tab_word : ∀ k : Fin 4, 1 ≤ k.val → (tabW.getD k.val [] ≠ [] ∧ ∀ x ∈ tabW.getD k.val [], x ≠ 32) ∧ idx tabW (tabW.getD k.val []) = k.val ∧ ∀ x ∈ tabW.getD k.val [], x ≠ 10 := by decide
theorem kind_word : ∀ k : Fin 11, 1 ≤ k.val → (kindW.getD k.val [] ≠ [] ∧ ∀ x ∈ kindW.getD k.val [], x ≠ 32) ∧ idx kindW (kindW.getD k.val []) = k.val ∧ ∀ x ∈ kindW.getD k.val [], x ≠ 10 := by decide

theorem parse_text {n lo hi : Int} (h : -9223372036854775808 ≤ n ∧ n ≤ 9223372036854775807) (hl : lo ≤ n ∧ n ≤ hi) : parseV (textL n) lo hi = (n, 0) := by
  unfold parseV
  rw [form_text, num_text, if_pos rfl, if_pos ⟨h.1, h.2, hl.1, hl.2⟩]
theorem rowP_in (lo hi : Int) (hlo : -9223372036854775808 ≤ lo) (hhi : hi ≤ 9223372036854775807) : ∀ (zs acc : List Int), (∀ z ∈ zs, lo ≤ z ∧ z ≤ hi) → rowP lo hi (zs.map textL) acc = (acc ++ zs, 0)
  | [], acc, _ => by simp [rowP]
  | z :: zs, acc, h => by
    have hz := h z (by simp)
    rw [List.map_cons, rowP, parse_text ⟨by omega, by omega⟩ hz, if_pos rfl, rowP_in lo hi hlo hhi zs _ fun z hz => h z (by simp [hz])]
    simp
theorem row_not (z : Int) (zs : List Int) : rowL (z :: zs) ≠ [45] := by
  intro he
  have e : rowL (z :: zs) = Lib.join (textL z :: zs.map textL) [44] := by unfold rowL; rw [if_neg (by simp), List.map_cons]
  have hs := split_join (textL z) (zs.map textL) (fun p hp => by
    rcases List.mem_cons.1 hp with rfl | hp
    · exact nocomma
    · obtain ⟨y, _, rfl⟩ := List.mem_map.1 hp; exact nocomma)
  rw [← e, he] at hs
  have h1 : splitL [45] = [[45]] := rfl
  rw [h1] at hs
  injection hs with hs _
  have hf := form_text z
  rw [← hs] at hf
  exact absurd hf (by decide)
theorem row_in {lo hi : Int} (hlo : -9223372036854775808 ≤ lo) (hhi : hi ≤ 9223372036854775807) {zs : List Int} (h0 : zs ≠ []) (h : ∀ z ∈ zs, lo ≤ z ∧ z ≤ hi) : rowV (rowL zs) lo hi = (zs, 0) := by
  cases zs with
  | nil => exact absurd rfl h0
  | cons z zs =>
    have e : rowL (z :: zs) = Lib.join (textL z :: zs.map textL) [44] := by unfold rowL; rw [if_neg (by simp), List.map_cons]
    unfold rowV
    rw [if_neg (row_not z zs), e, split_join _ _ (fun p hp c hc => by
      rcases List.mem_cons.1 hp with rfl | hp
      · exact nocomma c hc
      · obtain ⟨y, _, rfl⟩ := List.mem_map.1 hp; exact nocomma c hc)]
    exact rowP_in lo hi hlo hhi (z :: zs) [] h


/-! ### The sections -/
def NumsOk (s : Sc) : Prop := ∀ e ∈ s.edits, (iMin ≤ e.2.1 ∧ e.2.1 ≤ iMax) ∧ (iMin ≤ e.2.2 ∧ e.2.2 ≤ iMax)
theorem check_parts {s : Sc} (h : checkV s = true) : s.pats.length + s.parts.length + s.edits.length + 1 + (if s.certs = [] then 0 else 1) ≤ 400 ∧ s.certs.length ≤ 400 ∧ (1 ≤ s.table ∧ s.table ≤ 3) ∧ (1 ≤ s.every ∧ s.every ≤ 4611686018427387903) ∧ (∀ e ∈ s.edits, 1 ≤ e.1 ∧ e.1 ≤ 10) ∧ (∀ n ∈ s.certs, 0 ≤ n ∧ n ≤ 1048576) := by
  unfold checkV at h
  simp only [Bool.and_eq_true, decide_eq_true_eq, List.all_eq_true] at h
  obtain ⟨⟨⟨⟨⟨h1, h2⟩, h3⟩, h4⟩, h5⟩, h6⟩ := h
  exact ⟨h1, h2, h3, h4, h5, h6⟩

theorem go_pats : ∀ (ps : List (List UInt8)) (s : Sc) (sc cc : Bool), goM (s, sc, cc) (ps.map (fun p => sp wPattern (quoteL p))) = some ({ s with pats := s.pats ++ ps }, sc, cc)
  | [], s, sc, cc => by simp [goM]
  | p :: ps, s, sc, cc => by
    rw [List.map_cons, goM]
    dsimp only
    rw [words_pat, lineV, if_pos rfl, unq_quote]
    dsimp only [Option.map]
    rw [go_pats ps]
    simp
theorem go_parts : ∀ (ps : List (List UInt8)) (s : Sc) (sc cc : Bool), goM (s, sc, cc) (ps.map (fun p => sp wPart (quoteL p))) = some ({ s with parts := s.parts ++ ps }, sc, cc)
  | [], s, sc, cc => by simp [goM]
  | p :: ps, s, sc, cc => by
    rw [List.map_cons, goM]
    dsimp only
    rw [words_part, lineV, if_neg (by decide), if_pos rfl, unq_quote]
    dsimp only [Option.map]
    rw [go_parts ps]
    simp
theorem kind_of {k : Int} (h : 1 ≤ k ∧ k ≤ 10) : (kindW.getD k.toNat [] ≠ [] ∧ ∀ x ∈ kindW.getD k.toNat [], x ≠ 32) ∧ idx kindW (kindW.getD k.toNat []) = k ∧ ∀ x ∈ kindW.getD k.toNat [], x ≠ 10 := by
  have := kind_word ⟨k.toNat, by omega⟩ (by show 1 ≤ k.toNat; omega)
  dsimp only at this
  exact ⟨this.1, by rw [this.2.1]; omega, this.2.2⟩
theorem tab_of {k : Int} (h : 1 ≤ k ∧ k ≤ 3) : (tabW.getD k.toNat [] ≠ [] ∧ ∀ x ∈ tabW.getD k.toNat [], x ≠ 32) ∧ idx tabW (tabW.getD k.toNat []) = k ∧ ∀ x ∈ tabW.getD k.toNat [], x ≠ 10 := by
  have := tab_word ⟨k.toNat, by omega⟩ (by show 1 ≤ k.toNat; omega)
  dsimp only at this
  exact ⟨this.1, by rw [this.2.1]; omega, this.2.2⟩
theorem words_edit {e : Int × Int × Int} (h : 1 ≤ e.1 ∧ e.1 ≤ 10) : wordsL (editL e) = [wSpoil, kindW.getD e.1.toNat [], textL e.2.1, textL e.2.2] :=
  words_four _ _ _ _ (by decide) (kind_of h).1 (text_word _) (text_word _)
theorem words_scan {s : Sc} (h : 1 ≤ s.table ∧ s.table ≤ 3) : wordsL (scanL s) = [wScan, tabW.getD s.table.toNat [], (if s.skip then wSkip else wStep), textL s.every] :=
  words_four _ _ _ _ (by decide) (tab_of h).1 (by split <;> decide) (text_word _)
theorem go_edits : ∀ (es : List (Int × Int × Int)) (s : Sc) (sc cc : Bool), (∀ e ∈ es, 1 ≤ e.1 ∧ e.1 ≤ 10) → (∀ e ∈ es, (iMin ≤ e.2.1 ∧ e.2.1 ≤ iMax) ∧ (iMin ≤ e.2.2 ∧ e.2.2 ≤ iMax)) →
    goM (s, sc, cc) (es.map editL) = some ({ s with edits := s.edits ++ es }, sc, cc)
  | [], s, sc, cc, _, _ => by simp [goM]
  | e :: es, s, sc, cc, hk, hn => by
    have h1 := hk e (by simp)
    have h2 := hn e (by simp)
    rw [List.map_cons, goM]
    dsimp only
    rw [words_edit h1, lineV, if_neg (by decide), if_pos rfl, parse_text h2.1 h2.1, parse_text h2.2 h2.2, (kind_of h1).2.1, if_pos ⟨rfl, rfl, by omega⟩]
    dsimp only
    rw [go_edits es _ sc cc (fun x hx => hk x (by simp [hx])) (fun x hx => hn x (by simp [hx]))]
    simp
theorem go_scan {s : Sc} (h : 1 ≤ s.table ∧ s.table ≤ 3) (he : 1 ≤ s.every ∧ s.every ≤ 4611686018427387903) (s' : Sc) (cc : Bool) (ls : List (List UInt8)) :
    goM (s', false, cc) (scanL s :: ls) = goM ({ s' with table := s.table, skip := s.skip, every := s.every }, true, cc) ls := by
  rw [goM]
  dsimp only
  rw [words_scan h, lineV, if_pos rfl, parse_text ⟨by omega, by omega⟩ he, (tab_of h).2.1, if_pos ⟨rfl, by omega, by cases s.skip <;> simp, rfl⟩]
  have : decide ((if s.skip = true then wSkip else wStep) = wSkip) = s.skip := by cases s.skip <;> decide
  simp only [this]
theorem go_certs {l : List Int} (h0 : l ≠ []) (hl : l.length ≤ 400) (h : ∀ z ∈ l, 0 ≤ z ∧ z ≤ 1048576) (s : Sc) (sc : Bool) :
    goM (s, sc, false) [sp wCerts (rowL l)] = some ({ s with certs := l }, sc, true) := by
  rw [goM]
  dsimp only
  rw [words_certs, lineV, if_neg (by decide), if_neg (by decide), if_pos rfl, row_in (by decide) (by decide) h0 h, if_pos ⟨rfl, by cases l with | nil => exact absurd rfl h0 | cons => simp, hl, rfl⟩]
  rfl

/-- All lines of a script, one behind the other. -/
theorem go_all {s : Sc} (h : checkV s = true) (hn : NumsOk s) : ∃ cc, goM (sc0, false, false) (rowsL s) = some (s, true, cc) := by
  obtain ⟨h1, h2, h3, h4, h5, h6⟩ := check_parts h
  unfold rowsL
  rw [go_app _ _ _ _ (go_pats s.pats sc0 false false), go_app _ _ _ _ (go_parts s.parts _ false false), go_scan h3 h4, go_app _ _ _ _ (go_edits s.edits _ true false h5 hn)]
  by_cases hc : s.certs = []
  · refine ⟨false, ?_⟩
    rw [if_pos hc]
    cases s
    simp at hc
    subst hc
    simp [goM, sc0]
  · refine ⟨true, ?_⟩
    rw [if_neg hc, go_certs hc h2 h6]
    simp [sc0]

theorem rows_len (s : Sc) : (rowsL s).length = s.pats.length + s.parts.length + s.edits.length + 1 + (if s.certs = [] then 0 else 1) := by
  unfold rowsL
  by_cases h : s.certs = [] <;> simp [h] <;> omega

theorem rows_live {s : Sc} (h : checkV s = true) : ∀ l ∈ rowsL s, Live l ∧ ∀ c ∈ l, c ≠ 10 := by
  obtain ⟨h1, h2, h3, h4, h5, h6⟩ := check_parts h
  have app10 : ∀ (a b : List UInt8), (∀ c ∈ a, c ≠ 10) → (∀ c ∈ b, c ≠ 10) → ∀ c ∈ sp a b, c ≠ 10 := by
    intro a b ha hb c hc
    rcases List.mem_append.1 hc with hc | hc
    · exact ha c hc
    · rcases List.mem_cons.1 hc with rfl | hc
      · decide
      · exact hb c hc
  have q10 := fun p => no10 (quote_range p) (by decide)
  have t10 := fun p => no10 (text_range p) (by decide)
  have r10 := fun p => no10 (row_range p) (by decide)
  intro l hl
  unfold rowsL at hl
  rcases List.mem_append.1 hl with hl | hl
  · obtain ⟨p, _, rfl⟩ := List.mem_map.1 hl
    exact ⟨by unfold Live; rw [words_pat]; rfl, app10 _ _ (by decide) (q10 p)⟩
  rcases List.mem_append.1 hl with hl | hl
  · obtain ⟨p, _, rfl⟩ := List.mem_map.1 hl
    exact ⟨by unfold Live; rw [words_part]; rfl, app10 _ _ (by decide) (q10 p)⟩
  rcases List.mem_cons.1 hl with rfl | hl
  · exact ⟨by unfold Live; rw [words_scan h3]; rfl, app10 _ _ (by decide) (app10 _ _ (tab_of h3).2.2 (app10 _ _ (by split <;> decide) (t10 _)))⟩
  rcases List.mem_append.1 hl with hl | hl
  · obtain ⟨e, he, rfl⟩ := List.mem_map.1 hl
    exact ⟨by unfold Live; rw [words_edit (h5 e he)]; rfl, app10 _ _ (by decide) (app10 _ _ (kind_of (h5 e he)).2.2 (app10 _ _ (t10 _) (t10 _)))⟩
  · split at hl
    · cases hl
    · simp at hl
      subst hl
      exact ⟨by unfold Live; rw [words_certs]; rfl, app10 _ _ (by decide) (r10 _)⟩

/-- WHAT IS PRINTED IS PARSED AS IT WAS. -/
theorem parse_print {s : Sc} (h : checkV s = true) (hn : NumsOk s) : parseS (printL s) = (s, 0, 0) := by
  obtain ⟨cc, hg⟩ := go_all h hn
  have hl := rows_live h
  unfold parseS printL
  have e := lines_flat (rowsL s) [] (fun x hx => (hl x hx).2)
  rw [List.append_nil] at e
  rw [e, parse_go (rowsL s) _ sc0 s false false true cc 0 0 (fun l hx => (hl l hx).1) hg (by rw [rows_len]; have := (check_parts h).1; omega)]
  rw [linesL, parseGo, if_pos (by decide), parseGo]
  rfl

/-- With remarks between, too. -/
theorem parse_print' {s : Sc} (h : checkV s = true) (hn : NumsOk s) : parseS ([10, 35, 32, 97, 103, 97, 105, 110, 10] ++ printL s ++ [32, 32, 35, 32, 116, 104, 101, 32, 101, 110, 100]) = (s, 0, 0) := by
  obtain ⟨cc, hg⟩ := go_all h hn
  have hl := rows_live h
  unfold parseS printL
  have e := lines_flat (rowsL s) [32, 32, 35, 32, 116, 104, 101, 32, 101, 110, 100] (fun x hx => (hl x hx).2)
  rw [List.append_assoc]
  have e1 := lines_cons [] ([35, 32, 97, 103, 97, 105, 110, 10] ++ ((rowsL s).flatMap (· ++ [10]) ++ [32, 32, 35, 32, 116, 104, 101, 32, 101, 110, 100])) (by simp)
  have e2 := lines_cons [35, 32, 97, 103, 97, 105, 110] ((rowsL s).flatMap (· ++ [10]) ++ [32, 32, 35, 32, 116, 104, 101, 32, 101, 110, 100]) (by decide)
  rw [show ([10, 35, 32, 97, 103, 97, 105, 110, 10] : List UInt8) ++ ((rowsL s).flatMap (· ++ [10]) ++ [32, 32, 35, 32, 116, 104, 101, 32, 101, 110, 100]) = [] ++ 10 :: ([35, 32, 97, 103, 97, 105, 110, 10] ++ ((rowsL s).flatMap (· ++ [10]) ++ [32, 32, 35, 32, 116, 104, 101, 32, 101, 110, 100])) from rfl, e1]
  rw [show ([35, 32, 97, 103, 97, 105, 110, 10] : List UInt8) ++ ((rowsL s).flatMap (· ++ [10]) ++ [32, 32, 35, 32, 116, 104, 101, 32, 101, 110, 100]) = [35, 32, 97, 103, 97, 105, 110] ++ 10 :: ((rowsL s).flatMap (· ++ [10]) ++ [32, 32, 35, 32, 116, 104, 101, 32, 101, 110, 100]) from rfl, e2, e]
  rw [parseGo, if_pos (by decide), parseGo, if_pos (by decide), parse_go (rowsL s) _ sc0 s false false true cc 0 _ (fun l hx => (hl l hx).1) hg (by rw [rows_len]; have := (check_parts h).1; omega)]
  rw [show linesL [32, 32, 35, 32, 116, 104, 101, 32, 101, 110, 100] = [[32, 32, 35, 32, 116, 104, 101, 32, 101, 110, 100]] by decide, parseGo, if_pos (by decide), parseGo]
  rfl

end Go.Proofs.YtjcjmjnajhkdaaaDoor
