/- A row's parts between commas, and what they are read as: the plain law; no program in sight. -/
import Derived.Test.YtjcjmjnajhkdaaaDoorDigJ
import Derived.Lib.SplitLaws
namespace Go.Proofs.YtjcjmjnajhkdaaaDoor
open Go.Lib
set_option linter.unusedVariables false
set_option linter.unusedSimpArgs false

/-- The parts of a text between commas; w: what was met since the last one. -/
def sF : List UInt8 → List UInt8 → List (List UInt8)
  | [], w => [w]
  | c :: r, w => if c = 44 then w :: sF r [] else sF r (w ++ [c])
def splitL (s : List UInt8) : List (List UInt8) := sF s []
theorem sF_ne (l w : List UInt8) : sF l w ≠ [] := by
  induction l generalizing w with
  | nil => simp [sF]
  | cons c r ih => rw [sF]; split; · simp
                   · exact ih _
theorem sF_pre (l : List UInt8) : ∀ a w, sF l (a ++ w) = (match sF l w with | [] => [] | x :: xs => (a ++ x) :: xs) := by
  induction l with
  | nil => intro a w; rfl
  | cons c r ih =>
    intro a w
    rw [sF, sF]
    split
    · rfl
    · rw [List.append_assoc, ih]
theorem splitK_ne (b c : UInt8) (h : b ≠ c) (l : List UInt8) : ∀ n, splitK [c] 0 n (b :: l) = (match splitK [c] 0 n l with | [] => [] | x :: xs => (b :: x) :: xs)
  | 0 => rfl
  | n + 1 => by
    have h' : ¬ c = b := fun e => h e.symm
    have hi : index (b :: l) [c] = if index l [c] == -1 then -1 else index l [c] + 1 := by
      rw [index]
      simp [List.isPrefixOf, h']
    rw [splitK, splitK, hi]
    by_cases h1 : index l [c] = -1
    · simp [h1]
    · have h2 : -1 ≤ index l [c] := by
        have := index_ge l [c]
        exact this
      have e1 : (index l [c] == -1) = false := by simpa using h1
      rw [e1]
      have e2 : (index l [c] + 1 == -1) = false := by rw [beq_eq_false_iff_ne]; omega
      simp only [Bool.false_eq_true, if_false, e2, Nat.add_zero]
      have e3 : (index l [c] + 1).toNat = (index l [c]).toNat + 1 := by omega
      rw [e3]
      simp
theorem splitK_split : ∀ s : List UInt8, splitK [44] 0 (s.count 44) s = splitL s
  | [] => rfl
  | b :: l => by
    have ih := splitK_split l
    unfold splitL at ih ⊢
    by_cases h : b = 44
    · subst h
      rw [List.count_cons_self, splitK, sF, if_pos rfl, ← ih]
      have hi : index (44 :: l) [44] = 0 := by rw [index]; simp [List.isPrefixOf]
      rw [hi]
      simp
    · rw [List.count_cons_of_ne (by simpa using h), splitK_ne b 44 h, ih, sF, if_neg h, List.nil_append]
      have := sF_pre l [b] []
      rw [List.append_nil] at this
      rw [this]
      cases hs : sF l [] with
      | nil => exact absurd hs (sF_ne _ _)
      | cons x xs => rfl
theorem of_data {l : List ByteArray} {L : List (List UInt8)} (h : l.map (·.data.toList) = L) : l = L.map (fun x => (⟨x.toArray⟩ : ByteArray)) := by
  rw [← h, List.map_map]
  conv => lhs; rw [← List.map_id l]
  refine List.map_congr_left fun b _ => ?_
  rfl
theorem splitB_split (s : List UInt8) : splitB ⟨#[44]⟩ 0 (countB ⟨s.toArray⟩ ⟨#[44]⟩) ⟨s.toArray⟩ = (splitL s).map (fun x => (⟨x.toArray⟩ : ByteArray)) := by
  refine of_data ?_
  rw [splitB_data]
  have hc : countB ⟨s.toArray⟩ ⟨#[44]⟩ = s.count 44 := by
    show count s [44] = _
    exact count_one 44 s
  rw [hc]
  exact splitK_split s
theorem split_count (s : List UInt8) : countB ⟨s.toArray⟩ ⟨#[44]⟩ + 1 = (splitL s).length := by
  have h1 := splitB_all ⟨#[44]⟩ (by decide) 0 _ ⟨s.toArray⟩ rfl
  rw [splitB_split, List.length_map] at h1
  exact h1.symm
theorem sF_len : ∀ (l w : List UInt8), (sF l w).length ≤ l.length + 1 ∧ ∀ x ∈ sF l w, x.length ≤ l.length + w.length
  | [], w => by simp [sF]
  | c :: r, w => by
    rw [sF]
    split
    · obtain ⟨h1, h2⟩ := sF_len r []
      refine ⟨by simp; omega, fun x hx => ?_⟩
      rcases List.mem_cons.1 hx with rfl | hx
      · simp
      · have := h2 x hx; simp at this ⊢; omega
    · obtain ⟨h1, h2⟩ := sF_len r (w ++ [c])
      refine ⟨by simp; omega, fun x hx => ?_⟩
      have := h2 x hx
      simp at this ⊢; omega

/-- The numbers of the parts, or why there are none. -/
def rowP (least most : Int) : List (List UInt8) → List Int → List Int × Int
  | [], acc => (acc, 0)
  | p :: ps, acc => if (parseV p least most).2 = 0 then rowP least most ps (acc ++ [(parseV p least most).1]) else ([], (parseV p least most).2)
def rowV (s : List UInt8) (least most : Int) : List Int × Int := if s = [45] then ([], 0) else rowP least most (splitL s) []

theorem parse_cases (s : List UInt8) (least most : Int) : ((parseV s least most).2 = 0 ∧ -9223372036854775808 ≤ (parseV s least most).1 ∧ (parseV s least most).1 ≤ 9223372036854775807 ∧ formB s = true ∧ (parseV s least most).1 = numZ s ∧ least ≤ numZ s ∧ numZ s ≤ most) ∨
    ((parseV s least most).2 = 3 ∧ (parseV s least most).1 = 0 ∧ formB s = false) ∨ ((parseV s least most).2 = 11 ∧ (parseV s least most).1 = 0 ∧ formB s = true) := by
  unfold parseV
  split
  · split
    · rename_i h1 h2; exact .inl ⟨rfl, h2.1, h2.2.1, h1, rfl, h2.2.2.1, h2.2.2.2⟩
    · rename_i h1 h2; exact .inr (.inr ⟨rfl, rfl, h1⟩)
  · rename_i h1; exact .inr (.inl ⟨rfl, rfl, by simpa using h1⟩)

theorem nocomma {n : Int} : ∀ c ∈ textL n, c ≠ 44 := by
  intro c hc e
  subst e
  unfold textL at hc
  split at hc
  · rcases List.mem_cons.1 hc with hc | hc
    · exact absurd hc (by decide)
    · exact absurd (natL_digits _ _ hc).1 (by decide)
  · exact absurd (natL_digits _ _ hc).1 (by decide)
theorem sF_run : ∀ (p l w : List UInt8), (∀ c ∈ p, c ≠ 44) → sF (p ++ l) w = sF l (w ++ p)
  | [], l, w, _ => by simp
  | c :: p, l, w, h => by
    rw [List.cons_append, sF, if_neg (h c (by simp)), sF_run p l (w ++ [c]) fun c hc => h c (by simp [hc])]
    simp
theorem split_join : ∀ (a : List UInt8) (ps : List (List UInt8)), (∀ p ∈ a :: ps, ∀ c ∈ p, c ≠ 44) → splitL (Lib.join (a :: ps) [44]) = a :: ps
  | a, [], h => by
    rw [Lib.join_one]
    have := sF_run a [] [] (h a (by simp))
    rw [List.append_nil] at this
    unfold splitL; rw [this]; rfl
  | a, b :: ps, h => by
    have ih := split_join b ps fun p hp => h p (by simp [hp])
    have e : Lib.join (a :: b :: ps) [44] = a ++ 44 :: Lib.join (b :: ps) [44] := by simp [Lib.join_cons, Lib.joinTail]
    unfold splitL at ih ⊢
    rw [e, sF_run a _ _ (h a (by simp)), sF, if_pos rfl, ih]
    rfl
theorem rowP_texts : ∀ (zs acc : List Int), (∀ z ∈ zs, -9223372036854775808 ≤ z ∧ z ≤ 9223372036854775807) → rowP (-9223372036854775808) 9223372036854775807 (zs.map textL) acc = (acc ++ zs, 0)
  | [], acc, _ => by simp [rowP]
  | z :: zs, acc, h => by
    rw [List.map_cons, rowP, parse_back z (h z (by simp)), if_pos rfl, rowP_texts zs _ fun z hz => h z (by simp [hz])]
    simp
theorem row_back (zs : List Int) (h : ∀ z ∈ zs, -9223372036854775808 ≤ z ∧ z ≤ 9223372036854775807) : rowV (rowL zs) (-9223372036854775808) 9223372036854775807 = (zs, 0) := by
  cases zs with
  | nil => rfl
  | cons z zs =>
    have e : rowL (z :: zs) = Lib.join (textL z :: zs.map textL) [44] := by unfold rowL; rw [if_neg (by simp), List.map_cons]
    have hne : rowL (z :: zs) ≠ [45] := by
      intro he
      have hs := split_join (textL z) (zs.map textL) (fun p hp => by
        rcases List.mem_cons.1 hp with rfl | hp
        · exact nocomma
        · obtain ⟨y, _, rfl⟩ := List.mem_map.1 hp; exact nocomma)
      rw [← e, he] at hs
      have h1 : splitL [45] = [[45]] := rfl
      rw [h1] at hs
      injection hs with hs _
      have hf := form_text z
      rw [← hs] at hf
      exact absurd hf (by decide)
    unfold rowV
    rw [if_neg hne, e, split_join _ _ (fun p hp => by
      rcases List.mem_cons.1 hp with rfl | hp
      · exact nocomma
      · obtain ⟨y, _, rfl⟩ := List.mem_map.1 hp; exact nocomma)]
    have := rowP_texts (z :: zs) [] h
    simpa using this
end Go.Proofs.YtjcjmjnajhkdaaaDoor
