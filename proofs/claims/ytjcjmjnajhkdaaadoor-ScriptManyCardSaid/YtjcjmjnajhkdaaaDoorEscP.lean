/- The words of a line, by bytes: what FieldsFunc at a blank gives, too; no condition. -/
import Derived.Test.YtjcjmjnajhkdaaaDoorProg
import Derived.Lib.FieldsP
import Derived.Lib.SpaceUEq
namespace Go.Proofs.YtjcjmjnajhkdaaaDoor
open Go.Lib
set_option linter.unusedVariables false
set_option linter.unusedSimpArgs false

def wordsF : List UInt8 → List UInt8 → List (List UInt8)
  | [], w => if w = [] then [] else [w]
  | c :: r, w => if c = 32 then (if w = [] then [] else [w]) ++ wordsF r [] else wordsF r (w ++ [c])
def isSp (n : Nat) : Bool := n == 32

theorem wordsF_skip : ∀ (k : Nat) (l w : List UInt8), k ≤ l.length → (∀ j, j < k → l.getD j 0 ≠ 32) → wordsF l w = wordsF (l.drop k) (w ++ l.take k)
  | 0, l, w, _, _ => by simp
  | k + 1, [], w, h, _ => by simp at h
  | k + 1, c :: r, w, h, hz => by
    have h0 := hz 0 (by omega)
    have hc : c ≠ 32 := by simpa using h0
    rw [wordsF, if_neg hc, wordsF_skip k r (w ++ [c]) (by simpa using h) (fun j hj => by have := hz (j + 1) (by omega); simpa using this)]
    simp

theorem decodeN_sp (n b0 b1 b2 b3 : Nat) : ((decodeN n b0 b1 b2 b3).1 = 32 ∧ b0 = 32 ∧ (decodeN n b0 b1 b2 b3).2 = 1) ∨ ((decodeN n b0 b1 b2 b3).1 ≠ 32 ∧ b0 ≠ 32) := by
  unfold decodeN
  repeat' split
  all_goals (first | omega | (simp only; omega))

theorem get_getD (s : ByteArray) (i : Nat) : s.get! i = s.data.toList.getD i 0 := by
  show s.data[i]! = _
  rw [Array.getElem!_eq_getD, Array.getD_eq_getD_getElem?, List.getD_eq_getElem?_getD, Array.getElem?_toList]
  rfl

theorem sp_step (s : ByteArray) (pos : Nat) (h : pos < s.size) :
    1 ≤ (Utf8.decode s pos).2 ∧ pos + (Utf8.decode s pos).2 ≤ s.size ∧
    ((isSp (Utf8.decode s pos).1 = true ∧ s.data.toList.getD pos 0 = 32 ∧ (Utf8.decode s pos).2 = 1) ∨
     (isSp (Utf8.decode s pos).1 = false ∧ ∀ j, j < (Utf8.decode s pos).2 → (s.data.toList.drop pos).getD j 0 ≠ 32)) := by
  have hw := width_pos s pos
  have h1 := decodeN_le_n' (s.size - pos) (s.get! pos).toNat (s.get! (pos + 1)).toNat (s.get! (pos + 2)).toNat (s.get! (pos + 3)).toNat (by omega)
  have h2 := decodeN_sp (s.size - pos) (s.get! pos).toNat (s.get! (pos + 1)).toNat (s.get! (pos + 2)).toNat (s.get! (pos + 3)).toNat
  have h3 := decodeN_conts (s.size - pos) (s.get! pos).toNat (s.get! (pos + 1)).toNat (s.get! (pos + 2)).toNat (s.get! (pos + 3)).toNat
  rw [← decode_at] at h1 h2 h3
  obtain ⟨c2, c3, c4, c5⟩ := h3
  refine ⟨hw, by omega, ?_⟩
  rcases h2 with ⟨e1, e2, e3⟩ | ⟨e1, e2⟩
  · refine .inl ⟨by simp [isSp, e1], ?_, e3⟩
    rw [← get_getD]
    exact UInt8.toNat_inj.1 e2
  · refine .inr ⟨by simp [isSp, e1], fun j hj he => ?_⟩
    have hd : (s.data.toList.drop pos).getD j 0 = s.get! (pos + j) := by
      rw [get_getD, List.getD_eq_getElem?_getD, List.getElem?_drop, List.getD_eq_getElem?_getD]
    rw [hd] at he
    have he' : (s.get! (pos + j)).toNat = 32 := by rw [he]; rfl
    match j, hj, he' with
    | 0, _, he' => exact e2 he'
    | 1, hj, he' => have := (c2 (by omega)).1; rw [he'] at this; omega
    | 2, hj, he' => have := (c3 (by omega)).1; rw [he'] at this; omega
    | 3, hj, he' => have := (c4 (by omega)).1; rw [he'] at this; omega
    | j + 4, hj, _ => omega

theorem wspans (s : ByteArray) : ∀ (f pos : Nat) (st : Option Nat) (acc : List (Nat × Nat)), s.size ≤ pos + f → pos ≤ s.size → (∀ a, st = some a → a < pos) →
    acc.map (fun p => pieceU s.data.toList p.1 p.2) ++ wordsF (s.data.toList.drop pos) (openPiece s.data.toList st pos) = (closeSpans s (spansFromP isSp s f pos st acc)).map (fun p => pieceU s.data.toList p.1 p.2)
  | f, pos, st, acc, h, hp, hst => by
    by_cases hlt : pos < s.size
    · cases f with
      | zero => omega
      | succ f =>
      obtain ⟨hw, hwn, hd⟩ := sp_step s pos hlt
      have hlen : s.data.toList.length = s.size := by rw [← Lib.size_eq]
      simp only [spansFromP, if_pos hlt]
      rcases hd with ⟨e1, e2, e3⟩ | ⟨e1, e2⟩
      · have hcons : s.data.toList.drop pos = 32 :: s.data.toList.drop (pos + 1) := by
          rw [List.drop_eq_getElem_cons (by omega)]
          congr 1
          rw [List.getD_eq_getElem?_getD, List.getElem?_eq_getElem (by omega)] at e2
          exact e2
        rw [hcons]
        simp only [wordsF, e1, if_true, e3]
        cases st with
        | none =>
          have ih := wspans s f (pos + 1) none acc (by omega) (by omega) (fun a h => by cases h)
          simpa [openPiece] using ih
        | some a =>
          have hpn := pieceU_ne s.data.toList a pos (hst a rfl) (by omega)
          have ih := wspans s f (pos + 1) none (acc ++ [(a, pos)]) (by omega) (by omega) (fun a h => by cases h)
          simpa [openPiece, hpn] using ih
      · simp only [e1, Bool.false_eq_true, if_false]
        rw [wordsF_skip (Utf8.decode s pos).2 _ _ (by rw [List.length_drop]; omega) e2, List.drop_drop]
        cases st with
        | none =>
          have ih := wspans s f (pos + (Utf8.decode s pos).2) (some pos) acc (by omega) hwn (fun a h => by cases h; omega)
          have e : ([] : List UInt8) ++ (s.data.toList.drop pos).take (Utf8.decode s pos).2 = pieceU s.data.toList pos (pos + (Utf8.decode s pos).2) := by
            unfold pieceU
            rw [List.nil_append, Nat.add_sub_cancel_left]
          simp only [openPiece] at ih ⊢
          rw [e]
          exact ih
        | some a =>
          have ih := wspans s f (pos + (Utf8.decode s pos).2) (some a) acc (by omega) hwn (fun b h => by cases h; have := hst a rfl; omega)
          simp only [openPiece] at ih ⊢
          rw [pieceU_grow _ _ _ _ (Nat.le_of_lt (hst a rfl))]
          exact ih
    · obtain rfl : pos = s.size := by omega
      have hd : s.data.toList.drop s.size = [] := List.drop_eq_nil_of_le (by rw [← Lib.size_eq]; exact Nat.le_refl _)
      rw [hd, spansFromP_end isSp s _ _ _ _ hlt]
      cases st with
      | none => simp [wordsF, closeSpans, openPiece]
      | some a =>
        have := pieceU_ne s.data.toList a s.size (hst a rfl) (by rw [← Lib.size_eq]; exact Nat.le_refl _)
        simp [wordsF, closeSpans, openPiece, this]

/-- The words of a line. -/
def wordsL (l : List UInt8) : List (List UInt8) := wordsF l []

theorem fields_words (l : List UInt8) : goFieldsP isSp ⟨l.toArray⟩ = (wordsL l).map (fun x => (⟨x.toArray⟩ : ByteArray)) := by
  have h := wspans ⟨l.toArray⟩ (ByteArray.size ⟨l.toArray⟩) 0 none [] (by omega) (Nat.zero_le _) (fun a h => by cases h)
  simp only [List.map_nil, List.nil_append, openPiece, List.drop_zero] at h
  unfold wordsL goFieldsP spansOfP
  rw [show wordsF l [] = _ from h, List.map_map]
  congr 1
  funext p
  simp only [Function.comp, pieceU]
  apply ByteArray.ext
  apply Array.ext'
  simp

/-- A text of no blank is one word. -/
theorem words_one (l : List UInt8) (hne : l ≠ []) (h : ∀ x ∈ l, x ≠ 32) : wordsL l = [l] := by
  unfold wordsL
  rw [wordsF_skip l.length l [] (Nat.le_refl _) (fun j hj => by
    rw [List.getD_eq_getElem?_getD, List.getElem?_eq_getElem hj]
    exact h _ (List.getElem_mem hj))]
  simp [wordsF, hne]

theorem wordsF_len : ∀ (l w : List UInt8), ((wordsF l w).length ≤ l.length + 1) ∧ ∀ x ∈ wordsF l w, x.length ≤ l.length + w.length
  | [], w => by
    unfold wordsF
    split
    · simp
    · simp
  | c :: r, w => by
    rw [wordsF]
    split
    · obtain ⟨h1, h2⟩ := wordsF_len r []
      refine ⟨?_, fun x hx => ?_⟩
      · split <;> simp <;> omega
      · rcases List.mem_append.1 hx with hx | hx
        · split at hx
          · cases hx
          · simp at hx; subst hx; simp
        · have := h2 x hx
          simp at this ⊢; omega
    · obtain ⟨h1, h2⟩ := wordsF_len r (w ++ [c])
      refine ⟨by simp; omega, fun x hx => ?_⟩
      have := h2 x hx
      simp at this ⊢; omega
end Go.Proofs.YtjcjmjnajhkdaaaDoor
