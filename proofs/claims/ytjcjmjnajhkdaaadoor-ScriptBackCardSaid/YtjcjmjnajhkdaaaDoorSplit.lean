/- The lines of a text, as strings.SplitSeq gives them; no condition but the size. -/
import Derived.RangeFuncCalls
import Derived.RangeFuncLeaves
import Derived.WalkKit
import Derived.TacticsInMore
import Derived.LoopNIn
import Derived.LoopIn
import Derived.Lib.IndexLaws
import Derived.Test.YtjcjmjnajhkdaaaDoorSeq
import Derived.Test.YtjcjmjnajhkdaaaDoorShelf
namespace Go.Proofs.YtjcjmjnajhkdaaaDoor
open Go.RowKit Go.Shelf
set_option linter.unusedVariables false
set_option linter.unusedSimpArgs false
set_option maxRecDepth 100000
attribute [local go_sem] Oper.semAt_some

/-- The lines. -/
def linesL : List UInt8 → List (List UInt8)
  | [] => [[]]
  | c :: l => if c = 10 then [] :: linesL l else match linesL l with | [] => [[c]] | x :: xs => (c :: x) :: xs
theorem lines_ne : ∀ l, linesL l ≠ []
  | [] => by simp [linesL]
  | c :: l => by
    unfold linesL; split
    · simp
    · split <;> simp
theorem lines_run : ∀ (p l : List UInt8), (∀ c ∈ p, c ≠ 10) → linesL (p ++ l) = match linesL l with | [] => [p] | x :: xs => (p ++ x) :: xs
  | [], l, _ => by
    cases h : linesL l with
    | nil => exact absurd h (lines_ne l)
    | cons x xs => simp [h]
  | c :: p, l, hp => by
    have hc : c ≠ 10 := hp c (by simp)
    rw [List.cons_append, linesL, if_neg hc, lines_run p l (fun c h => hp c (by simp [h]))]
    cases h : linesL l with
    | nil => exact absurd h (lines_ne l)
    | cons x xs => simp
theorem lines_none {l : List UInt8} (h : Lib.indexByte l 10 = -1) : linesL l = [l] := by
  have h1 := lines_run l [] (fun c hc he => by
    obtain ⟨k, hk⟩ := List.getElem?_of_mem hc
    exact Lib.indexByte_none h k (by rw [hk, he]))
  simpa [linesL] using h1
theorem lines_at {l : List UInt8} {o : Nat} (h : Lib.indexByte l 10 = (o : Int)) : linesL l = l.take o :: linesL (l.drop (o + 1)) := by
  obtain ⟨h1, h2⟩ := Lib.indexByte_some h
  have hl : o < l.length := (List.getElem?_eq_some_iff.1 h1).1
  have e : l = l.take o ++ 10 :: l.drop (o + 1) := by
    have := List.take_append_drop o l
    rw [List.drop_eq_getElem_cons hl, (List.getElem?_eq_some_iff.1 h1).2] at this
    exact this.symm
  have h3 := lines_run (l.take o) (10 :: l.drop (o + 1)) (fun c hc he => by
    obtain ⟨k, hk, hk2⟩ := List.mem_iff_getElem.1 hc
    rw [List.length_take] at hk
    refine h2 k (by omega) ?_
    rw [List.getElem_take] at hk2
    rw [List.getElem?_eq_getElem (by omega), hk2, he])
  rw [← e, linesL, if_pos rfl] at h3
  simpa using h3

/-- These blocks lie as they lay. -/
structure KeptB (K : Nat → Prop) (X X' : World) : Prop where
  size : X.heap.size ≤ X'.heap.size
  same : ∀ k, K k → X'.heap[k]? = X.heap[k]?
theorem KeptB.trans {K : Nat → Prop} {A B C : World} (h : KeptB K A B) (k : KeptB K B C) : KeptB K A C := ⟨Nat.le_trans h.size k.size, fun i hi => (k.same i hi).trans (h.same i hi)⟩
theorem KeptB.put {K : Nat → Prop} {W : World} {n l : Nat} (o : Obj) (hK : ∀ k, K k → k < n) (hl : n ≤ l) : KeptB K W (W.putObj l o) := ⟨by simp, fun k hk => World.putObj_heap_other (by have := hK k hk; omega)⟩
theorem boxed_keptB {K : Nat → Prop} {X X' : World} {b : Nat} {t : TypeId} {v : Value} (h : Boxed X b t v) (hk : KeptB K X X') (hb : K b) : Boxed X' b t v := (hk.same b hb).trans h

def leftOf (b : Nat) (w : World) : Nat := match w.cell? ⟨b, 0, none⟩ with | some (.string s) => s.size | _ => 0
theorem leftOf_eq {b : Nat} {w : World} {s : ByteArray} {t : TypeId} (h : Boxed w b t (.string s)) : leftOf b w = s.size := by unfold leftOf; rw [h.cell]

theorem ext_take (s : List UInt8) (o : Nat) : (⟨s.toArray⟩ : ByteArray).extract 0 o = ⟨(s.take o).toArray⟩ := bytes_eq (by simp)
theorem ext_drop (s : List UInt8) (o n : Nat) (h : s.length ≤ n) : (⟨s.toArray⟩ : ByteArray).extract o n = ⟨(s.drop o).toArray⟩ := bytes_eq (by
  simp [List.take_of_length_le (show (List.drop o s).length ≤ n - o by simp; omega)])

set_option maxHeartbeats 4000000 in
theorem split1_ (l0 : List UInt8) (bsep bs bsv n : Nat) (w : World) (hs : Boxed w bs 9 (.string ⟨l0.toArray⟩)) (hsep : Boxed w bsep 9 (.string ⟨#[10]⟩)) (hsv : Boxed w bsv 3 (.int .i64 0))
    (hne1 : bsep ≠ bs) (hne2 : bsv ≠ bs) (hlen : l0.length ≤ 1000000000) :
    SeqCell Fence.wide n Tryd.prog 63 #[.pointer (some ⟨bsep, 0, none⟩), .pointer (some ⟨bs, 0, none⟩), .pointer (some ⟨bsv, 0, none⟩)] (fun x : List UInt8 => #[.string ⟨x.toArray⟩]) bs
      (KeptB (fun k => k = bs ∨ k = bsep ∨ k = bsv)) (linesL l0) w := by
  intro l J Jx W hW hJs hJ hJx hY h0
  have lt1 := hs.lt
  have lt2 := hsep.lt
  have lt3 := hsv.lt
  have b1 : Boxed W bs 9 (.string ⟨l0.toArray⟩) := (hW.block bs lt1).trans hs
  have b2 : Boxed W bsep 9 (.string ⟨#[10]⟩) := (hW.block bsep lt2).trans hsep
  have b3 : Boxed W bsv 3 (.int .i64 0) := (hW.block bsv lt3).trans hsv
  clear hs hsep hsv
  refine callsIn_of_wp Tryd.func63 rfl trivial ?_ rfl
  simp only [Tryd.ntmps63, List.size_toArray, List.length_cons, List.length_nil, Nat.reduceAdd, Nat.reduceSub, Array.replicate_succ, Array.replicate_zero, List.push_toArray, List.append_toArray, List.nil_append, List.cons_append]
  have c2 := b2.cell
  have c3 := b3.cell
  gi_wp2
  gi_loopw [7] (fun _ wr => ∃ pre rest, linesL l0 = pre ++ linesL rest ∧ rest.length ≤ 1000000000 ∧ J pre wr ∧ Boxed wr bs 9 (.string ⟨rest.toArray⟩) ∧ Boxed wr bsep 9 (.string ⟨#[10]⟩) ∧ Boxed wr bsv 3 (.int .i64 0)) (fun _ wr => leftOf bs wr)
  case atStart => exact ⟨[], l0, rfl, hlen, h0, b1, b2, b3⟩
  case round =>
    obtain ⟨pre, rest, hx, hl, hj, r1, r2, r3⟩ := hrel
    have c1 := r1.cell
    have c2 := r2.cell
    have c3 := r3.cell
    gi_wp2
    refine ⟨trivial, (fun h => by cases h), (callsIn_wide.2 (Tryd.strings_Index_one _ 10 _)).mono ?_⟩
    rintro e w' ⟨rfl, rfl⟩
    rcases Int.lt_or_le (Lib.indexByte rest 10) 0 with hi | hi
    · have hi1 : Lib.indexByte rest 10 = -1 := by have := Lib.indexByte_ge rest 10; omega
      obtain ⟨fn, tmps, assign, body, hy, hR⟩ := hY pre rest [] w' (by rw [hx, lines_none hi1]) hj
      have hi' : (-1 : Int) < 0 := by decide
      rw [hi1]
      gi_wp2
      refine ⟨(fun h => by cases h), hR.mono ?_⟩
      rintro e W3 (⟨rfl, hJ3, hk3⟩ | ⟨rfl, hx3⟩)
      · gi_wp2
        go_end0
        refine ⟨⟨_, rfl⟩, .inl ?_⟩
        rw [hx, lines_none hi1]
        exact hJ3
      · gi_wp2
        go_end0
        exact ⟨⟨_, rfl⟩, .inr ⟨pre, rest, [], by rw [hx, lines_none hi1], hx3⟩⟩
    · obtain ⟨o, ho⟩ : ∃ o : Nat, Lib.indexByte rest 10 = (o : Int) := ⟨(Lib.indexByte rest 10).toNat, by omega⟩
      have hol : o < rest.length := (List.getElem?_eq_some_iff.1 (Lib.indexByte_some ho).1).1
      have ew : wrap64 (o : Int) = (o : Int) := by unfold wrap64; omega
      have hb : 0 ≤ (o : Int) ∧ (o : Int) ≤ (rest.length : Int) := by omega
      obtain ⟨fn, tmps, assign, body, hy, hR⟩ := hY pre (rest.take o) _ w' (by rw [hx, lines_at ho]) hj
      rw [← ext_take] at hy
      rw [ho]
      gi_wp2
      refine ⟨(fun h => by cases h), hR.mono ?_⟩
      rintro e W3 (⟨rfl, hJ3, hk3⟩ | ⟨rfl, hx3⟩)
      · have q1 := boxed_keptB r1 hk3 (.inl rfl)
        have q2 := boxed_keptB r2 hk3 (.inr (.inl rfl))
        have q3 := boxed_keptB r3 hk3 (.inr (.inr rfl))
        have d1 := q1.cell
        have d2 := q2.cell
        have d3 := q3.cell
        have f1 := q1.frozen
        have ew2 : wrap64 ((o : Int) + 1) = (o : Int) + 1 := by unfold wrap64; omega
        have hb2 : 0 ≤ (o : Int) + 1 ∧ (o : Int) + 1 ≤ (rest.length : Int) := by omega
        gi_wp2
        rw [ext_drop rest (o + 1) rest.length (Nat.le_refl _)]
        have q1' := q1.set (.string ⟨(rest.drop (o + 1)).toArray⟩)
        refine ⟨⟨pre ++ [rest.take o], rest.drop (o + 1), by rw [hx, lines_at ho]; simp, by simp; omega, hJs _ _ _ hJ3, q1', q2.other hne1 _, q3.other hne2 _⟩, ?_⟩
        rw [leftOf_eq q1', leftOf_eq r1]
        show (rest.drop (o + 1)).toArray.size < rest.toArray.size
        simp
        omega
      · gi_wp2
        refine bodyPost_ret (results_none rfl _ _ _) rfl ?_
        exact ⟨⟨_, rfl⟩, .inr ⟨pre, rest.take o, _, by rw [hx, lines_at ho], hx3⟩⟩

end Go.Proofs.YtjcjmjnajhkdaaaDoor
