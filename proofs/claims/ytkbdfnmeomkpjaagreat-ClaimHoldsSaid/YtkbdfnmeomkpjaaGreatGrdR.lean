/- How many bytes a guard's tables have: bounded; no condition but the sizes. -/
import Derived.Test.YtkbdfnmeomkpjaaGreatGrdQ
namespace Go.Proofs.YtkbdfnmeomkpjaaGreat
open Go.RowKit
set_option linter.unusedVariables false
set_option linter.unusedSimpArgs false
set_option maxRecDepth 100000

def sumN (f : Nat → Nat) : Nat → Nat
  | 0 => 0
  | n + 1 => sumN f n + f n
theorem sumN_le {f g : Nat → Nat} (h : ∀ c, f c ≤ g c) : ∀ n, sumN f n ≤ sumN g n
  | 0 => Nat.le_refl _
  | n + 1 => by have := sumN_le h n; have := h n; simp only [sumN]; omega
theorem sumN_add (f g : Nat → Nat) : ∀ n, sumN (fun c => f c + g c) n = sumN f n + sumN g n
  | 0 => rfl
  | n + 1 => by have := sumN_add f g n; simp only [sumN]; omega
theorem sumN_congr {f g : Nat → Nat} : ∀ n, (∀ c, c < n → f c = g c) → sumN f n = sumN g n
  | 0, _ => rfl
  | n + 1, h => by simp only [sumN]; rw [sumN_congr n (fun c hc => h c (by omega)), h n (by omega)]
theorem sumN_one (k a : Nat) : ∀ n, sumN (fun c => if c = k then a else 0) n = if k < n then a else 0
  | 0 => rfl
  | n + 1 => by
    simp only [sumN]
    rw [sumN_one k a n]
    by_cases h : n = k
    · subst h; rw [if_neg (by omega), if_pos rfl, if_pos (by omega)]; omega
    · rw [if_neg h]
      by_cases h2 : k < n
      · rw [if_pos h2, if_pos (by omega)]; omega
      · rw [if_neg h2, if_neg (by omega)]
/-- One more of those that are counted. -/
theorem sumN_upd (f : Nat → Nat) (p : Nat → Bool) (k n : Nat) (hk : k < n) (hp : p k = true) : sumN (fun c => if (p c && !decide (c = k)) = true then 0 else f c) n = sumN (fun c => if p c = true then 0 else f c) n + f k := by
  have e := sumN_one k (f k) n
  rw [if_pos hk] at e
  rw [← e, ← sumN_add]
  refine sumN_congr n (fun c hc => ?_)
  by_cases h : c = k
  · subst h; simp [hp]
  · rw [if_neg h, decide_eq_false h]; simp
theorem endK_sum (l : List (List UInt8)) : ∀ k, sumN (fun c => (endK l c k).length) 256 ≤ k
  | 0 => by
    have : ∀ n, sumN (fun c => (endK l c 0).length) n = 0 := fun n => by induction n with
      | zero => rfl
      | succ n ih => simp only [sumN, ih]; rfl
    rw [this]; exact Nat.le_refl _
  | k + 1 => by
    have ih := endK_sum l k
    have e : sumN (fun c => (endK l c (k + 1)).length) 256 = sumN (fun c => (endK l c k).length) 256 + sumN (fun c => if (l.getD k []).reverse[0]? = some (UInt8.ofNat c) then 1 else 0) 256 := by
      rw [← sumN_add]
      refine sumN_congr 256 (fun c hc => ?_)
      rw [endK_succ, List.length_append]
      by_cases h : (l.getD k []).reverse[0]? = some (UInt8.ofNat c)
      · rw [if_pos h, if_pos h]; rfl
      · rw [if_neg h, if_neg h]; rfl
    have h1 : sumN (fun c => if (l.getD k []).reverse[0]? = some (UInt8.ofNat c) then 1 else 0) 256 ≤ 1 := by
      cases hx : (l.getD k []).reverse[0]? with
      | none =>
        rw [sumN_congr (g := fun c => if c = 256 then 1 else 0) 256 (fun c hc => by rw [if_neg (by simp), if_neg (by omega)]), sumN_one]
        split <;> omega
      | some z =>
        have hz := z.toNat_lt
        rw [sumN_congr (g := fun c => if c = z.toNat then 1 else 0) 256 (fun c hc => by
          by_cases h : c = z.toNat
          · subst h; rw [if_pos (by simp), if_pos rfl]
          · rw [if_neg (fun e => h (by injection e with e; rw [e]; simp; omega)), if_neg h]), sumN_one, if_pos (by omega)]
        exact Nat.le_refl _
    omega

theorem GMp.D_ {P : Program} {k : TypeId} {w : World} {mb n : Nat} {A : Nat → Value} (h : GMp P k w mb n A) : ∃ D : DataW Unit, w.ownsMap P k slE mb n D ∧ ∀ c, c < 256 → slOk (A c) = true ∧ D.atKey (.int .u8 (c : Int)) (slD (.slice none 0 0)) = slD (A c) := by
  obtain ⟨D, h1, _, h3⟩ := h
  exact ⟨D, h1, h3⟩
theorem u8_key {P : Program} {k : TypeId} (hk : P.underlying k = some (.int .u8)) {x : Int} {kl : Lit} (h : keyOf P k (.int .u8 x) = some kl) : ∃ c : Nat, c < 256 ∧ x = (c : Int) ∧ kl = .int .u8 (c : Int) := by
  obtain ⟨y, e1, e2, e3⟩ := Maps.keyOf_int_inv hk h
  injection e1 with _ e1
  subst e1
  have h1 : IntKind.u8.min = 0 := rfl
  have h2 : IntKind.u8.max = 255 := rfl
  simp only [Lit.wf, h1, h2, Bool.and_eq_true, decide_eq_true_eq] at e3
  exact ⟨x.toNat, by omega, by omega, by rw [e2]; congr 1; omega⟩
/-- How much is counted of the map so far. -/
def cntL (l : List (List UInt8)) (left : Lit → Bool) : Nat := sumN (fun c => if left (.int .u8 (c : Int)) = true then 0 else (endK l c l.length).length) 256
theorem cntL_le (l : List (List UInt8)) (left : Lit → Bool) : cntL l left ≤ l.length := by
  refine Nat.le_trans (sumN_le (g := fun c => (endK l c l.length).length) (fun c => ?_) 256) (endK_sum l l.length)
  split
  · exact Nat.zero_le _
  · exact Nat.le_refl _
theorem cntL_step (l : List (List UInt8)) (left : Lit → Bool) (c : Nat) (hc : c < 256) (h : left (.int .u8 (c : Int)) = true) : cntL l (fun z => left z && !z.sameKey (.int .u8 (c : Int))) = cntL l left + (endK l c l.length).length := by
  unfold cntL
  rw [← sumN_upd (fun c => (endK l c l.length).length) (fun c => left (.int .u8 (c : Int))) c 256 hc h]
  refine sumN_congr 256 (fun e he => ?_)
  have : (Lit.int IntKind.u8 (e : Int)).sameKey (.int .u8 (c : Int)) = decide (e = c) := by
    by_cases h : e = c
    · subst h; rw [decide_eq_true rfl]; simp [Lit.sameKey]
    · rw [decide_eq_false h]
      exact Maps.sameKey_ne (fun e2 => h (by injection e2 with _ e2; omega))
  show (if (left (.int .u8 (e : Int)) && !(Lit.int IntKind.u8 (e : Int)).sameKey (.int .u8 (c : Int))) = true then 0 else _) = _
  rw [this]
end Go.Proofs.YtkbdfnmeomkpjaaGreat
