/- What a guard says of bytes and of pairs, and its set; no condition but the sizes. -/
import Derived.Test.YtkbdfnmeomkpjaaGreatGrdP
namespace Go.Proofs.YtkbdfnmeomkpjaaGreat
open Go.RowKit
set_option linter.unusedVariables false
set_option linter.unusedSimpArgs false
set_option maxRecDepth 100000

theorem GdI.pure {w w' : World} {n0 g m : Nat} {x : Option Addr} {l : List (List UInt8)} (h : GdI w n0 g x l m) (hk : Pure' w w') : GdI w' n0 g x l m := by
  obtain ⟨b1, b2, mb, n, R, A, T, L, G, h1, h2⟩ := h
  exact ⟨b1, b2, mb, n, R, A, T, L, G, h1.pure hk, h2⟩
/-- Has a text a byte at a distance? -/
def hasD (l : List (List UInt8)) (c : UInt8) (d : Nat) : Bool := l.any fun y => decide (y.reverse[d]? = some c)
/-- Has a text two bytes, the second one at a distance? -/
def hasP (l : List (List UInt8)) (a c : UInt8) (d : Nat) : Bool := l.any fun y => decide (y.reverse[d]? = some c ∧ y.reverse[d + 1]? = some a)
def skipB (l : List (List UInt8)) (m : Nat) (c : UInt8) (n : Int) : Bool := decide (1 ≤ n) && decide (n ≤ m) && !((List.range n.toNat).any fun d => hasD l c d)
def leapB (l : List (List UInt8)) (m : Nat) (a c : UInt8) (n : Int) : Bool := decide (1 ≤ n) && decide (n ≤ (m - 1 : Nat)) && !((List.range n.toNat).any fun d => hasP l a c d)
theorem any_take {α : Type} (R : List α) (f : α → Bool) (q : Nat → Bool) (h : ∀ d r, R[d]? = some r → f r = q d) : ∀ k, k ≤ R.length → (R.take k).any f = (List.range k).any q
  | 0, _ => by simp
  | k + 1, hk => by
    have hr : R[k]? = some R[k] := List.getElem?_eq_getElem (by omega)
    rw [List.take_add_one, hr, List.any_append, any_take R f q h k (by omega), List.range_succ, List.any_append]
    simp [h k _ hr]
set_option maxHeartbeats 1000000 in
theorem skips_ (n0 g m : Nat) (x : Option Addr) (l : List (List UInt8)) (c : UInt8) (n : Int) (w : World) (h : GdI w n0 g x l m) (hm : m ≤ 1000) :
    Calls Tryz.prog 74 #[.pointer (some ⟨g, 0, none⟩), .int .u8 (c.toNat : Int), .int .i64 n] w fun e w' => e = .returned (.bool (skipB l m c n)) ∧ Pure' w w' := by
  obtain ⟨b1, b2, mb, nn, R, A, T, L, G, hb, hR, _⟩ := h
  have hc := c.toNat_lt
  have x1 := hb.box.cell 1
  have hrl := hb.rl
  by_cases hn : 1 ≤ n ∧ n ≤ m
  · obtain ⟨k, rfl⟩ : ∃ k : Nat, n = (k : Int) := ⟨n.toNat, by omega⟩
    have he := any_take R (fun r => grHas r c.toNat) (fun d => hasD l c d) (fun d r hr => hR d r hr c) k (by omega)
    have e : skipB l m c (k : Int) = !((R.take k).any fun r => grHas r c.toNat) := by
      unfold skipB
      rw [decide_eq_true hn.1, decide_eq_true hn.2, he]
      simp
    rw [e]
    refine skips_in g c.toNat m b1 R k w (by omega) (by rw [hrl]; exact x1) hb.box.lt (hb.ones.lt b1 rfl) hb.ones.rowsAt hb.ok (by omega) (by omega) (by omega) (by omega)
  · have e : skipB l m c n = false := by
      unfold skipB
      by_cases h1 : 1 ≤ n
      · rw [decide_eq_true h1, decide_eq_false (fun h2 => hn ⟨h1, h2⟩)]; rfl
      · rw [decide_eq_false h1]; rfl
    rw [e]
    exact skips_out g c.toNat m _ m n w x1 hb.box.lt hn
theorem prN_iff {y : List UInt8} {d : Nat} (hd : d + 1 < y.length) (a c : UInt8) : prN y d = 256 * a.toNat + c.toNat ↔ (y.reverse[d]? = some c ∧ y.reverse[d + 1]? = some a) := by
  obtain ⟨p, h1⟩ : ∃ p, y.reverse[d]? = some p := ⟨_, List.getElem?_eq_getElem (by simp; omega)⟩
  obtain ⟨q, h2⟩ : ∃ q, y.reverse[d + 1]? = some q := ⟨_, List.getElem?_eq_getElem (by simp; omega)⟩
  unfold prN
  rw [List.getD_eq_getElem?_getD, List.getD_eq_getElem?_getD, h1, h2]
  have hp := p.toNat_lt
  have hq := q.toNat_lt
  have ha := a.toNat_lt
  have hc := c.toNat_lt
  simp only [Option.getD_some, Option.some.injEq]
  constructor
  · intro h
    exact ⟨UInt8.toNat_inj.1 (by omega), UInt8.toNat_inj.1 (by omega)⟩
  · rintro ⟨rfl, rfl⟩; rfl
theorem GdB.u16At {w : World} {t : TypeId} {A : Option Addr} {n cp : Nat} {L : List Nat} (h : Row w t 1 (.slice A n cp) n (u16Vs L)) : U16At w A L := by
  intro k y hy
  have hk := (List.getElem?_eq_some_iff.1 hy).1
  have hl := h.1
  rw [u16Vs_len] at hl
  obtain ⟨b, c, e, _⟩ := h.some_ (by omega)
  injection e with e1 _ e3
  subst e1; subst e3
  exact ⟨b, 0, rfl, by rw [Nat.zero_add]; exact h.cell (u16Vs_at hy)⟩
set_option maxHeartbeats 1000000 in
theorem leaps_ (n0 g m : Nat) (x : Option Addr) (l : List (List UInt8)) (a c : UInt8) (n : Int) (w : World) (h : GdI w n0 g x l m) (hm : m ≤ 1000) (hl : l.length ≤ 1000) (hml : ∀ y ∈ l, m ≤ y.length) :
    Calls Tryz.prog 75 #[.pointer (some ⟨g, 0, none⟩), .int .u8 (a.toNat : Int), .int .u8 (c.toNat : Int), .int .i64 n] w fun e w' => e = .returned (.bool (leapB l m a c n)) ∧ Pure' w w' := by
  obtain ⟨b1, b2, mb, nn, R, A, T, L, G, hb, _, hT, _⟩ := h
  have hc := c.toNat_lt
  have ha := a.toNat_lt
  have x1 := hb.box.cell 2
  by_cases hn : 1 ≤ n ∧ n ≤ (m - 1 : Nat)
  · obtain ⟨k, rfl⟩ : ∃ k : Nat, n = (k : Int) := ⟨n.toNat, by omega⟩
    have hTa : ∀ d X, ((List.range (m - 1)).map T)[d]? = some X → d < m - 1 ∧ X = T d := by
      intro d X hX
      have hd := (List.getElem?_eq_some_iff.1 hX).1
      simp at hd
      rw [List.getElem?_map, List.getElem?_range hd] at hX
      exact ⟨hd, by simpa using hX.symm⟩
    have he := any_take ((List.range (m - 1)).map T) (fun X => decide (256 * a.toNat + c.toNat ∈ X)) (fun d => hasP l a c d) (fun d X hX => by
      obtain ⟨hd, rfl⟩ := hTa d X hX
      unfold hasP
      rw [Bool.eq_iff_iff, decide_eq_true_iff, (hT d hd).2.2, List.any_eq_true]
      constructor
      · rintro ⟨y, hy, e⟩
        exact ⟨y, hy, decide_eq_true ((prN_iff (by have := hml y hy; omega) a c).1 e)⟩
      · rintro ⟨y, hy, e⟩
        exact ⟨y, hy, (prN_iff (by have := hml y hy; omega) a c).2 (of_decide_eq_true e)⟩) k (by simp; omega)
    have e : leapB l m a c (k : Int) = !((((List.range (m - 1)).map T).take k).any fun X => decide (256 * a.toNat + c.toNat ∈ X)) := by
      unfold leapB
      rw [decide_eq_true hn.1, decide_eq_true hn.2, he]
      simp
    rw [e]
    refine leaps_in g b2 (m - 1) a.toNat c.toNat k ((List.range (m - 1)).map T) w (by omega) (by omega) (by simpa using x1) (hb.twos.lt b2 rfl) ?_ ?_ (by simp; omega) (by simp) (by omega) (by simp; omega)
    · intro d X hX
      obtain ⟨hd, rfl⟩ := hTa d X hX
      have ho := hb.famT.own d hd
      obtain ⟨ta, cp, e1, _⟩ := ho.form
      rw [u16Vs_len] at e1 ho
      refine ⟨ta, cp, by rw [← e1]; exact hb.twos.cell (map_at A hd), fun w' hw => ?_⟩
      rw [e1] at ho
      exact GdB.u16At (ho.keep hw (fun _ _ hf => hf))
    · intro X hX
      obtain ⟨d, hd, rfl⟩ := List.mem_map.1 hX
      have hd := List.mem_range.1 hd
      exact ⟨(hT d hd).1, by have := (hT d hd).2.1; omega⟩
  · have e : leapB l m a c n = false := by
      unfold leapB
      by_cases h1 : 1 ≤ n
      · rw [decide_eq_true h1, decide_eq_false (fun h2 => hn ⟨h1, h2⟩)]; rfl
      · rw [decide_eq_false h1]; rfl
    rw [e]
    exact leaps_out g (m - 1) a.toNat c.toNat _ (m - 1) n w x1 hn
set_option maxHeartbeats 1000000 in
theorem set_ (n0 g m : Nat) (x : Option Addr) (l : List (List UInt8)) (w : World) (h : GdI w n0 g x l m) : Calls Tryz.prog 62 #[.pointer (some ⟨g, 0, none⟩)] w fun e w' => e = .returned (.pointer x) ∧ w = w' := by
  obtain ⟨b1, b2, mb, nn, R, A, T, L, G, hb, _⟩ := h
  have x0 := hb.box.cell 0
  clear hb
  go_enter Tryz.func62, Tryz.ntmps62
  go_wp2_with fail
  go_ret
  exact ⟨rfl, rfl⟩
set_option maxHeartbeats 1000000 in
theorem set_nil (w : World) : Calls Tryz.prog 62 #[.pointer none] w fun e w' => e = .returned (.pointer none) ∧ w = w' := by
  go_enter Tryz.func62, Tryz.ntmps62
  go_wp2_with fail
  go_ret
  exact ⟨rfl, rfl⟩
set_option maxHeartbeats 1000000 in
theorem ending_nil (c : Int) (w : World) : Calls Tryz.prog 61 #[.pointer none, .int .u8 c] w fun e w' => e = .returned (.slice none 0 0) ∧ w = w' := by
  go_enter Tryz.func61, Tryz.ntmps61
  go_wp2_with fail
  go_ret
  exact ⟨rfl, rfl⟩
/-- A slice of numbers that a call has made. -/
def IdsPost (L : List Nat) (w : World) (e : Ending) (w' : World) : Prop := ∃ A cp, e = .returned (.slice A L.length cp) ∧ Row w' 3 1 (.slice A L.length cp) L.length (idVs L) ∧ (∀ b, (Value.slice A L.length cp).ownBlock = some b → w.heap.size ≤ b) ∧ Pure' w w'
set_option maxHeartbeats 1000000 in
theorem cloneIds_ (v : Value) (L : List Nat) (w : World) (h : Row w 3 1 v L.length (idVs L)) (hn : L.length ≤ 1000) : Calls Tryz.prog 87 #[v] w (IdsPost L w) := by
  rcases h.2 with ⟨rfl, h0⟩ | ⟨b, cap, cur, rfl, _⟩
  · have : L = [] := List.eq_nil_of_length_eq_zero (by simpa using h0)
    subst this
    refine (Tryz.slices_Clone_int_nil 0 0 w).mono ?_
    rintro e w' ⟨rfl, rfl⟩
    exact ⟨none, 0, rfl, Row.nil _ _ _, fun b hb => by simp [Value.ownBlock] at hb, Keeps.refl _ _⟩
  · obtain ⟨i0, hi, hz0, hz1, hz2⟩ := info_parts intInfoG
    refine (Tryz.slices_Clone_f87 i0 (.int .i64 0) 1 8 hi hz0 hz1 hz2 rfl (by decide) (fun w => Tryz.sizeOf3 w) b 0 L.length cap (idVs L) w (by rw [idVs_len, Nat.mul_one]) (by unfold maxLen; omega) (by omega) (fun j u hu => by rw [Nat.zero_add]; exact h.cell hu) (fun u hu => by obtain ⟨x, _, rfl⟩ := List.mem_map.1 hu; rfl)).mono ?_
    rintro e w1 ⟨v', rfl, hrow, hnn, hbel⟩
    have hrow' : Row w1 3 1 v' L.length (idVs L) := by
      refine ⟨hrow.1, ?_⟩
      rcases hrow.2 with h2 | ⟨g, cap, cur, h1, _, r⟩
      · exact .inl h2
      · exact .inr ⟨g, cap, cur, h1, Nat.zero_le _, r⟩
    obtain ⟨A', c', rfl, _⟩ := hrow'.form
    exact ⟨A', c', rfl, hrow', fun b hb => (World.ownsRow.lt hrow b hb).1, Keeps.of_below hbel⟩
set_option maxHeartbeats 1000000 in
theorem ending_ (n0 g m : Nat) (x : Option Addr) (l : List (List UInt8)) (c : UInt8) (w : World) (h : GdI w n0 g x l m) (hl : l.length ≤ 1000) :
    Calls Tryz.prog 61 #[.pointer (some ⟨g, 0, none⟩), .int .u8 (c.toNat : Int)] w (IdsPost (endK l c.toNat l.length) w) := by
  obtain ⟨b1, b2, mb, nn, R, A, T, L, G, hb, _, _, hG, _⟩ := h
  have hc := c.toNat_lt
  have x0 := hb.box.cell 3
  have hlk := hb.mp.look (t := 82) (e := 23) Tryz.underlying5 Tryz.underlying82 (Tryz.zeroValue23 w) (show c.toNat < 256 by omega)
  have ho := hb.famL.own c.toNat (by omega)
  simp only [hG c.toNat (by omega)] at ho
  rw [idVs_len] at ho
  have hlen := endK_len l c.toNat l.length
  generalize endK l c.toNat l.length = E at *
  have HCL := Lib.hid (cloneIds_ (L c.toNat) E w ho (by omega))
  generalize L c.toNat = v at *
  clear hb hG ho
  go_enter Tryz.func61, Tryz.ntmps61
  go_wp2_with fail
  refine HCL.out.mono ?_
  rintro e w1 ⟨A', cp, rfl, hr⟩
  have HR := Lib.hid hr
  clear hr hlk
  go_wp2_with fail
  go_ret
  exact ⟨A', cp, rfl, HR.out⟩
end Go.Proofs.YtkbdfnmeomkpjaaGreat
