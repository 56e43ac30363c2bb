/- How many bytes a guard's tables have: bounded; no condition but the sizes. -/
import Derived.Test.YtkbdfnmeomkpjaaGrdQ
namespace Go.Proofs.Ytkbdfnmeomkpjaa
open Go.RowKit
set_option linter.unusedVariables false
set_option linter.unusedSimpArgs false
set_option maxRecDepth 100000

def sumN (f : Nat → Nat) : Nat → Nat
  | 0 => 0
  | n + 1 => sumN f n + f n
theorem sumN_le {f g : Nat → Nat} (h : ∀ c, f c ≤ g c) : ∀ n, sumN f n ≤ sumN g n
  | 0 => Nat.le_refl _
  | n + 1 => by have := sumN_le h n; have := h n; simp only [sumN]; omega
theorem sumN_add (f g : Nat → Nat) : ∀ n, sumN (fun c => f c + g c) n = sumN f n + sumN g n
  | 0 => rfl
  | n + 1 => by have := sumN_add f g n; simp only [sumN]; omega
theorem sumN_congr {f g : Nat → Nat} : ∀ n, (∀ c, c < n → f c = g c) → sumN f n = sumN g n
  | 0, _ => rfl
  | n + 1, h => by simp only [sumN]; rw [sumN_congr n (fun c hc => h c (by omega)), h n (by omega)]
theorem sumN_one (k a : Nat) : ∀ n, sumN (fun c => if c = k then a else 0) n = if k < n then a else 0
  | 0 => rfl
  | n + 1 => by
    simp only [sumN]
    rw [sumN_one k a n]
    by_cases h : n = k
    · subst h; rw [if_neg (by omega), if_pos rfl, if_pos (by omega)]; omega
    · rw [if_neg h]
      by_cases h2 : k < n
      · rw [if_pos h2, if_pos (by omega)]; omega
      · rw [if_neg h2, if_neg (by omega)]
/-- One more of those that are counted. -/
theorem sumN_upd (f : Nat → Nat) (p : Nat → Bool) (k n : Nat) (hk : k < n) (hp : p k = true) : sumN (fun c => if (p c && !decide (c = k)) = true then 0 else f c) n = sumN (fun c => if p c = true then 0 else f c) n + f k := by
  have e := sumN_one k (f k) n
  rw [if_pos hk] at e
  rw [← e, ← sumN_add]
  refine sumN_congr n (fun c hc => ?_)
  by_cases h : c = k
  · subst h; simp [hp]
  · rw [if_neg h, decide_eq_false h]; simp
theorem endK_sum (l : List (List UInt8)) : ∀ k, sumN (fun c => (endK l c k).length) 256 ≤ k
  | 0 => by
    have : ∀ n, sumN (fun c => (endK l c 0).length) n = 0 := fun n => by induction n with
      | zero => rfl
      | succ n ih => simp only [sumN, ih]; rfl
    rw [this]; exact Nat.le_refl _
  | k + 1 => by
    have ih := endK_sum l k
    have e : sumN (fun c => (endK l c (k + 1)).length) 256 = sumN (fun c => (endK l c k).length) 256 + sumN (fun c => if (l.getD k []).reverse[0]? = some (UInt8.ofNat c) then 1 else 0) 256 := by
      rw [← sumN_add]
      refine sumN_congr 256 (fun c hc => ?_)
      rw [endK_succ, List.length_append]
      by_cases h : (l.getD k []).reverse[0]? = some (UInt8.ofNat c)
      · rw [if_pos h, if_pos h]; rfl
      · rw [if_neg h, if_neg h]; rfl
    have h1 : sumN (fun c => if (l.getD k []).reverse[0]? = some (UInt8.ofNat c) then 1 else 0) 256 ≤ 1 := by
      cases hx : (l.getD k []).reverse[0]? with
      | none =>
        rw [sumN_congr (g := fun c => if c = 256 then 1 else 0) 256 (fun c hc => by rw [if_neg (by simp), if_neg (by omega)]), sumN_one]
        split <;> omega
      | some z =>
        have hz := z.toNat_lt
        rw [sumN_congr (g := fun c => if c = z.toNat then 1 else 0) 256 (fun c hc => by
          by_cases h : c = z.toNat
          · subst h; rw [if_pos (by simp), if_pos rfl]
          · rw [if_neg (fun e => h (by injection e with e; rw [e]; simp; omega)), if_neg h]), sumN_one, if_pos (by omega)]
        exact Nat.le_refl _
    omega

theorem GMp.D_ {P : Program} {k : TypeId} {w : World} {mb n : Nat} {A : Nat → Value} (h : GMp P k w mb n A) : ∃ D : DataW Unit, w.ownsMap P k slE mb n D ∧ ∀ c, c < 256 → slOk (A c) = true ∧ D.atKey (.int .u8 (c : Int)) (slD (.slice none 0 0)) = slD (A c) := by
  obtain ⟨D, h1, _, h3⟩ := h
  exact ⟨D, h1, h3⟩
theorem u8_key {P : Program} {k : TypeId} (hk : P.underlying k = some (.int .u8)) {x : Int} {kl : Lit} (h : keyOf P k (.int .u8 x) = some kl) : ∃ c : Nat, c < 256 ∧ x = (c : Int) ∧ kl = .int .u8 (c : Int) := by
  obtain ⟨y, e1, e2, e3⟩ := Maps.keyOf_int_inv hk h
  injection e1 with _ e1
  subst e1
  have h1 : IntKind.u8.min = 0 := rfl
  have h2 : IntKind.u8.max = 255 := rfl
  simp only [Lit.wf, h1, h2, Bool.and_eq_true, decide_eq_true_eq] at e3
  exact ⟨x.toNat, by omega, by omega, by rw [e2]; congr 1; omega⟩
/-- How much is counted of the map so far. -/
def cntL (l : List (List UInt8)) (left : Lit → Bool) : Nat := sumN (fun c => if left (.int .u8 (c : Int)) = true then 0 else (endK l c l.length).length) 256
theorem cntL_le (l : List (List UInt8)) (left : Lit → Bool) : cntL l left ≤ l.length := by
  refine Nat.le_trans (sumN_le (g := fun c => (endK l c l.length).length) (fun c => ?_) 256) (endK_sum l l.length)
  split
  · exact Nat.zero_le _
  · exact Nat.le_refl _
theorem cntL_step (l : List (List UInt8)) (left : Lit → Bool) (c : Nat) (hc : c < 256) (h : left (.int .u8 (c : Int)) = true) : cntL l (fun z => left z && !z.sameKey (.int .u8 (c : Int))) = cntL l left + (endK l c l.length).length := by
  unfold cntL
  rw [← sumN_upd (fun c => (endK l c l.length).length) (fun c => left (.int .u8 (c : Int))) c 256 hc h]
  refine sumN_congr 256 (fun e he => ?_)
  have : (Lit.int IntKind.u8 (e : Int)).sameKey (.int .u8 (c : Int)) = decide (e = c) := by
    by_cases h : e = c
    · subst h; rw [decide_eq_true rfl]; simp [Lit.sameKey]
    · rw [decide_eq_false h]
      exact Maps.sameKey_ne (fun e2 => h (by injection e2 with _ e2; omega))
  show (if (left (.int .u8 (e : Int)) && !(Lit.int IntKind.u8 (e : Int)).sameKey (.int .u8 (c : Int))) = true then 0 else _) = _
  rw [this]
set_option maxHeartbeats 4000000 in
theorem held_ (n0 g m : Nat) (x : Option Addr) (l : List (List UInt8)) (w : World) (h : GdI w n0 g x l m) (hl : l.length ≤ 1000) (hm : m ≤ 1000) :
    Calls Try.prog 24 #[.pointer (some ⟨g, 0, none⟩)] w fun e w' => (∃ v : Nat, e = .returned (.int .i64 (v : Int)) ∧ v ≤ 32 * m + 2 * (l.length * (m - 1)) + 8 * l.length) ∧ Pure' w w' := by
  obtain ⟨b1, b2, mb, nn, R, A, T, L, G, hb, _, hT, hG, _⟩ := h
  obtain ⟨D, hD, hat⟩ := hb.mp.D_
  have HOW := Lib.hid hb.famL
  have HG := Lib.hid hG
  have x1 := hb.box.cell 1
  have x2 := hb.box.cell 2
  have x3 := hb.box.cell 3
  have HX := Lib.hid (show ∀ W, Pure' w W → W.cell? ⟨g, 2, none⟩ = some (.slice (some ⟨b2, 0, none⟩) (m - 1) (m - 1)) ∧ W.cell? ⟨g, 3, none⟩ = some (.map (some mb)) from fun W hW => ⟨(hb.pure hW).box.cell 2, (hb.pure hW).box.cell 3⟩)
  have HD := Lib.hid hD
  have HAT := Lib.hid hat
  have HTW := Lib.hid (show ∀ d, d < m - 1 → ∃ ta cp, w.cell? ⟨b2, d, none⟩ = some (.slice ta (T d).length cp) ∧ (T d).length ≤ l.length from fun d hd => by
    obtain ⟨ta, cp, e, _⟩ := (hb.famT.own d hd).form
    rw [u16Vs_len] at e
    exact ⟨ta, cp, by rw [← e]; exact hb.twos.cell (map_at A hd), (hT d hd).2.1⟩)
  have HMB := Lib.hid (show mb < w.heap.size from hb.mp.lt)
  obtain ⟨N, hN⟩ : ∃ N, l.length = N := ⟨_, rfl⟩
  have HN := Lib.hid hN
  have HCL := Lib.hid (fun left => cntL_le l left)
  rw [hN] at hl HTW HCL
  have HB := Lib.hid (show ∀ d, d ≤ 1000 → N * d ≤ 1000000 from fun d hd => Nat.mul_le_mul hl hd)
  have HS := Lib.hid (fun (d : Nat) => show N * (d + 1) = N * d + N from Nat.mul_succ N d)
  simp only [hN]
  have law := Maps.int_keyed Try.underlying5
  clear hb hT hG hD hat hN
  go_enter Try.func24, Try.ntmps24
  go_wp2_with fail
  go_loopg [3, 5, 21] (m - 1) (fun gh v3 v5 v21 wr => (∃ d v : Nat, d + gh = m - 1 ∧ v21 = .int .i64 (d : Int) ∧ v3 = .int .i64 (v : Int) ∧ RowKit.Hid (v ≤ 32 * m + 2 * (N * d))) ∧ w = wr)
  case atStart => exact ⟨⟨0, 32 * m, by omega, rfl, by go_num, Lib.hid (by omega)⟩, rfl⟩
  case round =>
    obtain ⟨⟨d, v, hdg, rfl, rfl, HV⟩, rfl⟩ := hrel
    have hv6 : v ≤ 3000000 := by have := HV.out; have := HB.out d (by omega); omega
    cases gk with
    | zero =>
      obtain rfl : d = m - 1 := by omega
      go_wp2_with (at_range; refine wpList_range_own _ rfl _ 91 rfl 5 41 law Try.underlying91 slE mb nn D rfl HD.out ?_; intro w2 hrg2 hg2 hs2)
      go_frame
      have HK2 := Lib.hid ((Keeps.refl (fun _ => False) w).grown hg2 (fun k hk => by cases hk))
      have HV0 := Lib.hid (show v ≤ 32 * m + 2 * (N * (m - 1)) + 8 * cntL l (Maps.has D) by have := HV.out; omega)
      clear hg2 hs2 x1 x2 x3
      go_loopg [3, 7] (Maps.size D) (fun gh v3 v7 wr => (∃ (v : Nat) (left : Lit → Bool) (cnt : Nat), v3 = .int .i64 (v : Int) ∧ cnt ≤ gh ∧ wr.ranges Try.prog 5 slE mb w.heap.size nn D left cnt ∧ RowKit.Hid (v ≤ 32 * m + 2 * (N * (m - 1)) + 8 * cntL l left)) ∧ RowKit.Hid (Pure' w wr))
      case atStart => exact ⟨⟨v, _, _, rfl, Nat.le_refl _, hrg2, HV0⟩, HK2⟩
      case round =>
        obtain ⟨⟨v, left, cnt, rfl, hcg, hrg, HV1⟩, HK⟩ := hrel
        clear HV0 HK2 hrg2 HV hv6
        have hv7 : v ≤ 4000000 := by have := HV1.out; have := HB.out (m - 1) (by omega); have := HCL.out left; omega
        go_wp2_with (at_next; refine wpList_next_ranges _ rfl _ rfl 5 law slE (Value.int .u8) (fun v => v) (fun key kl hk => by obtain ⟨x, e, _⟩ := Maps.keyOf_int_inv Try.underlying5 hk; exact ⟨x, e⟩) (fun v y hv => ⟨v, rfl⟩) mb w.heap.size nn D left cnt rfl hrg ?_ ?_)
        · intro hc0 hl0
          go_wp2_with fail
          go_ret
          exact ⟨⟨v, rfl, by have := HV1.out; have := HCL.out left; omega⟩, HK.out⟩
        · intro x9 c9 kl ya yb w3 cnt3 hk3 hl3 hv3 hat3 hrg3 hlt3 hg3 hs3 hen
          obtain ⟨cN, hcN, rfl, rfl⟩ := u8_key Try.underlying5 hk3
          obtain ⟨hv4, hv5⟩ := slE_inv hv3
          injection hv5 with hv5 _
          subst hv5
          have hc9 : c9 = L cN := slD_inj hv4 (HAT.out cN hcN).1 ((hat3 _).symm.trans (HAT.out cN hcN).2)
          have ho := HOW.out.own cN hcN
          simp only [HG.out cN hcN] at ho
          rw [← hc9, idVs_len] at ho
          obtain ⟨ta, cp, hf, _⟩ := ho.form
          have hlen := endK_len l cN l.length
          have hst := cntL_step l left cN hcN hl3
          rw [HN.out] at hlen hst hf
          generalize (endK l cN N).length = tn at *
          have HST := Lib.hid hst
          have HK3 := Lib.hid (HK.out.trans (S := fun _ => False) ((Keeps.refl (fun k => k = w.heap.size) wr).grown hg3 (fun k hk => .inl (by injection hk with hk; exact hk.symm))) (fun b hb e => by omega))
          have HLT := Lib.hid hlt3
          have HRG := Lib.hid hrg3
          subst hf
          clear hk3 hl3 hv3 hat3 hrg3 hlt3 hg3 hs3 hv4 hc9 ho hst hrg
          go_wp2_with fail
          go_roundg cnt3
          case measure => have := HLT.out; omega
          case rel => exact ⟨⟨v + 8 * tn, _, cnt3, by go_num, Nat.le_refl _, HRG.out, Lib.hid (by rw [HST.out]; have := HV1.out; omega)⟩, HK3⟩
    | succ g3 =>
      have hii : (d : Int) < ((m - 1 : Nat) : Int) := by omega
      obtain ⟨ta, cp, y1, y2⟩ := HTW.out d (by omega)
      generalize (T d).length = tn at *
      go_wp2_with fail
      go_roundg g3
      case measure => omega
      case rel => exact ⟨⟨d + 1, v + 2 * tn, by omega, by go_num, by go_num, Lib.hid (by have := HV.out; have := HS.out d; omega)⟩, rfl⟩
end Go.Proofs.Ytkbdfnmeomkpjaa
