/- How a script's reader takes a line of how one scans; no condition but the sizes. -/
import Derived.Test.YtjcjmjnajhkdaaaDoorScrA
namespace Go.Proofs.YtjcjmjnajhkdaaaDoor
open Go.RowKit
set_option linter.unusedVariables false
set_option linter.unusedSimpArgs false
set_option maxRecDepth 100000

theorem splitseq_ (s : ByteArray) (w : World) : Calls Tryd.prog 17 #[.string s, .string ⟨#[10]⟩] w fun e w' =>
    e = .returned (.func (.func 63) #[] #[.pointer (some ⟨w.heap.size + 1, 0, none⟩), .pointer (some ⟨w.heap.size, 0, none⟩), .pointer (some ⟨w.heap.size + 1 + 1, 0, none⟩)]) ∧
    w' = ((w.alloc (.cells #[.string s] 9)).alloc (.cells #[.string ⟨#[10]⟩] 9)).alloc (.cells #[.int .i64 0] 3) := by
  go_enter Tryd.func17, Tryd.ntmps17
  go_wp2
  go_ret
  exact ⟨rfl, rfl⟩


theorem add_flat (g j : Nat) : (⟨g, 0, none⟩ : Addr).add j = ⟨g, j, none⟩ := by unfold Addr.add; split <;> simp_all
theorem keepc {w w' : World} {a : Addr} {v : Value} (h : w.cell? a = some v) (hk : Pure' w w') : w'.cell? a = some v :=
  (World.cell?_of_block (hk.block a.block (by
    unfold World.cell? at h
    rcases Nat.lt_or_ge a.block w.heap.size with h' | h'
    · exact h'
    · rw [Array.getElem?_eq_none h'] at h; cases h) (fun hf => hf))).trans h
def edVs (l : List (Int × Int × Int)) : List Value := l.flatMap (fun e => [.int .i64 e.1, .int .i64 e.2.1, .int .i64 e.2.2])
/-- The reader's own block. -/
def RdB (w : World) (b : Nat) (v0 v1 v5 v6 : Value) (s : Sc) (x y : Int) : Prop :=
  Blk w b 50 #[v0, v1, .int .i64 s.table, .bool s.skip, .int .i64 s.every, v5, v6, .int .i64 x, .int .i64 y]

/-- How one scans, out of a line's words. -/
def scanV (s : Sc) (x : Int) : List (List UInt8) → Option Sc
  | [a, b, c, d] => if (parseV d 1 4611686018427387903).2 = 0 ∧ 0 < idx tabW b ∧ (c = wSkip ∨ c = wStep) ∧ x = 0 then some { s with table := idx tabW b, skip := decide (c = wSkip), every := (parseV d 1 4611686018427387903).1 } else none
  | _ => none
def ScanPost (b : Nat) (v0 v1 v5 v6 : Value) (s : Sc) (x y : Int) (ws : List (List UInt8)) (w : World) (e : Ending) (w' : World) : Prop :=
  Keeps (fun k => k = b) w w' ∧ match scanV s x ws with
    | some s' => e = .returned (.bool true) ∧ RdB w' b v0 v1 v5 v6 s' (x + 1) y
    | none => e = .returned (.bool false)

set_option maxHeartbeats 16000000 in
theorem scan_ (b : Nat) (v0 v1 v5 v6 : Value) (s : Sc) (x y : Int) (A : Option Addr) (n c B : Nat) (ws : List (List UInt8)) (w : World) (h : RdB w b v0 v1 v5 v6 s x y) (hs : Sees w B 1 A n (strVs ws)) (hA : ∀ ad, A = some ad → ∃ g, ad = ⟨g, 0, none⟩ ∧ g ≠ b)
    (hn : n ≤ 1000000) (hl : ∀ a ∈ ws, a.length ≤ 100000) (hx : x = 0 ∨ x = 1) :
    Calls Tryd.prog 43 #[.pointer (some ⟨b, 0, none⟩), .slice A n c] w fun e w' => ScanPost b v0 v1 v5 v6 s x y ws w e w' := by
  by_cases h4 : n ≠ 4
  · have hv : scanV s x ws = none := by
      have hlen := hs.1
      rw [strVs_len] at hlen
      unfold scanV
      split
      · simp at hlen; omega
      · rfl
    have q1 : ((n : Int) != 4) = true := by simp; omega
    unfold ScanPost
    rw [hv]
    clear hs hl
    go_enter Tryd.func43, Tryd.ntmps43
    go_wp2
    go_ret
    exact ⟨Keeps.refl _ _, rfl⟩
  obtain rfl : n = 4 := by omega
  obtain ⟨ws0, ws1, ws2, ws3, rfl⟩ : ∃ a b c d, ws = [a, b, c, d] := by
    have hlen := hs.1
    rw [strVs_len] at hlen
    match ws, hlen with
    | [a, b, c, d], _ => exact ⟨a, b, c, d, rfl⟩
  obtain ⟨ad, _, rfl, _, _⟩ := word_at hs (show 0 < 4 by decide)
  have cell : ∀ (j : Nat) (z : List UInt8), j < 4 → [ws0, ws1, ws2, ws3][j]? = some z → w.cell? (ad.add j) = some (.string ⟨z.toArray⟩) := by
    intro j z hj hz
    obtain ⟨ad', x', e, hx', hc⟩ := word_at hs hj
    cases e
    rw [hx'] at hz; cases hz; exact hc
  obtain ⟨g, rfl, hab⟩ := hA ad rfl
  have c1 := cell 1 ws1 (by decide) rfl
  rw [add_flat] at c1
  have c2 := cell 2 ws2 (by decide) rfl
  rw [add_flat] at c2
  have c3 := cell 3 ws3 (by decide) rfl
  rw [add_flat] at c3
  clear cell
  by_cases hw : ¬ (ws2 = wSkip ∨ ws2 = wStep)
  · have hv : scanV s x [ws0, ws1, ws2, ws3] = none := if_neg (fun h => hw h.2.2.1)
    have hw1 : ¬ ws2 = wSkip := fun e => hw (.inl e)
    have hw2 : ¬ ws2 = wStep := fun e => hw (.inr e)
    have q1 : (ws2 == [115, 107, 105, 112]) = false := by simpa [wSkip] using hw1
    have q2 : (ws2 == [115, 116, 101, 112]) = false := by simpa [wStep] using hw2
    unfold ScanPost
    rw [hv]
    clear hs hl hw hw1 hw2
    go_enter Tryd.func43, Tryd.ntmps43
    go_wp2
    go_ret
    exact ⟨Keeps.refl _ _, rfl⟩
  have hw' : ws2 = wSkip ∨ ws2 = wStep := by
    rcases Classical.em (ws2 = wSkip ∨ ws2 = wStep) with h | h
    · exact h
    · exact absurd h hw
  obtain ⟨pv, hpv⟩ : ∃ pv, parseV ws3 1 4611686018427387903 = pv := ⟨_, rfl⟩
  obtain ⟨z, ez⟩ := pv
  have hp := fun w => parse_ ws3 1 4611686018427387903 w (by have := hl ws3 (by simp); omega) (by decide) (by decide)
  have hpr : parseR ws3 1 4611686018427387903 = .tuple #[.int .i64 z, .int .i64 ez] := by unfold parseR; rw [hpv]
  rw [hpr] at hp
  have HP := Lib.hid hp
  have HPV := Lib.hid hpv
  have HS := Lib.hid hs
  have HB := Lib.hid h
  have hlt := h.lt
  clear hp hpr hpv hl h
  have HT := Lib.hid tables_
  have HI := Lib.hid index_
  obtain ⟨tk, htk⟩ : ∃ tk, idx tabW ws1 = tk := ⟨_, rfl⟩
  have HTK := Lib.hid htk
  clear htk
  rcases hw' with rfl | rfl
  · replace c2 : w.cell? ⟨g, 2, none⟩ = some (.string ⟨#[115, 107, 105, 112]⟩) := c2
    have HV : Hid (scanV s x [ws0, ws1, wSkip, ws3] = if ez = 0 ∧ 0 < tk ∧ x = 0 then some { s with table := tk, skip := true, every := z } else none) := Lib.hid (by
      unfold scanV
      dsimp only
      rw [HPV.out, HTK.out]
      by_cases hc : ez = 0 ∧ 0 < tk ∧ x = 0
      · rw [if_pos hc, if_pos ⟨hc.1, hc.2.1, by decide, hc.2.2⟩]; rfl
      · rw [if_neg hc, if_neg (fun h => hc ⟨h.1, h.2.1, h.2.2.2⟩)])
    go_enter Tryd.func43, Tryd.ntmps43
    go_wp2_with (go_at_call 67; refine (HP.out _).mono ?_; rintro e w1 ⟨rfl, hk⟩)
    have HB1 := Lib.hid (HB.out.keep hk (fun hf => hf))
    have HK1 := Lib.hid hk
    have HC := Lib.hid (fun W (hW : Pure' w W) => (⟨keepc c1 hW, keepc c2 hW⟩ : W.cell? ⟨g, 1, none⟩ = some (.string ⟨ws1.toArray⟩) ∧ W.cell? ⟨g, 2, none⟩ = some (.string ⟨#[115, 107, 105, 112]⟩)))
    obtain ⟨d1, d2⟩ := HC.out w1 hk
    clear c1 c2 c3 hk
    go_region_with (first
      | (go_at_call 55; refine (HT.out _).mono ?_; rintro e w2 ⟨A2, cc2, rfl, hs2, hk2⟩; have HS2 := Lib.hid hs2; have HK2 := Lib.hid (HK1.out.drew.then_ hk2); have HB2 := Lib.hid (HB1.out.drew.keep hk2 (fun hf => hf)); obtain ⟨k1, k2⟩ := HC.out w2 HK2.out; have b2 := HB2.out.cell 2; have b3 := HB2.out.cell 3; have b4 := HB2.out.cell 4; have f2 := HB2.out.frozen 2; have f3 := HB2.out.frozen 3; have f4 := HB2.out.frozen 4; clear hs2 hk2)
      | (go_at_call 68; refine (HI.out _ _ _ _ tabW ws1 _ HS2.out (by decide)).mono ?_; rintro e w3 ⟨rfl, rfl⟩; rw [HTK.out]))
    all_goals
      have HB3 := Lib.hid (((HB2.out.set_ 2 (.int .i64 tk)).set_ 3 (.bool true)).set_ 4 (.int .i64 z))
      have HK3 := Lib.hid ((((HK2.out.mono (S' := fun k => k = b) (fun _ _ hf => hf.elim)).setCell (p := ⟨b, 2, none⟩) (.inl rfl) (.int .i64 tk)).setCell (p := ⟨b, 3, none⟩) (.inl rfl) (.bool true)).setCell (p := ⟨b, 4, none⟩) (.inl rfl) (.int .i64 z))
      clear HB2 HK2 HS2 k1 k2 b2 b3 b4 f2 f3 f4
      generalize ((w3.setCell ⟨b, 2, none⟩ (.int .i64 tk)).setCell ⟨b, 3, none⟩ (.bool true)).setCell ⟨b, 4, none⟩ (.int .i64 z) = w4 at *
      have x2 := HB3.out.cell 2
      have x7 := HB3.out.cell 7
      have y7 := HB3.out.frozen 7
      have hwr : wrap64 (x + 1) = x + 1 := by unfold wrap64; omega
      go_wp2
    all_goals go_ret
    all_goals unfold ScanPost
    all_goals refine ⟨HK3.out.setCell (p := ⟨b, 7, none⟩) (.inl rfl) _, ?_⟩
    all_goals rw [HV.out]
    all_goals first
      | (rw [if_neg (by intro h; obtain ⟨h1, h2, h3⟩ := h; first | omega | (simp_all; done))]; done)
      | (rw [if_neg (by intro h; obtain ⟨h1, h2, h3⟩ := h; first | omega | (simp_all; done))]; rfl)
      | (rcases hx with rfl | rfl
         · rw [if_pos ⟨by omega, by omega, rfl⟩]; exact ⟨rfl, (HB3.out.set_ 7 _).to rfl⟩
         · rw [if_neg (by omega)]; rfl)
  · replace c2 : w.cell? ⟨g, 2, none⟩ = some (.string ⟨#[115, 116, 101, 112]⟩) := c2
    have HV : Hid (scanV s x [ws0, ws1, wStep, ws3] = if ez = 0 ∧ 0 < tk ∧ x = 0 then some { s with table := tk, skip := false, every := z } else none) := Lib.hid (by
      unfold scanV
      dsimp only
      rw [HPV.out, HTK.out]
      by_cases hc : ez = 0 ∧ 0 < tk ∧ x = 0
      · rw [if_pos hc, if_pos ⟨hc.1, hc.2.1, by decide, hc.2.2⟩]; rfl
      · rw [if_neg hc, if_neg (fun h => hc ⟨h.1, h.2.1, h.2.2.2⟩)])
    go_enter Tryd.func43, Tryd.ntmps43
    go_wp2_with (go_at_call 67; refine (HP.out _).mono ?_; rintro e w1 ⟨rfl, hk⟩)
    have HB1 := Lib.hid (HB.out.keep hk (fun hf => hf))
    have HK1 := Lib.hid hk
    have HC := Lib.hid (fun W (hW : Pure' w W) => (⟨keepc c1 hW, keepc c2 hW⟩ : W.cell? ⟨g, 1, none⟩ = some (.string ⟨ws1.toArray⟩) ∧ W.cell? ⟨g, 2, none⟩ = some (.string ⟨#[115, 116, 101, 112]⟩)))
    obtain ⟨d1, d2⟩ := HC.out w1 hk
    clear c1 c2 c3 hk
    go_region_with (first
      | (go_at_call 55; refine (HT.out _).mono ?_; rintro e w2 ⟨A2, cc2, rfl, hs2, hk2⟩; have HS2 := Lib.hid hs2; have HK2 := Lib.hid (HK1.out.drew.then_ hk2); have HB2 := Lib.hid (HB1.out.drew.keep hk2 (fun hf => hf)); obtain ⟨k1, k2⟩ := HC.out w2 HK2.out; have b2 := HB2.out.cell 2; have b3 := HB2.out.cell 3; have b4 := HB2.out.cell 4; have f2 := HB2.out.frozen 2; have f3 := HB2.out.frozen 3; have f4 := HB2.out.frozen 4; clear hs2 hk2)
      | (go_at_call 68; refine (HI.out _ _ _ _ tabW ws1 _ HS2.out (by decide)).mono ?_; rintro e w3 ⟨rfl, rfl⟩; rw [HTK.out]))
    all_goals
      have HB3 := Lib.hid (((HB2.out.set_ 2 (.int .i64 tk)).set_ 3 (.bool false)).set_ 4 (.int .i64 z))
      have HK3 := Lib.hid ((((HK2.out.mono (S' := fun k => k = b) (fun _ _ hf => hf.elim)).setCell (p := ⟨b, 2, none⟩) (.inl rfl) (.int .i64 tk)).setCell (p := ⟨b, 3, none⟩) (.inl rfl) (.bool false)).setCell (p := ⟨b, 4, none⟩) (.inl rfl) (.int .i64 z))
      clear HB2 HK2 HS2 k1 k2 b2 b3 b4 f2 f3 f4
      generalize ((w3.setCell ⟨b, 2, none⟩ (.int .i64 tk)).setCell ⟨b, 3, none⟩ (.bool false)).setCell ⟨b, 4, none⟩ (.int .i64 z) = w4 at *
      have x2 := HB3.out.cell 2
      have x7 := HB3.out.cell 7
      have y7 := HB3.out.frozen 7
      have hwr : wrap64 (x + 1) = x + 1 := by unfold wrap64; omega
      go_wp2
    all_goals go_ret
    all_goals unfold ScanPost
    all_goals refine ⟨HK3.out.setCell (p := ⟨b, 7, none⟩) (.inl rfl) _, ?_⟩
    all_goals rw [HV.out]
    all_goals first
      | (rw [if_neg (by intro h; obtain ⟨h1, h2, h3⟩ := h; first | omega | (simp_all; done))]; done)
      | (rw [if_neg (by intro h; obtain ⟨h1, h2, h3⟩ := h; first | omega | (simp_all; done))]; rfl)
      | (rcases hx with rfl | rfl
         · rw [if_pos ⟨by omega, by omega, rfl⟩]; exact ⟨rfl, (HB3.out.set_ 7 _).to rfl⟩
         · rw [if_neg (by omega)]; rfl)

end Go.Proofs.YtjcjmjnajhkdaaaDoor
