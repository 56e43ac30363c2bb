/- The law of as many lines as may be; no condition but the card's cell. -/
import Derived.Test.YtjcjmjnajhkdaaaDoorScrR
namespace Go.Proofs.YtjcjmjnajhkdaaaDoor
open Go.RowKit
set_option linter.unusedVariables false
set_option linter.unusedSimpArgs false
set_option maxRecDepth 100000

def mL0 : List UInt8 := [115, 99, 97, 110, 32, 108, 105, 110, 107, 115, 32, 115, 116, 101, 112, 32, 49]
def mL1 : List UInt8 := [112, 97, 114, 116, 32, 97]
def mLs (k : Nat) : List (List UInt8) := mL0 :: List.replicate k mL1
def mTxt (k : Nat) : List UInt8 := (mLs k).flatMap (· ++ [10])
def mSc (k : Nat) : Sc := ⟨[], List.replicate k [97], 3, false, 1, [], []⟩
theorem mTxt_succ (k : Nat) : mTxt (k + 1) = mTxt k ++ (mL1 ++ [10]) := by
  unfold mTxt mLs
  rw [List.replicate_succ', ← List.cons_append, List.flatMap_append]
  simp
theorem mTxt_len (k : Nat) : (mTxt k).length = 18 + 7 * k := by
  induction k with
  | zero => decide +kernel
  | succ k ih => rw [mTxt_succ, List.length_append, ih]; simp [mL1]; omega
theorem mL_words : wordsL mL0 = [wScan, [108, 105, 110, 107, 115], wStep, [49]] ∧ wordsL mL1 = [wPart, [97]] := by decide +kernel
theorem mL_live (k : Nat) : ∀ l ∈ mLs k, Live l := by
  intro l hl
  rcases List.mem_cons.1 hl with rfl | hl
  · unfold Live; rw [mL_words.1]; decide
  · rw [(List.mem_replicate.1 hl).2]; unfold Live; rw [mL_words.2]; decide
theorem mL_go (k : Nat) : goM (sc0, false, false) (mLs k) = some (mSc k, true, false) := by
  have p1 : parseV [49] 1 4611686018427387903 = (1, 0) := by
    have h := parse_text (n := 1) (lo := 1) (hi := 4611686018427387903) (by decide) (by decide)
    have e : textL 1 = [49] := by rw [textL_pos (by decide)]; exact natL_small (by decide)
    rwa [e] at h
  have l0 : lineV sc0 false false (wordsL mL0) = some (mSc 0, true, false) := by
    rw [mL_words.1]
    unfold lineV
    dsimp only
    rw [p1, if_pos rfl, if_pos ⟨rfl, by decide +kernel, .inr rfl, rfl⟩]
    rfl
  have e1 : List.replicate k mL1 = (List.replicate k ([97] : List UInt8)).map (fun p => sp wPart (quoteL p)) := by
    rw [List.map_replicate, show sp wPart (quoteL [97]) = mL1 by decide +kernel]
  unfold mLs
  rw [goM]
  dsimp only
  rw [l0]
  dsimp only
  rw [e1, go_parts]
  simp [mSc]
theorem mL_lines (k : Nat) : linesL (mTxt k) = mLs k ++ [[]] := by
  have h := lines_flat (mLs k) [] (by
    intro x hx c hc
    rcases List.mem_cons.1 hx with rfl | hx
    · revert c; decide +kernel
    · rw [(List.mem_replicate.1 hx).2] at hc; revert c; decide +kernel)
  rw [List.append_nil] at h
  exact h
theorem many_yes : parseS (mTxt 399) = (mSc 399, 0, 0) := by
  unfold parseS
  rw [mL_lines, parse_go (mLs 399) [[]] sc0 (mSc 399) false false true false 0 0 (mL_live 399) (mL_go 399) (by simp [mLs])]
  rw [parseGo, if_pos (show dead (wordsL []) = true from rfl), parseGo, if_pos rfl]
theorem many_no : parseS (mTxt 400) = (sc0, 401, 13) := by
  unfold parseS
  have e : mLs 400 ++ [[]] = mLs 399 ++ [mL1, []] := by
    unfold mLs
    rw [List.replicate_succ' (n := 399)]
    simp
  rw [mL_lines, e, parse_go (mLs 399) [mL1, []] sc0 (mSc 399) false false true false 0 0 (mL_live 399) (mL_go 399) (by simp [mLs])]
  rw [parseGo, if_neg (by rw [mL_words.2]; decide), if_pos (by simp [mLs])]
  simp [mLs]

set_option maxHeartbeats 1000000 in
theorem many_yes_walk (w : World) (m : Int) (hmx : w.cell? ⟨2, 0, none⟩ = some (.int .i64 m)) : Calls Tryd.prog 6 #[.bool true] w fun e w' => e = .returned (.bool true) ∧ Pure' w w' := by
  have HAw := Lib.hid (fun W (hW : Pure' w W) => awake43 W m (keepc hmx hW))
  have hp := parseS_ (mTxt 400) w (by rw [mTxt_len]; decide) m hmx
  unfold ParsePost at hp
  rw [many_no] at hp
  have HP := Lib.hid hp
  clear hp hmx
  have HT0 := Lib.hid (show (⟨(mTxt 0).toArray⟩ : ByteArray) = ⟨#[115, 99, 97, 110, 32, 108, 105, 110, 107, 115, 32, 115, 116, 101, 112, 32, 49, 10]⟩ from rfl)
  go_enter Tryd.func6, Tryd.ntmps6
  go_wp2
  go_loop [3, 5] (fun v3 v5 => ∃ k : Nat, k ≤ 400 ∧ v5 = .int .i64 ((k : Int) + 1) ∧ v3 = .string ⟨(mTxt k).toArray⟩) (fun _ v5 => 401 - (intOf v5).toNat)
  case atStart => exact ⟨0, by decide, rfl, by rw [HT0.out]⟩
  case round =>
    obtain ⟨k, hk, rfl, rfl⟩ := hrel
    have HL := Lib.hid (mTxt_len k)
    have hl : (mTxt k).length ≤ 3000 := by rw [HL.out]; omega
    have hwk : wrap64 ((k : Int) + 1 + 1) = (k : Int) + 1 + 1 := by unfold wrap64; omega
    by_cases hlt : k < 400
    · have q1 : (k : Int) + 1 < 401 := by omega
      have HS := Lib.hid (show (⟨(mTxt k).toArray⟩ : ByteArray) ++ ⟨#[112, 97, 114, 116, 32, 97, 10]⟩ = ⟨(mTxt (k + 1)).toArray⟩ by
        rw [mTxt_succ]; exact bytes_eq (by simp [mL1]))
      go_wp2
      go_round
      case rel => exact ⟨k + 1, by omega, by simp, by rw [HS.out]⟩
      case measure => simp [intOf]; omega
    · obtain rfl : k = 400 := by omega
      clear hl hwk HL
      go_wp2_with fail
      refine HP.out.mono ?_
      rintro e w1 ⟨v0, v1, v5, v6, rfl, hsr, hk⟩
      have HK1 := Lib.hid hk
      obtain ⟨b0, j0, rfl, _⟩ := hsr.p0
      obtain ⟨b1, j1, rfl, _⟩ := hsr.p1
      obtain ⟨b5, j5, rfl, _⟩ := hsr.p5
      obtain ⟨b6, j6, rfl, _⟩ := hsr.p6
      clear hk hsr HP
      rw [show scV (.slice b0 sc0.pats.length j0) (.slice b1 sc0.parts.length j1) (.slice b5 sc0.edits.length j5) (.slice b6 sc0.certs.length j6) sc0 = .agg #[.slice b0 0 j0, .slice b1 0 j1, .int .i64 0, .bool false, .int .i64 0, .slice b5 0 j5, .slice b6 0 j6] from rfl]
      have HB := Lib.hid (Blk.new w1 29 #[.slice b0 0 j0, .slice b1 0 j1, .int .i64 0, .bool false, .int .i64 0, .slice b5 0 j5, .slice b6 0 j6])
      have x1 := HB.out.cell 1
      have HP1 := Lib.hid (HK1.out.alloc (.cells #[.slice b0 0 j0, .slice b1 0 j1, .int .i64 0, .bool false, .int .i64 0, .slice b5 0 j5, .slice b6 0 j6] 29))
      go_wp2_with (go_at_call 7; refine (HAw.out _ HP1.out).mono ?_; rintro e w4 ⟨rfl, hk⟩; have HK4 := Lib.hid (HP1.out.then_ hk); clear hk)
      go_ret
      exact ⟨rfl, HK4.out⟩

set_option maxHeartbeats 1000000 in
theorem many_no_walk (w : World) (m : Int) (hmx : w.cell? ⟨2, 0, none⟩ = some (.int .i64 m)) : Calls Tryd.prog 6 #[.bool false] w fun e w' => e = .returned (.bool true) ∧ Pure' w w' := by
  have HAw := Lib.hid (fun W (hW : Pure' w W) => awake43 W m (keepc hmx hW))
  have hp := parseS_ (mTxt 399) w (by rw [mTxt_len]; decide) m hmx
  unfold ParsePost at hp
  rw [many_yes] at hp
  have HP := Lib.hid hp
  clear hp hmx
  have HT0 := Lib.hid (show (⟨(mTxt 0).toArray⟩ : ByteArray) = ⟨#[115, 99, 97, 110, 32, 108, 105, 110, 107, 115, 32, 115, 116, 101, 112, 32, 49, 10]⟩ from rfl)
  go_enter Tryd.func6, Tryd.ntmps6
  go_wp2
  go_loop [3, 5] (fun v3 v5 => ∃ k : Nat, k ≤ 399 ∧ v5 = .int .i64 ((k : Int) + 1) ∧ v3 = .string ⟨(mTxt k).toArray⟩) (fun _ v5 => 400 - (intOf v5).toNat)
  case atStart => exact ⟨0, by decide, rfl, by rw [HT0.out]⟩
  case round =>
    obtain ⟨k, hk, rfl, rfl⟩ := hrel
    have HL := Lib.hid (mTxt_len k)
    have hl : (mTxt k).length ≤ 3000 := by rw [HL.out]; omega
    have hwk : wrap64 ((k : Int) + 1 + 1) = (k : Int) + 1 + 1 := by unfold wrap64; omega
    by_cases hlt : k < 399
    · have q1 : (k : Int) + 1 < 400 := by omega
      have HS := Lib.hid (show (⟨(mTxt k).toArray⟩ : ByteArray) ++ ⟨#[112, 97, 114, 116, 32, 97, 10]⟩ = ⟨(mTxt (k + 1)).toArray⟩ by
        rw [mTxt_succ]; exact bytes_eq (by simp [mL1]))
      go_wp2
      go_round
      case rel => exact ⟨k + 1, by omega, by simp, by rw [HS.out]⟩
      case measure => simp [intOf]; omega
    · obtain rfl : k = 399 := by omega
      clear hl hwk HL
      go_wp2_with fail
      refine HP.out.mono ?_
      rintro e w1 ⟨v0, v1, v5, v6, rfl, hsr, hk⟩
      have HK1 := Lib.hid hk
      obtain ⟨b0, j0, rfl, _⟩ := hsr.p0
      obtain ⟨b1, j1, rfl, _⟩ := hsr.p1
      obtain ⟨b5, j5, rfl, _⟩ := hsr.p5
      obtain ⟨b6, j6, rfl, _⟩ := hsr.p6
      clear hk hsr HP
      rw [show scV (.slice b0 (mSc 399).pats.length j0) (.slice b1 (mSc 399).parts.length j1) (.slice b5 (mSc 399).edits.length j5) (.slice b6 (mSc 399).certs.length j6) (mSc 399) = .agg #[.slice b0 0 j0, .slice b1 399 j1, .int .i64 3, .bool false, .int .i64 1, .slice b5 0 j5, .slice b6 0 j6] from rfl]
      have HB := Lib.hid (Blk.new w1 29 #[.slice b0 0 j0, .slice b1 399 j1, .int .i64 3, .bool false, .int .i64 1, .slice b5 0 j5, .slice b6 0 j6])
      have x1 := HB.out.cell 1
      have HP1 := Lib.hid (HK1.out.alloc (.cells #[.slice b0 0 j0, .slice b1 399 j1, .int .i64 3, .bool false, .int .i64 1, .slice b5 0 j5, .slice b6 0 j6] 29))
      go_wp2_with (go_at_call 7; refine (HAw.out _ HP1.out).mono ?_; rintro e w4 ⟨rfl, hk⟩; have HK4 := Lib.hid (HP1.out.then_ hk); clear hk)
      go_ret
      exact ⟨rfl, HK4.out⟩

theorem many_row (w : World) (b : Bool) (m : Int) (hmx : w.cell? ⟨2, 0, none⟩ = some (.int .i64 m)) :
    Calls Tryd.prog 6 #[.bool b] w fun e w' => e = .returned (.bool true) ∧ Pure' w w' := by
  cases b
  · exact many_no_walk w m hmx
  · exact many_yes_walk w m hmx

end Go.Proofs.YtjcjmjnajhkdaaaDoor
