/- What DigitParses and DigitBack answer; no condition but that the variable of the search's bound holds an int. -/
import Derived.Test.YtacodojaolnhnaaDoorDigO
namespace Go.Proofs.YtacodojaolnhnaaDoor
open Go.RowKit
set_option linter.unusedVariables false
set_option linter.unusedSimpArgs false
set_option maxRecDepth 100000

theorem keep_cell {w w' : World} {a : Addr} {v : Value} (hk : Pure' w w') (h : w.cell? a = some v) : w'.cell? a = some v :=
  (World.cell?_of_block (hk.block a.block (World.block_lt_of_cell? _ _ h) fun hf => hf)).trans h

set_option maxHeartbeats 1000000 in
theorem parses_walk (l : List UInt8) (least most : Int) (w : World) (m : Int) (hmx : w.cell? ⟨0, 0, none⟩ = some (.int .i64 m)) (hs : l.length ≤ maxLen) (hl : -9223372036854775808 ≤ least ∧ least ≤ 9223372036854775807) (hm : -9223372036854775808 ≤ most ∧ most ≤ 9223372036854775807) :
    Calls Tryd.prog 3 #[.string ⟨l.toArray⟩, .int .i64 least, .int .i64 most] w fun e w' => e = .returned (.bool true) ∧ Pure' w w' := by
  have hsz : ((⟨l.toArray⟩ : ByteArray)).size = l.length := by simp [ByteArray.size]
  unfold maxLen at hs
  have H5 := Lib.hid awake01
  by_cases h : 1000 < l.length
  · go_enter Tryd.func3, Tryd.ntmps3
    go_wp2_with (go_at_call 5; refine (H5.out _).mono ?_; rintro e w1 ⟨rfl, hp1⟩)
    go_ret
    exact ⟨rfl, by assumption⟩
  · have h1 := fun w => parse_ l least most w (by omega) hl hm
    have h2 := fun w => rparse_ l least most w (by omega) hl hm
    have h3 := fun w1 (hp : Pure' w w1) => parserow_ l least most w1 m (keep_cell hp hmx) (by omega) hl hm
    have h4 := fun w => rparserow_ l least most w (by omega) hl hm
    unfold parseR at h1 h2
    unfold RowPost at h3 h4
    have hn : (rowV l least most).1.length ≤ 1000000000 ∨ True := .inr trivial
    generalize (parseV l least most).1 = x at *
    generalize (parseV l least most).2 = e1 at *
    have hlen : (rowV l least most).1.length ≤ l.length + 1 := by
      have hgo : ∀ (ps : List (List UInt8)) acc, (rowP least most ps acc).1.length ≤ acc.length + ps.length := by
        intro ps
        induction ps with
        | nil => intro acc; exact Nat.le_refl _
        | cons p ps ih =>
          intro acc
          rw [rowP]
          split
          · have := ih (acc ++ [(parseV p least most).1]); simp at this ⊢; omega
          · simp
      unfold rowV
      split
      · simp
      · have := hgo (splitL l) []
        have h2 := (sF_len l []).1
        unfold splitL at this ⊢
        simp at this; omega
    generalize (rowV l least most).2 = e2 at *
    generalize (rowV l least most).1 = zs at *
    generalize hN : zs.length = n at *
    have H1 := Lib.hid h1
    have H2 := Lib.hid h2
    have H3 := Lib.hid h3
    have H4 := Lib.hid h4
    have H6 := Lib.hid rsame_
    have hnb : n ≤ 1000000000 := by omega
    clear h1 h2 h3 h4 hmx hN hlen hn
    go_enter Tryd.func3, Tryd.ntmps3
    go_wp2_with (first
      | (go_at_call 6; refine (H1.out _).mono ?_; rintro e w1 ⟨rfl, hk⟩; have HK1 := Lib.hid hk; clear hk)
      | (go_at_call 7; refine (H2.out _).mono ?_; rintro e w2 ⟨rfl, rfl⟩)
      | (go_at_call 8; refine (H3.out _ HK1.out).mono ?_; rintro e w3 ⟨A3, c3, rfl, hs3, hk⟩; have HK3 := Lib.hid (HK1.out.then_ hk); have HS3 := Lib.hid hs3; clear hk hs3)
      | (go_at_call 9; refine (H4.out _).mono ?_; rintro e w4 ⟨A4, c4, rfl, hs4, hk⟩; have HK4 := Lib.hid hk; have HS4 := Lib.hid hs4; clear hk hs4)
      | (go_at_call 10; refine (H6.out _ _ _ _ _ _ _ zs _ (HS3.out.pure HK4.out (Nat.le_refl _)) HS4.out hnb).mono ?_; rintro e w5 ⟨rfl, q, rfl⟩)
      | (go_at_call 5; refine (H5.out _).mono ?_; rintro e w6 ⟨rfl, hk⟩; have HK6 := Lib.hid hk; clear hk))
    go_ret
    exact ⟨rfl, ((HK3.out.then_ HK4.out).drewN q).then_ HK6.out⟩

theorem parses_row (w : World) (s : ByteArray) (least most : Int) (m : Int) (hmx : w.cell? ⟨0, 0, none⟩ = some (.int .i64 m)) (hs : s.size ≤ maxLen) (hl : -9223372036854775808 ≤ least ∧ least ≤ 9223372036854775807) (hm : -9223372036854775808 ≤ most ∧ most ≤ 9223372036854775807) :
    Calls Tryd.prog 3 #[.string s, .int .i64 least, .int .i64 most] w fun e w' => e = .returned (.bool true) ∧ Pure' w w' := by
  exact parses_walk s.data.toList least most w m hmx (by rw [← Lib.size_eq]; exact hs) hl hm

set_option maxHeartbeats 2000000 in
theorem back01_walk (n : Int) (A : Option Addr) (ln cp : Nat) (zs : List Int) (l : List UInt8) (least most : Int) (w : World) (m : Int) (hmx : w.cell? ⟨0, 0, none⟩ = some (.int .i64 m))
    (hn : -9223372036854775808 ≤ n ∧ n ≤ 9223372036854775807)
    (hzs : ln ≤ cp ∧ ln ≤ maxLen ∧ Sees w w.heap.size 1 A ln (zs.map (Value.int .i64)) ∧ ∀ z ∈ zs, -9223372036854775808 ≤ z ∧ z ≤ 9223372036854775807)
    (hs : l.length ≤ maxLen) (hl : -9223372036854775808 ≤ least ∧ least ≤ 9223372036854775807) (hm : -9223372036854775808 ≤ most ∧ most ≤ 9223372036854775807) :
    Calls Tryd.prog 4 #[.int .i64 n, .slice A ln cp, .string ⟨l.toArray⟩, .int .i64 least, .int .i64 most] w fun e w' => e = .returned (.bool true) ∧ Pure' w w' := by
  have hsz : ((⟨l.toArray⟩ : ByteArray)).size = l.length := by simp [ByteArray.size]
  obtain ⟨hz1, hz2, hz3, hz4⟩ := hzs
  unfold maxLen at hs hz2
  have H5 := Lib.hid awake01
  by_cases h : 100 < ln
  · go_enter Tryd.func4, Tryd.ntmps4
    go_wp2_with (go_at_call 5; refine (H5.out _).mono ?_; rintro e w1 ⟨rfl, hp1⟩)
    go_ret
    exact ⟨rfl, by assumption⟩
  by_cases h' : 1000 < l.length
  · go_enter Tryd.func4, Tryd.ntmps4
    go_wp2_with (go_at_call 5; refine (H5.out _).mono ?_; rintro e w1 ⟨rfl, hp1⟩)
    go_ret
    exact ⟨rfl, by assumption⟩
  have hzl : zs.length = ln := by have := hz3.1; simpa using this
  have hrl : (rowL zs).length ≤ 100000 := by
    by_cases h0 : zs = []
    · subst h0; decide
    · rw [← jn_all zs h0]; have := jn_len hz4 zs.length (Nat.le_refl _); omega
  have hTl : (textL n).length ≤ 20 := textL_len hn.1 hn.2
  have h3 := fun w1 (hp : Pure' w w1) => row_ A ln cp w.heap.size zs w1 (hz3.pure hp (Nat.le_refl _)) hp.size (by omega) hz4
  have h4 := fun w1 (hp : Pure' w w1) => parserow_ (rowL zs) (-9223372036854775808) 9223372036854775807 w1 m (keep_cell hp hmx) hrl (by decide) (by decide)
  have h7 := fun w => rform_ l w (by omega)
  have h8 := fun w1 (hp : Pure' w w1) => hz3.pure hp (Nat.le_refl _)
  have e1 : parseR (textL n) (-9223372036854775808) 9223372036854775807 = .tuple #[.int .i64 n, .int .i64 0] := by unfold parseR; rw [parse_back n hn]
  unfold RowPost at h4
  rw [row_back zs hz4] at h4
  simp only [hzl] at h4
  obtain ⟨T, hT⟩ : ∃ T, textL n = T := ⟨_, rfl⟩
  rw [hT] at e1 hTl
  generalize rowL zs = R at *
  have E1 := Lib.hid e1
  have ET := Lib.hid hT
  have H3 := Lib.hid h3
  have H4 := Lib.hid h4
  have H8 := Lib.hid h8
  have H9 := Lib.hid rsame_
  have HPA := Lib.hid (fun (s : List UInt8) (lo hi : Int) w (h : s.length ≤ 2000) (h1 : -9223372036854775808 ≤ lo ∧ lo ≤ 9223372036854775807) (h2 : -9223372036854775808 ≤ hi ∧ hi ≤ 9223372036854775807) => parse_ s lo hi w (by omega) h1 h2)
  have HTX := Lib.hid text_
  have HLZ := Lib.hid hzl
  obtain ⟨hn1, hn2⟩ := hn
  obtain ⟨hl1, hl2⟩ := hl
  obtain ⟨hm1, hm2⟩ := hm
  clear h3 h4 h8 hmx hz3 hz4 hzl hrl e1 hT
  have hnb : ln ≤ 1000000000 := by omega
  have hp6 : parseR l least most = .tuple #[.int .i64 (parseV l least most).1, .int .i64 (parseV l least most).2] := rfl
  rcases parse_cases l least most with ⟨he, hx1, hx2, hf, hx, hb1, hb2⟩ | ⟨he, hx, hf⟩ | ⟨he, hx, hf⟩
  · have hex := text_num hf
    rw [hx] at hx1 hx2
    rw [he, hx] at hp6
    rw [hf] at h7
    generalize numZ l = z at *
    have q0 : (l == l) = true := by simp
    have E6 := Lib.hid hp6
    have H7 := Lib.hid h7
    have EX := Lib.hid hex
    clear hp6 h7 hex he hx hf
    go_enter Tryd.func4, Tryd.ntmps4
    go_wp2_with (first
      | (go_at_call 11; refine (HTX.out _ _ (by omega) (by omega)).mono ?_; rintro e w1 ⟨rfl, hk⟩; first | (rw [ET.out]; have HK1 := Lib.hid hk; clear hk) | (rw [EX.out]; have HK8 := Lib.hid hk; clear hk))
      | (go_at_call 6; refine (HPA.out _ _ _ _ (by omega) (by omega) (by omega)).mono ?_; rintro e w2 ⟨rfl, hk⟩; first | (rw [E1.out]; have HK2 := Lib.hid (HK1.out.then_ hk); clear hk) | (rw [E6.out]; have HK7 := Lib.hid hk; clear hk))
      | (go_at_call 12; refine (H3.out _ HK2.out).mono ?_; rintro e w3 ⟨rfl, hk⟩; have HK3 := Lib.hid (HK2.out.then_ hk); clear hk)
      | (go_at_call 8; refine (H4.out _ HK3.out).mono ?_; rintro e w4 ⟨A4, c4, rfl, hs4, hk⟩; have HK4 := Lib.hid (HK3.out.then_ hk); have HS4 := Lib.hid hs4; clear hk hs4)
      | (go_at_call 10; refine (H9.out _ _ _ _ _ _ _ zs _ HS4.out (H8.out _ HK4.out) hnb).mono ?_; rintro e w5 ⟨rfl, q, rfl⟩)
      | (go_at_call 13; refine (H7.out _).mono ?_; rintro e w9 ⟨rfl, rfl⟩)
      | (go_at_call 5; refine (H5.out _).mono ?_; rintro e w6 ⟨rfl, hk⟩; have HK6 := Lib.hid hk; clear hk))
    go_ret
    exact ⟨rfl, (((HK4.out.drewN q).then_ HK7.out).then_ HK8.out).then_ HK6.out⟩
  · rw [he, hx] at hp6
    rw [hf] at h7
    have E6 := Lib.hid hp6
    have H7 := Lib.hid h7
    clear hp6 h7 he hx hf
    go_enter Tryd.func4, Tryd.ntmps4
    go_wp2_with (first
      | (go_at_call 11; refine (HTX.out _ _ (by omega) (by omega)).mono ?_; rintro e w1 ⟨rfl, hk⟩; first | (rw [ET.out]; have HK1 := Lib.hid hk; clear hk))
      | (go_at_call 6; refine (HPA.out _ _ _ _ (by omega) (by omega) (by omega)).mono ?_; rintro e w2 ⟨rfl, hk⟩; first | (rw [E1.out]; have HK2 := Lib.hid (HK1.out.then_ hk); clear hk) | (rw [E6.out]; have HK7 := Lib.hid hk; clear hk))
      | (go_at_call 12; refine (H3.out _ HK2.out).mono ?_; rintro e w3 ⟨rfl, hk⟩; have HK3 := Lib.hid (HK2.out.then_ hk); clear hk)
      | (go_at_call 8; refine (H4.out _ HK3.out).mono ?_; rintro e w4 ⟨A4, c4, rfl, hs4, hk⟩; have HK4 := Lib.hid (HK3.out.then_ hk); have HS4 := Lib.hid hs4; clear hk hs4)
      | (go_at_call 10; refine (H9.out _ _ _ _ _ _ _ zs _ HS4.out (H8.out _ HK4.out) hnb).mono ?_; rintro e w5 ⟨rfl, q, rfl⟩)
      | (go_at_call 13; refine (H7.out _).mono ?_; rintro e w9 ⟨rfl, rfl⟩)
      | (go_at_call 5; refine (H5.out _).mono ?_; rintro e w6 ⟨rfl, hk⟩; have HK6 := Lib.hid hk; clear hk))
    go_ret
    exact ⟨rfl, ((HK4.out.drewN q).then_ HK7.out).then_ HK6.out⟩
  · rw [he, hx] at hp6
    rw [hf] at h7
    have E6 := Lib.hid hp6
    have H7 := Lib.hid h7
    clear hp6 h7 he hx hf
    go_enter Tryd.func4, Tryd.ntmps4
    go_wp2_with (first
      | (go_at_call 11; refine (HTX.out _ _ (by omega) (by omega)).mono ?_; rintro e w1 ⟨rfl, hk⟩; first | (rw [ET.out]; have HK1 := Lib.hid hk; clear hk))
      | (go_at_call 6; refine (HPA.out _ _ _ _ (by omega) (by omega) (by omega)).mono ?_; rintro e w2 ⟨rfl, hk⟩; first | (rw [E1.out]; have HK2 := Lib.hid (HK1.out.then_ hk); clear hk) | (rw [E6.out]; have HK7 := Lib.hid hk; clear hk))
      | (go_at_call 12; refine (H3.out _ HK2.out).mono ?_; rintro e w3 ⟨rfl, hk⟩; have HK3 := Lib.hid (HK2.out.then_ hk); clear hk)
      | (go_at_call 8; refine (H4.out _ HK3.out).mono ?_; rintro e w4 ⟨A4, c4, rfl, hs4, hk⟩; have HK4 := Lib.hid (HK3.out.then_ hk); have HS4 := Lib.hid hs4; clear hk hs4)
      | (go_at_call 10; refine (H9.out _ _ _ _ _ _ _ zs _ HS4.out (H8.out _ HK4.out) hnb).mono ?_; rintro e w5 ⟨rfl, q, rfl⟩)
      | (go_at_call 13; refine (H7.out _).mono ?_; rintro e w9 ⟨rfl, rfl⟩)
      | (go_at_call 5; refine (H5.out _).mono ?_; rintro e w6 ⟨rfl, hk⟩; have HK6 := Lib.hid hk; clear hk))
    go_ret
    exact ⟨rfl, ((HK4.out.drewN q).then_ HK7.out).then_ HK6.out⟩

theorem back01_row (w : World) (n : Int) (A : Option Addr) (ln cp : Nat) (zs : List Int) (s : ByteArray) (least most : Int) (m : Int) (hmx : w.cell? ⟨0, 0, none⟩ = some (.int .i64 m))
    (hn : -9223372036854775808 ≤ n ∧ n ≤ 9223372036854775807)
    (hzs : ln ≤ cp ∧ ln ≤ maxLen ∧ Sees w w.heap.size 1 A ln (zs.map (Value.int .i64)) ∧ ∀ z ∈ zs, -9223372036854775808 ≤ z ∧ z ≤ 9223372036854775807)
    (hs : s.size ≤ maxLen) (hl : -9223372036854775808 ≤ least ∧ least ≤ 9223372036854775807) (hm : -9223372036854775808 ≤ most ∧ most ≤ 9223372036854775807) :
    Calls Tryd.prog 4 #[.int .i64 n, .slice A ln cp, .string s, .int .i64 least, .int .i64 most] w fun e w' => e = .returned (.bool true) ∧ Pure' w w' :=
  back01_walk n A ln cp zs s.data.toList least most w m hmx hn hzs (by rw [← Lib.size_eq]; exact hs) hl hm
end Go.Proofs.YtacodojaolnhnaaDoor
