/- The reference's evidence at an end holds; no condition but the sizes. -/
import Derived.Test.YtkbdfnmeomkpjaaGreatClmI
namespace Go.Proofs.YtkbdfnmeomkpjaaGreat
open Go.RowKit
set_option linter.unusedVariables false
set_option linter.unusedSimpArgs false
set_option maxRecDepth 100000

/-- A record that holds. -/
def OfP (lp : List ByteArray) (u : List UInt8) (w : World) (e : Ending) (w' : World) : Prop :=
  ∃ (kind n r : Int) (A : Option Addr) (cp : Nat) (E : List Nat), e = .returned (rcV kind n r A E.length cp) ∧ Row w' 3 1 (.slice A E.length cp) E.length (idVs E) ∧ E.length ≤ 1000 ∧ hoB lp u kind n (E.map (fun (i : Nat) => (i : Int))) = true ∧ Pure' w w'
theorem ho_at {lp : List ByteArray} {u : List UInt8} {L : List Nat} (hu : u ≠ []) (hne : ∀ x ∈ bl lp, x ≠ []) (hL : hitsL (bl lp) u = L) : hoB lp u 4 0 (L.map (fun (i : Nat) => (i : Int))) = true := by
  unfold hoB
  rw [if_neg hu, if_neg (by simp), if_neg (by decide), if_neg (by decide), if_neg (by decide), if_pos rfl, idB_hits hne, hL]
  simp
theorem ho_miss {lp : List ByteArray} {u : List UInt8} {d : Nat} (hu : u ≠ []) (hd : 1 ≤ d) (h : rmB (bl lp) u d = true) : hoB lp u 3 (d : Int) [] = true := by
  unfold hoB
  rw [if_neg hu, if_neg (by simp), if_neg (by decide), if_neg (by decide), if_pos rfl]
  exact rm_ms hd hu h
theorem Row.ones {w : World} {b n : Nat} {v v0 v1 v2 v3 : Value} {xs : List Value} {cs : Array Value} (h : Row w 3 1 v n xs) (hb : Blk w b 25 cs) : Row ((((w.setCell ⟨b, 0, none⟩ v0).setCell ⟨b, 1, none⟩ v1).setCell ⟨b, 2, none⟩ v2).setCell ⟨b, 3, none⟩ v3) 3 1 v n xs :=
  have hp := h.blk_ne hb (by decide)
  (((h.off hp).off hp).off hp).off hp
set_option maxHeartbeats 8000000 in
theorem rof24_ (A : Option Addr) (k c B : Nat) (lp : List ByteArray) (s : List UInt8) (e : Nat) (skip : Bool) (w : World) (h : Sees w B 1 A k (strVs (bl lp))) (hB : B ≤ w.heap.size) (hk : k ≤ 1000) (hll : ∀ x ∈ bl lp, x.length ≤ 1000) (hne : ∀ x ∈ bl lp, x ≠ []) (hm2 : minL lp ≤ 1000) (hs : s.length ≤ 1000) (he1 : 1 ≤ e) (he : e ≤ s.length) :
    Calls Tryz.prog 12 #[.slice A k c, .string ⟨s.toArray⟩, .int .i64 (e : Int), .bool skip] w (OfP lp (s.take e) w) := by
  have HJ := Lib.hid (fun (W : World) (hW : Pure' w W) => rjump_ A k c B lp s e W (h.pure hW hB) (by have := hW.size; omega) hk hll hm2 hs he1 he)
  have HAT := Lib.hid (fun (W : World) (hW : Pure' w W) => rat15_ A k c B (bl lp) s e W (h.pure hW hB) (by have := hW.size; omega) hk hll hs he)
  have HMI := Lib.hid (fun (W : World) (hW : Pure' w W) => rmiss24_ A k c B (bl lp) s e W (h.pure hW hB) hk hll hne hs he1 he)
  have HNE := Lib.hid hne
  have hul : (s.take e).length = e := by rw [List.length_take]; omega
  have HU := Lib.hid (show s.take e ≠ [] from fun h0 => by rw [h0] at hul; simp at hul; omega)
  clear hul
  have HLN := Lib.hid (show (hitsL (bl lp) (s.take e)).length ≤ 1000 by
    unfold hitsL
    refine Nat.le_trans (List.length_filter_le _ _) ?_
    rw [List.length_range]
    have := h.1; rw [strVs_len] at this; omega)
  have HK0 := Lib.hid (show Pure' w (w.alloc (.cells #[.int .i64 0, .int .i64 0, .int .i64 0, .slice none 0 0] 25)) from (Keeps.refl _ w).alloc _)
  have HB0 := Lib.hid (show Blk (w.alloc (.cells #[.int .i64 0, .int .i64 0, .int .i64 0, .slice none 0 0] 25)) w.heap.size 25 #[.int .i64 0, .int .i64 0, .int .i64 0, .slice none 0 0] from Blk.newAt rfl)
  generalize s.take e = u at *
  clear h hll hne hs he1 he hm2 hB hk
  go_enter Tryz.func12, Tryz.ntmps12
  go_wp2_with fail
  generalize (w.alloc (.cells #[.int .i64 0, .int .i64 0, .int .i64 0, .slice none 0 0] 25)) = W0 at *
  obtain ⟨b8, hb8⟩ : ∃ b, w.heap.size = b := ⟨_, rfl⟩
  have HB8 := Lib.hid hb8
  rw [hb8] at HB0 ⊢
  clear hb8
  refine (HJ.out W0 HK0.out).mono ?_
  rintro e1 w1 ⟨⟨kind, n, r, rfl, hj⟩, hk1⟩
  have HJJ := Lib.hid hj
  have HK1 := Lib.hid (HK0.out.trans hk1 (fun _ _ hf => hf))
  have HB1 := Lib.hid (HB0.out.keep hk1 (fun hf => hf))
  clear hj hk1 HB0 HJ
  go_upto_region 2 with fail
  -- GEN
  have HK2 := Lib.hid (HK1.out.alloc (.cells #[.int .i64 kind, .int .i64 n, .int .i64 r, .slice none 0 0] 25))
  have HB9 := Lib.hid (show Blk (w1.alloc (.cells #[.int .i64 kind, .int .i64 n, .int .i64 r, .slice none 0 0] 25)) w1.heap.size 25 #[.int .i64 kind, .int .i64 n, .int .i64 r, .slice none 0 0] from Blk.newAt rfl)
  have HB2 := Lib.hid (HB1.out.alloc (.cells #[.int .i64 kind, .int .i64 n, .int .i64 r, .slice none 0 0] 25))
  generalize (w1.alloc (.cells #[.int .i64 kind, .int .i64 n, .int .i64 r, .slice none 0 0] 25)) = W2 at *
  generalize w1.heap.size = b9 at *
  have hbk : w.heap.size ≤ b8 := by rw [HB8.out]; exact Nat.le_refl _
  have y0 := HB9.out.cell 0
  have y1 := HB9.out.cell 1
  have y2 := HB9.out.cell 2
  have y3 := HB9.out.cell 3
  cases skip with
  | true =>
    by_cases hk0 : kind = 0
    · have hk0i : (kind != 0) = false := by rw [hk0]; rfl
      go_wp2_with fail
      refine (HAT.out W2 HK2.out).mono ?_
      rintro e1 w3 ⟨a, cp, rfl, hr3, _, hk3⟩
      have HR3 := Lib.hid hr3
      have HK3 := Lib.hid (HK2.out.trans hk3 (fun _ _ hf => hf))
      have HB3 := Lib.hid (HB2.out.keep hk3 (fun hf => hf))
      clear hr3 hk3
      obtain ⟨L, hL⟩ : ∃ L, hitsL (bl lp) u = L := ⟨_, rfl⟩
      have HL := Lib.hid hL
      rw [hL] at HLN HR3 ⊢
      clear hL
      obtain ⟨ln, hln⟩ : ∃ q, L.length = q := ⟨_, rfl⟩
      have HLQ := Lib.hid hln
      rw [hln] at HR3 ⊢
      clear hln
      have x0 := HB3.out.cell 0
      have f0 := HB3.out.frozen 0
      have x1 := HB3.out.cell 1
      have f1 := HB3.out.frozen 1
      have x2 := HB3.out.cell 2
      have f2 := HB3.out.frozen 2
      have x3 := HB3.out.cell 3
      have f3 := HB3.out.frozen 3
      by_cases h0 : 0 < ln
      · have h0i : (0 : Int) < (ln : Int) := by omega
        go_wp2_with fail
        refine bodyPost_ret (v := rcV 4 0 0 a ln cp) (by simp [results, Tryz.results12, go_sem, rcV, x0, x1, x2, x3]) rfl ⟨4, 0, 0, a, cp, L, by rw [HLQ.out], by rw [HLQ.out]; exact Row.ones HR3.out HB3.out, HLN.out, ho_at HU.out HNE.out HL.out, ?_⟩
        exact Keeps.ones HK3.out hbk
      · have h0i : ¬ (0 : Int) < (ln : Int) := by omega
        have HLE := Lib.hid (show L = [] from List.eq_nil_of_length_eq_zero (by rw [HLQ.out]; omega))
        clear x0 x1 x2 x3 f0 f1 f2 f3
        go_wp2_with fail
        refine (HMI.out w3 HK3.out).mono ?_
        rintro e1 w4 ⟨⟨d, rfl, hd, hdl⟩, q, rfl⟩
        have HD := Lib.hid hd
        have HB4 := Lib.hid (HB3.out.drewN q)
        have HK4 := Lib.hid (HK3.out.drewN q)
        generalize w3.drewN q = W4 at *
        clear hd
        have x0 := HB4.out.cell 0
        have f0 := HB4.out.frozen 0
        have x1 := HB4.out.cell 1
        have f1 := HB4.out.frozen 1
        have x2 := HB4.out.cell 2
        have f2 := HB4.out.frozen 2
        have x3 := HB4.out.cell 3
        have f3 := HB4.out.frozen 3
        by_cases h1 : 0 < d
        · have h1i : (0 : Int) < (d : Int) := by omega
          go_wp2_with fail
          refine bodyPost_ret (v := rcV 3 d 1 none 0 0) (by simp [results, Tryz.results12, go_sem, rcV, x0, x1, x2, x3]) rfl ⟨3, d, 1, none, 0, [], rfl, Row.nil _ _ _, Nat.zero_le _, ho_miss HU.out (by omega) (HD.out.resolve_left (by omega)), ?_⟩
          exact Keeps.ones HK4.out hbk
        · have h1i : ¬ (0 : Int) < (d : Int) := by omega
          go_wp2_with fail
          refine bodyPost_ret (v := rcV 4 0 0 none 0 0) (by simp [results, Tryz.results12, go_sem, rcV, x0, x1, x2, x3]) rfl ⟨4, 0, 0, none, 0, [], rfl, Row.nil _ _ _, Nat.zero_le _, ho_at HU.out HNE.out (HL.out.trans HLE.out), ?_⟩
          exact Keeps.ones HK4.out hbk
    · have hk0i : (kind != 0) = true := by rw [bne_iff_ne]; exact hk0
      have HH := Lib.hid ((HJJ.out.resolve_left hk0).2)
      clear hk0
      have x0 := HB2.out.cell 0
      have f0 := HB2.out.frozen 0
      have x1 := HB2.out.cell 1
      have f1 := HB2.out.frozen 1
      have x2 := HB2.out.cell 2
      have f2 := HB2.out.frozen 2
      have x3 := HB2.out.cell 3
      have f3 := HB2.out.frozen 3
      go_wp2_with fail
      refine bodyPost_ret (v := rcV kind n r none 0 0) (by simp [results, Tryz.results12, go_sem, rcV, x0, x1, x2, x3]) rfl ⟨kind, n, r, none, 0, [], rfl, Row.nil _ _ _, Nat.zero_le _, HH.out, ?_⟩
      exact Keeps.ones HK2.out hbk
  | false =>
    go_wp2_with fail
    refine (HAT.out W2 HK2.out).mono ?_
    rintro e1 w3 ⟨a, cp, rfl, hr3, _, hk3⟩
    have HR3 := Lib.hid hr3
    have HK3 := Lib.hid (HK2.out.trans hk3 (fun _ _ hf => hf))
    have HB3 := Lib.hid (HB2.out.keep hk3 (fun hf => hf))
    clear hr3 hk3
    obtain ⟨L, hL⟩ : ∃ L, hitsL (bl lp) u = L := ⟨_, rfl⟩
    have HL := Lib.hid hL
    rw [hL] at HLN HR3 ⊢
    clear hL
    obtain ⟨ln, hln⟩ : ∃ q, L.length = q := ⟨_, rfl⟩
    have HLQ := Lib.hid hln
    rw [hln] at HR3 ⊢
    clear hln
    have x0 := HB3.out.cell 0
    have f0 := HB3.out.frozen 0
    have x1 := HB3.out.cell 1
    have f1 := HB3.out.frozen 1
    have x2 := HB3.out.cell 2
    have f2 := HB3.out.frozen 2
    have x3 := HB3.out.cell 3
    have f3 := HB3.out.frozen 3
    by_cases h0 : 0 < ln
    · have h0i : (0 : Int) < (ln : Int) := by omega
      go_wp2_with fail
      refine bodyPost_ret (v := rcV 4 0 0 a ln cp) (by simp [results, Tryz.results12, go_sem, rcV, x0, x1, x2, x3]) rfl ⟨4, 0, 0, a, cp, L, by rw [HLQ.out], by rw [HLQ.out]; exact Row.ones HR3.out HB3.out, HLN.out, ho_at HU.out HNE.out HL.out, ?_⟩
      exact Keeps.ones HK3.out hbk
    · have h0i : ¬ (0 : Int) < (ln : Int) := by omega
      have HLE := Lib.hid (show L = [] from List.eq_nil_of_length_eq_zero (by rw [HLQ.out]; omega))
      clear x0 x1 x2 x3 f0 f1 f2 f3
      go_wp2_with fail
      refine (HMI.out w3 HK3.out).mono ?_
      rintro e1 w4 ⟨⟨d, rfl, hd, hdl⟩, q, rfl⟩
      have HD := Lib.hid hd
      have HB4 := Lib.hid (HB3.out.drewN q)
      have HK4 := Lib.hid (HK3.out.drewN q)
      generalize w3.drewN q = W4 at *
      clear hd
      have x0 := HB4.out.cell 0
      have f0 := HB4.out.frozen 0
      have x1 := HB4.out.cell 1
      have f1 := HB4.out.frozen 1
      have x2 := HB4.out.cell 2
      have f2 := HB4.out.frozen 2
      have x3 := HB4.out.cell 3
      have f3 := HB4.out.frozen 3
      by_cases h1 : 0 < d
      · have h1i : (0 : Int) < (d : Int) := by omega
        go_wp2_with fail
        refine bodyPost_ret (v := rcV 3 d 1 none 0 0) (by simp [results, Tryz.results12, go_sem, rcV, x0, x1, x2, x3]) rfl ⟨3, d, 1, none, 0, [], rfl, Row.nil _ _ _, Nat.zero_le _, ho_miss HU.out (by omega) (HD.out.resolve_left (by omega)), ?_⟩
        exact Keeps.ones HK4.out hbk
      · have h1i : ¬ (0 : Int) < (d : Int) := by omega
        go_wp2_with fail
        refine bodyPost_ret (v := rcV 4 0 0 none 0 0) (by simp [results, Tryz.results12, go_sem, rcV, x0, x1, x2, x3]) rfl ⟨4, 0, 0, none, 0, [], rfl, Row.nil _ _ _, Nat.zero_le _, ho_at HU.out HNE.out (HL.out.trans HLE.out), ?_⟩
        exact Keeps.ones HK4.out hbk
end Go.Proofs.YtkbdfnmeomkpjaaGreat
