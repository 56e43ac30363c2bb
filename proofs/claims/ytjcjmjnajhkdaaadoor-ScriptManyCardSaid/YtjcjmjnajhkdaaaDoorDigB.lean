/- A number's text, by the program; no condition but that the number is an int. -/
import Derived.Test.YtjcjmjnajhkdaaaDoorDigA
namespace Go.Proofs.YtjcjmjnajhkdaaaDoor
open Go.RowKit
set_option linter.unusedVariables false
set_option linter.unusedSimpArgs false
set_option maxRecDepth 100000

/-- The array: zeros, then what is written. -/
def arrL (suf : List UInt8) : List Value := List.replicate (20 - suf.length) (.int .u8 0) ++ suf.map byteV
theorem arr_len {suf : List UInt8} (h : suf.length ≤ 20) : (arrL suf).length = 20 := by simp [arrL]; omega
theorem arr_set {suf : List UInt8} (h : suf.length < 20) (c : UInt8) : (arrL suf).toArray.setIfInBounds (20 - suf.length - 1) (byteV c) = (arrL (c :: suf)).toArray := by
  have e : 20 - suf.length = (19 - suf.length) + 1 := by omega
  rw [show 20 - suf.length - 1 = 19 - suf.length by omega]
  rw [List.setIfInBounds_toArray]
  congr 1
  unfold arrL
  rw [e, List.replicate_succ', List.append_assoc, List.set_append_right _ _ (by simp)]
  simp
theorem byte_dg (k : Nat) : byteV (dg (k % 10)) = .int .u8 (48 + (k : Int) % 10) := by
  unfold byteV; rw [digit_of _ (by omega)]; rfl
theorem arr_get {suf : List UInt8} (h : suf.length ≤ 20) {p : Nat} (hp : p < 20) : ∃ u, (arrL suf).toArray[p]? = some u := by
  rw [List.getElem?_toArray, List.getElem?_eq_getElem (by rw [arr_len h]; exact hp)]
  exact ⟨_, rfl⟩

theorem slice20 (g p n : Nat) (z : Int) (hz : z = p) (hp : p + n = 20) (hn : 0 < n) (W : World) : (Instr.sliceAt 109 (.pointer (some ⟨g, 0, none⟩)) (some (.int .i64 z)) none none).run Tryd.prog W = .ok (.slice (some ⟨g, p, none⟩) n n) W := by
  have hal : Tryd.prog.arrayLen 109 = 20 := by simp [Program.arrayLen, Tryd.underlying109]
  have hel : Tryd.prog.elem 109 = 5 := by simp [Program.elem, Tryd.underlying109]
  rw [run_sliceAt_array_l W 109 ⟨g, 0, none⟩ (by rw [hal, hel]; exact Tryd.underlying109) .i64 z (by omega) (by rw [hal]; omega), hal, hel, Tryd.sizeOf5]
  subst hz
  simp only [Result.andThen, slicedAt, Int.toNat_natCast, Addr.add]
  rw [if_neg (by omega), show 20 - p = n by omega]
  simp
  omega
theorem conv20 {W : World} {g : Nat} {suf : List UInt8} (h : Blk W g 109 (arrL suf).toArray) (hs : suf.length ≤ 20) : (convert 87 9 (.slice (some ⟨g, 20 - suf.length, none⟩) suf.length suf.length)).run Tryd.prog W = .ok (.string ⟨suf.toArray⟩) W := by
  rw [run_convert_bytes_arg W 87 5 Tryd.underlying87 Tryd.underlying5 g (20 - suf.length) suf.length suf.length (suf.map fun b => (b.toNat : Int)) (by simp) (fun i hi => ?_) 9 Tryd.underlying9]
  · congr 3
    unfold strOfNums
    congr 2
    rw [List.map_map]
    exact (List.map_congr_left (fun b _ => by simp)).trans (List.map_id suf)
  · rw [h.cell, List.getElem?_toArray, arrL, List.getElem?_append_right (by simp)]
    simp [List.getD, hi, byteV]

set_option maxHeartbeats 1000000 in
theorem text_ (n : Int) (w : World) (h1 : -9223372036854775808 ≤ n) (h2 : n ≤ 9223372036854775807) : Calls Tryd.prog 56 #[.int .i64 n] w fun e w' => e = .returned (.string ⟨(textL n).toArray⟩) ∧ Pure' w w' := by
  have hl := natL_len 19 n.natAbs (by omega) (by omega)
  obtain ⟨k0, hk0⟩ : ∃ k, n.natAbs = k := ⟨_, rfl⟩
  rw [hk0] at hl
  have HS : Hid (∀ w, Calls Tryd.prog 75 #[.int .i64 n] w fun e w' => e = .returned (.int .u64 k0) ∧ w = w') := Lib.hid (fun w => by have := size_ n w h1 h2; rwa [hk0] at this)
  go_enter Tryd.func56, Tryd.ntmps56
  go_wp2_with (go_at_call 75; refine (HS.out _).mono ?_; rintro e w1 ⟨rfl, rfl⟩)
  have HB0 := Lib.hid (show Blk (w.alloc (.cells (arrL []).toArray 109)) w.heap.size 109 (arrL []).toArray from Blk.new w _ _)
  go_loopw [4, 5] (fun v4 v5 wr => ∃ (k : Nat) (suf : List UInt8), natL k0 = natL k ++ suf ∧ k ≤ 9223372036854775808 ∧ v5 = .int .u64 k ∧ v4 = .int .i64 (20 - suf.length : Nat) ∧ Blk wr w.heap.size 109 (arrL suf).toArray ∧ Pure' w wr) (fun _ v5 _ => (intOf v5).toNat)
  case atStart => exact ⟨k0, [], by simp, by omega, rfl, rfl, HB0.out, (Keeps.refl _ w).alloc _⟩
  case round =>
    obtain ⟨k, suf, hkk, hkb, rfl, rfl, hB, hp⟩ := hrel
    have hpos := List.length_pos_iff.2 (natL_ne k)
    have hls : suf.length + (natL k).length ≤ 19 := by rw [hkk, List.length_append] at hl; omega
    have hsl : suf.length ≤ 18 := by omega
    obtain ⟨u, hu⟩ := arr_get (suf := suf) (by omega) (p := 20 - suf.length - 1) (by omega)
    have c0 := hB.cell (20 - suf.length - 1)
    rw [hu] at c0
    have f0 := hB.frozen (20 - suf.length - 1)
    have hB1 := hB.set_ (20 - suf.length - 1) (byteV (dg (k % 10)))
    rw [arr_set (by omega), byte_dg] at hB1
    have HP1 := Lib.hid (hp.setCell (p := ⟨w.heap.size, 20 - suf.length - 1, none⟩) (.inr (Nat.le_refl _)) (.int .u8 (48 + (k : Int) % 10)))
    by_cases h10 : k < 10
    · rw [natL_small h10] at hkk
      have hkk' : natL k0 = dg (k % 10) :: suf := by rw [hkk, Nat.mod_eq_of_lt h10]; rfl
      have h10' : (k : Int) < 10 := by omega
      have hsl2 : suf.length + 1 ≤ 19 := by omega
      by_cases hn : n < 0
      · have ht : textL n = 45 :: dg (k % 10) :: suf := by rw [textL_neg hn, hk0, hkk']
        obtain ⟨u1, hu1⟩ := arr_get (suf := dg (k % 10) :: suf) (by simp; omega) (p := 20 - suf.length - 1 - 1) (by omega)
        have c1 := hB1.cell (20 - suf.length - 1 - 1)
        rw [hu1] at c1
        have f1 := hB1.frozen (20 - suf.length - 1 - 1)
        have hB2 := hB1.set_ (20 - suf.length - 1 - 1) (byteV 45)
        have ha := arr_set (suf := dg (k % 10) :: suf) (by simp; omega) 45
        rw [List.length_cons, ← Nat.sub_sub] at ha
        rw [ha, show byteV 45 = .int .u8 45 from rfl] at hB2
        have hcv := conv20 hB2 (by simp; omega)
        rw [List.length_cons, List.length_cons, ← Nat.sub_sub, ← Nat.sub_sub] at hcv
        have hsl := slice20 w.heap.size (20 - suf.length - 1 - 1) (suf.length + 1 + 1) (((20 - suf.length : Nat) : Int) - 1 - 1) (by omega) (by omega) (by omega)
        have HP2 := Lib.hid (HP1.out.setCell (p := ⟨w.heap.size, 20 - suf.length - 1 - 1, none⟩) (.inr (Nat.le_refl _)) (.int .u8 45))
        have HT := Lib.hid ht
        clear hu hu1 hpos hB hB1 hB2 hkk hkk' hp ht ha
        generalize dg (k % 10) :: suf = T at *
        generalize suf.length = m at *
        go_wp2
        go_ret
        rw [HT.out]
        exact ⟨rfl, HP2.out⟩
      · have ht : textL n = dg (k % 10) :: suf := by rw [textL_pos hn, hk0, hkk']
        have hcv := conv20 hB1 (by simp; omega)
        rw [List.length_cons, ← Nat.sub_sub] at hcv
        have hsl := slice20 w.heap.size (20 - suf.length - 1) (suf.length + 1) (((20 - suf.length : Nat) : Int) - 1) (by omega) (by omega) (by omega)
        have HT := Lib.hid ht
        clear hu hpos hB hB1 hkk hkk' hp ht
        generalize dg (k % 10) :: suf = T at *
        generalize suf.length = m at *
        go_wp2
        go_ret
        rw [HT.out]
        exact ⟨rfl, HP1.out⟩
    · have h10' : ¬ (k : Int) < 10 := by omega
      rw [natL_big h10] at hkk
      have HB1 := Lib.hid hB1
      have HK := Lib.hid hkk
      clear hkk hB1 hp hpos hB hu
      generalize hm : suf.length = m at *
      have HM := Lib.hid hm
      clear hm
      go_wp2
      go_roundw
      case rel =>
        refine ⟨k / 10, dg (k % 10) :: suf, by rw [HK.out]; simp, by omega, by go_num, ?_, HB1.out, HP1.out⟩
        have := HM.out
        simp
        omega
      case measure => simp [intOf]; omega
end Go.Proofs.YtjcjmjnajhkdaaaDoor
