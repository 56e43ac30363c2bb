import Derived.Test.YtacodojaolnhnaaLaw07b
namespace Go.Proofs.Ytacodojaolnhnaa
open Go.RowKit
set_option linter.unusedVariables false
set_option linter.unusedSimpArgs false
set_option maxRecDepth 100000
attribute [local go_sem] gmax2 gmin2 gmax_two gmin_two

/-! ### Longest -/
def longest : List ByteArray → Nat
  | [] => 0
  | s :: l => max s.size (longest l)
theorem longest_snoc (l : List ByteArray) (s : ByteArray) : longest (l ++ [s]) = max (longest l) s.size := by
  induction l with
  | nil => simp [longest]
  | cons a l ih => simp only [List.cons_append, longest, ih]; omega
theorem longest_mem {l : List ByteArray} {s : ByteArray} (h : s ∈ l) : s.size ≤ longest l := by
  induction l with
  | nil => cases h
  | cons a l ih =>
    rcases List.mem_cons.1 h with rfl | h
    · simp only [longest]; omega
    · have := ih h; simp only [longest]; omega
theorem longest_le {l : List ByteArray} {n : Nat} (h : ∀ s ∈ l, s.size ≤ n) : longest l ≤ n := by
  induction l with
  | nil => exact Nat.zero_le _
  | cons a l ih => simp only [longest]; have := h a (by simp); have := ih fun s hs => h s (by simp [hs]); omega
theorem longest_take (l : List ByteArray) (k : Nat) (h : k < l.length) : longest (l.take (k + 1)) = max (longest (l.take k)) (l[k]).size := by
  rw [List.take_succ_eq_append_getElem h, longest_snoc]

theorem strs_at {w : World} {B n k : Nat} {A : Option Addr} {l : List ByteArray} (h : Sees w B 1 A n (l.map Value.string)) (hk : k < n) : ∃ (ad : Addr) (hl : k < l.length), A = some ad ∧ w.cell? (ad.add k) = some (.string l[k]) := by
  obtain ⟨ad, u, hA, hu, hc⟩ := h.at_ hk
  have hl : k < l.length := by have := h.1; simp at this; omega
  refine ⟨ad, hl, hA, ?_⟩
  rw [List.getElem?_map, List.getElem?_eq_getElem hl] at hu
  simp only [Option.map_some, Option.some.injEq] at hu
  rw [hc, hu]

theorem strs_cell {w : World} {B n k : Nat} {ad : Addr} {l : List ByteArray} (h : Sees w B 1 (some ad) n (l.map Value.string)) (hk : k < n) (hkl : k < l.length) : w.cell? (ad.add k) = some (.string l[k]) := by
  obtain ⟨ad', _, hA, hc⟩ := strs_at h hk
  injection hA with hA
  subst hA
  exact hc

set_option maxHeartbeats 1000000 in
theorem longest_walk (A : Option Addr) (n c B : Nat) (l : List ByteArray) (w : World) (h : Sees w B 1 A n (l.map Value.string)) (hn : n ≤ 1000000000) (hl : ∀ s ∈ l, s.size ≤ maxLen) :
    Calls Try.prog 12 #[.slice A n c] w fun e w' => e = .returned (.int .i64 (longest l)) ∧ ∃ k, w' = w.drewN k := by
  have hll : l.length = n := by have := h.1; simpa using this
  have HS := Lib.hid h
  have HL := Lib.hid hl
  have HN := Lib.hid hll
  clear h hl hll
  go_enter Try.func12, Try.ntmps12
  go_wp2
  go_loopw [3, 4] (fun v3 v4 wr => ∃ k : Nat, k ≤ n ∧ v4 = .int .i64 k ∧ v3 = .int .i64 (longest (l.take k)) ∧ ∃ q, wr = w.drewN q) (fun _ v4 _ => n - (intOf v4).toNat)
  case atStart => exact ⟨0, Nat.zero_le _, rfl, rfl, 0, rfl⟩
  case round =>
    obtain ⟨k, hk, rfl, rfl, q, rfl⟩ := hrel
    by_cases hlt : k < n
    · obtain ⟨ad, hkl, rfl, hc⟩ := strs_at HS.out hlt
      have hle : l[k].size ≤ maxLen := HL.out _ (List.getElem_mem hkl)
      unfold maxLen at hle
      have HT := Lib.hid (longest_take l k hkl)
      have hb : longest (l.take k) ≤ 9223372036854775807 := longest_le fun s hs => by have := HL.out s (List.mem_of_mem_take hs); unfold maxLen at this; exact this
      generalize longest (l.take k) = m at *
      by_cases hm : m < l[k].size
      · go_wp2
        go_roundw
        case rel => exact ⟨k + 1, by omega, by go_num, by rw [HT.out, show max m l[k].size = l[k].size from by omega], _, rfl⟩
        case measure => simp [intOf]; omega
      · go_wp2
        go_roundw
        case rel => exact ⟨k + 1, by omega, by go_num, by rw [HT.out, show max m l[k].size = m from by omega], _, rfl⟩
        case measure => simp [intOf]; omega
    · obtain rfl : k = n := by omega
      go_wp2
      go_ret
      exact ⟨ret_int (by rw [List.take_of_length_le (Nat.le_of_eq HN.out)]), _, rfl⟩

/-! ### RingKeeps -/
theorem one_byte (s : ByteArray) (h : s.size = 1) (h0 : 0 < s.size) : s.data.toList = [s[0]] := by
  have hlen : s.data.toList.length = 1 := by simpa using h
  match hq : s.data.toList, hlen with
  | [a], _ =>
    have : s.data.toList[0]? = some s[0] := List.getElem?_eq_getElem (by simpa using h0)
    rw [hq] at this
    simp at this
    rw [this]

/-- The first k texts, one behind the other. -/
def catL (l : List ByteArray) (k : Nat) : List UInt8 := ((l.take k).map (·.data.toList)).flatten
theorem catL_zero (l : List ByteArray) : catL l 0 = [] := rfl
theorem catL_succ (l : List ByteArray) (k : Nat) (h : k < l.length) : catL l (k + 1) = catL l k ++ l[k].data.toList := by
  unfold catL; rw [List.take_succ_eq_append_getElem h, List.map_append, List.flatten_append]; simp
theorem catL_len (l : List ByteArray) (k m : Nat) (h : ∀ s ∈ l, s.size ≤ m) (hk : k ≤ l.length) : (catL l k).length ≤ k * m := by
  induction k with
  | zero => simp [catL]
  | succ k ih =>
    rw [catL_succ l k (by omega), List.length_append]
    have := ih (by omega)
    have := h l[k] (List.getElem_mem _)
    have h3 : l[k].data.toList.length = l[k].size := by simp
    rw [Nat.succ_mul]; omega
theorem str_add (a : List UInt8) (b : ByteArray) : str a ++ b = str (a ++ b.data.toList) := bytes_eq (by rw [str_data]; simp [str_data])

theorem Mine.keeps {w0 w : World} {g : Nat} {s : List UInt8} {size : Nat} (h : Mine w0 w g s size) (t : ByteArray) (d n : Int) (hs : s.length < 1000000000000) (ht : t.size < 1000000000000) (hn : n < 9223372036854775808) :
    Calls Try.prog 17 #[.pointer (some ⟨g, 0, none⟩), .string (str s), .int .i64 size, .int .i64 d, .int .i64 n, .string t] w fun e w' => e = .returned (.bool true) ∧ Mine w0 w' g s size := by
  obtain ⟨S, hR, hS, hp⟩ := h
  refine (keeps_ring g (str s) t size d n S w (by rw [str_data]; exact hR) (fun b hb => (hS b hb).2) (by rw [str_size]; exact hs) ht hn).mono ?_
  rintro e w' ⟨rfl, hk⟩
  exact ⟨rfl, S, hR.keep hk fun _ _ h => h, fun b hb => ⟨(hS b hb).1, Nat.lt_of_lt_of_le (hS b hb).2 hk.size⟩, hp.then_ hk⟩

/-- The awake way out. -/
theorem awake_ {w0 w : World} (h : Pure' w0 w) : Calls Try.prog 13 #[] w fun e w' => e = .returned (.bool true) ∧ Pure' w0 w' :=
  (awake07 w).mono fun _ _ ⟨he, hk⟩ => ⟨he, h.then_ hk⟩

theorem drewN_pure (w : World) (k : Nat) : Pure' w (w.drewN k) := (Keeps.refl _ w).drewN k

set_option maxHeartbeats 2000000 in
theorem keeps_law (size : Int) (A : Option Addr) (n c : Nat) (l : List ByteArray) (d m : Int) (t : ByteArray) (w : World) (h : Sees w w.heap.size 1 A n (l.map Value.string)) (hn : n ≤ 30) (hl : ∀ s ∈ l, s.size ≤ 100) (ht : t.size ≤ 100) (hm : m < 9223372036854775808) :
    Calls Try.prog 3 #[.int .i64 size, .slice A n c, .int .i64 d, .int .i64 m, .string t] w fun e w' => e = .returned (.bool true) ∧ Pure' w w' := by
  have hll : l.length = n := by have := h.1; simpa using this
  have HLo := Lib.hid (longest_walk A n c w.heap.size l w h (by omega) (fun s hs => by have := hl s hs; unfold maxLen; omega))
  have hlo : longest l ≤ 100 := longest_le hl
  generalize hlq : longest l = lq at *
  have HSe := Lib.hid h
  have HLs := Lib.hid hl
  have HLl := Lib.hid hll
  clear h hl hll hlq
  by_cases hz : size < 1 ∨ 65536 < size
  · have HB := Lib.hid (fun W => new_bad size W hz)
    have hcase : size < 1 ∨ (¬ size < 1 ∧ 65536 < size) := by omega
    clear hz
    rcases hcase with hz | ⟨hz, hz2⟩ <;>
    · go_enter Try.func3, Try.ntmps3
      go_wp2_with (first
        | (go_at_call 12; refine (HLo.out).mono ?_; rintro e w' ⟨rfl, ⟨q, rfl⟩⟩)
        | (go_at_call 14; refine (HB.out _).mono ?_; rintro e w' ⟨rfl, rfl⟩)
        | (go_at_call 13; refine (awake_ (drewN_pure w q)).mono ?_; rintro e w2 ⟨rfl, hp2⟩))
      go_ret
      exact ⟨rfl, hp2⟩
  · obtain ⟨z, rfl⟩ := Int.eq_ofNat_of_zero_le (show 0 ≤ size by omega)
    have hz1 : 1 ≤ z := by omega
    have hz2 : z ≤ 65536 := by omega
    clear hz
    go_enter Try.func3, Try.ntmps3
    go_wp2_with (first
      | (go_at_call 12; refine (HLo.out).mono ?_; rintro e w' ⟨rfl, ⟨q, rfl⟩⟩)
      | (go_at_call 14; refine (new_ok z _ (by omega) (by omega)).mono ?_; rintro e w1 ⟨rfl, hw1⟩))
    have HM := Lib.hid (Mine.made (w.drewN q) z hz1 hz2)
    clear hw1
    go_wp2
    go_loopw [13, 14] (fun v13 v14 wr => ∃ k : Nat, k ≤ n ∧ v14 = .int .i64 k ∧ v13 = .string (str (catL l k)) ∧ Mine (w.drewN q) wr w.heap.size (catL l k) z) (fun _ v14 _ => n - (intOf v14).toNat)
    case atStart => exact ⟨0, Nat.zero_le _, rfl, rfl, HM.out⟩
    case round =>
      obtain ⟨k, hk, rfl, rfl, hM⟩ := hrel
      have HP := Lib.hid ((drewN_pure w q).then_ (show Pure' (w.drewN q) wr from by obtain ⟨_, _, _, hp⟩ := hM; exact hp))
      have HM := Lib.hid hM
      have hcl := catL_len l k 100 HLs.out (by have := HLl.out; omega)
      have hcl2 : (catL l k).length ≤ 3000 := Nat.le_trans hcl (by omega)
      have hcs : (str (catL l k)).size ≤ 3000 := by rw [str_size]; exact hcl2
      clear hM hcl
      generalize hg : w.heap.size = g at *
      by_cases hlt : k < n
      · obtain ⟨ad, hkl, rfl, hc⟩ := strs_at (HSe.out.pure HP.out (Nat.le_of_eq hg.symm)) hlt
        have hsz := HLs.out l[k] (List.getElem_mem hkl)
        have HC := Lib.hid (catL_succ l k hkl)
        have HA := Lib.hid (str_add (catL l k) l[k])
        have HG := Lib.hid hg
        have hl64 : ((l[k].size : Nat) : Int) ≤ 100 := by omega
        clear hg
        by_cases h1 : l[k].size = 1
        · have hb : (((l[k].size : Nat) : Int) == 1) = true := by rw [h1]; rfl
          have HX : Hid (∀ h0 : 0 < l[k].size, catL l k ++ [l[k][0]] = catL l (k + 1)) := Lib.hid fun h0 => by rw [HC.out, one_byte _ h1 h0]
          have h0 : (0 : Int) < ((l[k].size : Nat) : Int) := by omega
          clear h1
          go_wp2_with (first
            | (go_at_call 15; refine (HM.out.push l[k][0] (by omega)).mono ?_; rintro e w2 ⟨rfl, hm2⟩; have hc2 := strs_cell (HSe.out.pure ((drewN_pure w q).then_ (show Pure' (w.drewN q) w2 from by obtain ⟨_, _, _, hp⟩ := hm2; exact hp)) (Nat.le_of_eq HG.out.symm)) hlt hkl; rw [HX.out] at hm2; have HM2 := Lib.hid hm2; clear hm2)
            | (go_at_call 17; rw [HA.out, ← HC.out]; refine (HM2.out.keeps t d m (by rw [HC.out]; simp; omega) (by omega) hm).mono ?_; rintro e w3 ⟨rfl, hm3⟩; have HM3 := Lib.hid hm3; clear hm3))
          go_roundw
          case rel => exact ⟨k + 1, by omega, by go_num, rfl, HM3.out⟩
          case measure => simp [intOf]; omega
        · have hb : (((l[k].size : Nat) : Int) == 1) = false := by rw [beq_eq_false_iff_ne]; omega
          clear h1
          go_wp2_with (first
            | (go_at_call 16; refine (HM.out.write l[k] (by omega)).mono ?_; rintro e w2 ⟨rfl, hm2⟩; have hc2 := strs_cell (HSe.out.pure ((drewN_pure w q).then_ (show Pure' (w.drewN q) w2 from by obtain ⟨_, _, _, hp⟩ := hm2; exact hp)) (Nat.le_of_eq HG.out.symm)) hlt hkl; rw [← HC.out] at hm2; have HM2 := Lib.hid hm2; clear hm2)
            | (go_at_call 17; rw [HA.out, ← HC.out]; refine (HM2.out.keeps t d m (by rw [HC.out]; simp; omega) (by omega) hm).mono ?_; rintro e w3 ⟨rfl, hm3⟩; have HM3 := Lib.hid hm3; clear hm3))
          go_roundw
          case rel => exact ⟨k + 1, by omega, by go_num, rfl, HM3.out⟩
          case measure => simp [intOf]; omega
      · obtain rfl : k = n := by omega
        go_wp2_with (first
          | (go_at_call 17; refine (HM.out.keeps t d m (by omega) (by omega) hm).mono ?_; rintro e w3 ⟨rfl, hm3⟩; have HP3 := Lib.hid ((drewN_pure w q).then_ (show Pure' (w.drewN q) w3 from by obtain ⟨_, _, _, hp⟩ := hm3; exact hp)); clear hm3)
          | (go_at_call 13; refine (awake_ HP3.out).mono ?_; rintro e w4 ⟨rfl, hp4⟩))
        go_ret
        exact ⟨rfl, hp4⟩

/-- The guard says no. -/
theorem keeps_out (size : Int) (A : Option Addr) (n c : Nat) (l : List ByteArray) (d m : Int) (t : ByteArray) (w : World) (h : Sees w w.heap.size 1 A n (l.map Value.string)) (hn : n ≤ maxLen) (hl : ∀ s ∈ l, s.size ≤ maxLen) (ht : t.size ≤ maxLen)
    (hg : 30 < n ∨ (n ≤ 30 ∧ (100 < longest l ∨ (longest l ≤ 100 ∧ 100 < t.size)))) :
    Calls Try.prog 3 #[.int .i64 size, .slice A n c, .int .i64 d, .int .i64 m, .string t] w fun e w' => e = .returned (.bool true) ∧ Pure' w w' := by
  unfold maxLen at hn ht
  have hlo : longest l ≤ maxLen := longest_le hl
  unfold maxLen at hlo
  rcases hg with hg | ⟨hg, hg2⟩
  · clear h hl hlo
    go_enter Try.func3, Try.ntmps3
    go_wp2_with (go_at_call 13; refine (awake_ (Keeps.refl _ w)).mono ?_; rintro e w2 ⟨rfl, hp2⟩)
    go_ret
    exact ⟨rfl, hp2⟩
  · have HLo := Lib.hid (longest_walk A n c w.heap.size l w h (by omega) hl)
    clear h hl
    generalize longest l = lq at *
    rcases hg2 with hg2 | ⟨hg2, hg3⟩ <;>
    · go_enter Try.func3, Try.ntmps3
      go_wp2_with (first
        | (go_at_call 12; refine (HLo.out).mono ?_; rintro e w' ⟨rfl, ⟨q, rfl⟩⟩)
        | (go_at_call 13; refine (awake_ (drewN_pure w q)).mono ?_; rintro e w2 ⟨rfl, hp2⟩))
      go_ret
      exact ⟨rfl, hp2⟩

theorem keeps_row (w : World) (size : Int) (A : Option Addr) (n c : Nat) (l : List ByteArray) (d m : Int) (t : ByteArray) (hz : -9223372036854775808 ≤ size ∧ size ≤ 9223372036854775807)
    (hl : n ≤ c ∧ n ≤ maxLen ∧ Sees w w.heap.size 1 A n (l.map Value.string) ∧ ∀ s ∈ l, s.size ≤ maxLen)
    (hd : -9223372036854775808 ≤ d ∧ d ≤ 9223372036854775807) (hm : -9223372036854775808 ≤ m ∧ m ≤ 9223372036854775807) (ht : t.size ≤ maxLen) :
    Calls Try.prog 3 #[.int .i64 size, .slice A n c, .int .i64 d, .int .i64 m, .string t] w fun e w' => e = .returned (.bool true) ∧ Pure' w w' := by
  by_cases hg : n ≤ 30 ∧ longest l ≤ 100 ∧ t.size ≤ 100
  · exact keeps_law size A n c l d m t w hl.2.2.1 hg.1 (fun s hs => Nat.le_trans (longest_mem hs) hg.2.1) hg.2.2 (by omega)
  · exact keeps_out size A n c l d m t w hl.2.2.1 hl.2.1 hl.2.2.2 ht (by omega)
end Go.Proofs.Ytacodojaolnhnaa
