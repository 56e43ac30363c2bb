/- The words of tables and edits, and where a word stands in a list; no condition but the sizes. -/
import Derived.Test.YtjcjmjnajhkdaaaDoorScrN
import Derived.Test.YtjcjmjnajhkdaaaDoorEs
import Derived.Test.YtjcjmjnajhkdaaaDoorDg
namespace Go.Proofs.YtjcjmjnajhkdaaaDoor
open Go.RowKit
set_option linter.unusedVariables false
set_option linter.unusedSimpArgs false
set_option maxRecDepth 100000

def strVs (l : List (List UInt8)) : List Value := (l.map (fun x => (⟨x.toArray⟩ : ByteArray))).map Value.string
theorem strVs_len (l : List (List UInt8)) : (strVs l).length = l.length := by simp [strVs]
theorem word_at {w : World} {B n k : Nat} {A : Option Addr} {l : List (List UInt8)} (h : Sees w B 1 A n (strVs l)) (hk : k < n) : ∃ (ad : Addr) (x : List UInt8), A = some ad ∧ l[k]? = some x ∧ w.cell? (ad.add k) = some (.string ⟨x.toArray⟩) := by
  obtain ⟨ad, hl, hA, hc⟩ := texts_at h hk
  rw [List.length_map] at hl
  refine ⟨ad, l[k], hA, List.getElem?_eq_getElem hl, ?_⟩
  rw [hc, List.getElem_map]

theorem idx_at : ∀ {l : List (List UInt8)} {a : List UInt8} {k : Nat}, l[k]? = some a → (∀ j, j < k → l[j]? ≠ some a) → idx l a = k
  | [], a, k, h, _ => by simp at h
  | x :: xs, a, 0, h, _ => by simp at h; simp [idx, h]
  | x :: xs, a, k + 1, h, hb => by
    have h0 := hb 0 (by omega)
    simp at h0 h
    unfold idx
    rw [if_neg h0, idx_at h (fun j hj => by have := hb (j + 1) (by omega); simpa using this), if_neg (by omega)]
    omega
theorem idx_no : ∀ {l : List (List UInt8)} {a : List UInt8}, (∀ j, j < l.length → l[j]? ≠ some a) → idx l a = -1
  | [], a, _ => rfl
  | x :: xs, a, hb => by
    have h0 := hb 0 (by simp)
    simp at h0
    unfold idx
    rw [if_neg h0, idx_no (fun j hj => by have := hb (j + 1) (by simp; omega); simpa using this), if_pos rfl]

set_option maxHeartbeats 1000000 in
theorem index_ (A : Option Addr) (n c B : Nat) (l : List (List UInt8)) (a : List UInt8) (w : World) (h : Sees w B 1 A n (strVs l)) (hn : n ≤ 1000) :
    Calls Tryd.prog 68 #[.slice A n c, .string ⟨a.toArray⟩] w fun e w' => e = .returned (.int .i64 (idx l a)) ∧ w' = w := by
  have HS := Lib.hid h
  have HL : l.length = n := by have := h.1; rw [strVs_len] at this; omega
  clear h
  go_enter Tryd.func68, Tryd.ntmps68
  go_wp2
  go_loop [8] (fun v8 => ∃ k : Nat, k ≤ n ∧ v8 = .int .i64 k ∧ RowKit.Hid (∀ j, j < k → l[j]? ≠ some a)) (fun v8 => n - (intOf v8).toNat)
  case atStart => exact ⟨0, Nat.zero_le _, rfl, Lib.hid (fun j hj => by omega)⟩
  case round =>
    obtain ⟨k, hk, rfl, hb⟩ := hrel
    by_cases hlt : k < n
    · obtain ⟨ad, x, rfl, hx, hc⟩ := word_at HS.out hlt
      have HX := Lib.hid hx
      clear hx
      by_cases hax : a = x
      · have q1 : (a == x) = true := by simpa using hax
        have HI := Lib.hid (idx_at (hax ▸ HX.out) hb.out)
        clear hb HX hax
        go_wp2
        go_ret
        rw [HI.out]
        exact ⟨rfl, rfl⟩
      · have q1 : (a == x) = false := by simpa using hax
        have HN := Lib.hid (fun j (hj : j < k + 1) => by
          rcases Nat.lt_or_eq_of_le (Nat.le_of_lt_succ hj) with h | rfl
          · exact hb.out j h
          · rw [HX.out]; intro e; injection e with e; exact hax e.symm : ∀ j, j < k + 1 → l[j]? ≠ some a)
        clear hb HX hax
        go_wp2
        go_round
        case rel => exact ⟨k + 1, by omega, by go_num, HN⟩
        case measure => simp [intOf]; omega
    · obtain rfl : k = n := by omega
      have HI := Lib.hid (idx_no (fun j hj => hb.out j (by omega)))
      clear hb
      go_wp2
      go_ret
      rw [HI.out]
      exact ⟨rfl, rfl⟩


theorem tables_ (w : World) : Calls Tryd.prog 55 #[] w fun e w' => ∃ A c, e = .returned (.slice A 4 c) ∧ Sees w' w'.heap.size 1 A 4 (strVs tabW) ∧ Pure' w w' := by
  have HS := Lib.hid (sees_new w 9 (strVs tabW) 4 rfl)
  have HP := Lib.hid ((Keeps.refl (fun _ => False) w).alloc (.cells (strVs tabW).toArray 9))
  go_enter Tryd.func55, Tryd.ntmps55
  go_wp2
  go_ret
  exact ⟨_, _, rfl, HS.out, HP.out⟩

theorem kinds_ (w : World) : Calls Tryd.prog 57 #[] w fun e w' => ∃ A c, e = .returned (.slice A 11 c) ∧ Sees w' w'.heap.size 1 A 11 (strVs kindW) ∧ Pure' w w' := by
  have HS := Lib.hid (sees_new w 9 (strVs kindW) 11 rfl)
  have HP := Lib.hid ((Keeps.refl (fun _ => False) w).alloc (.cells (strVs kindW).toArray 9))
  go_enter Tryd.func57, Tryd.ntmps57
  go_wp2
  go_ret
  exact ⟨_, _, rfl, HS.out, HP.out⟩

theorem rtable_ (w : World) : Calls Tryd.prog 29 #[] w fun e w' => ∃ A c, e = .returned (.slice A 4 c) ∧ Sees w' w'.heap.size 1 A 4 (strVs tabW) ∧ Pure' w w' := by
  have HS := Lib.hid (sees_new w 9 (strVs tabW) 4 rfl)
  have HP := Lib.hid ((Keeps.refl (fun _ => False) w).alloc (.cells (strVs tabW).toArray 9))
  go_enter Tryd.func29, Tryd.ntmps29
  go_wp2
  go_ret
  exact ⟨_, _, rfl, HS.out, HP.out⟩

theorem rkind_ (w : World) : Calls Tryd.prog 31 #[] w fun e w' => ∃ A c, e = .returned (.slice A 11 c) ∧ Sees w' w'.heap.size 1 A 11 (strVs kindW) ∧ Pure' w w' := by
  have HS := Lib.hid (sees_new w 9 (strVs kindW) 11 rfl)
  have HP := Lib.hid ((Keeps.refl (fun _ => False) w).alloc (.cells (strVs kindW).toArray 9))
  go_enter Tryd.func31, Tryd.ntmps31
  go_wp2
  go_ret
  exact ⟨_, _, rfl, HS.out, HP.out⟩

/-- Where the reference finds a word: 0 if it is nowhere behind the first. -/
def placeZ (l : List (List UInt8)) (a : List UInt8) : Int := if 0 < idx l a then idx l a else 0
theorem place_at {l : List (List UInt8)} {a : List UInt8} {k : Nat} (h : l[k]? = some a) (h1 : 1 ≤ k) (h0 : l[0]? ≠ some a) (hb : ∀ j, 1 ≤ j → j < k → l[j]? ≠ some a) : placeZ l a = k := by
  unfold placeZ
  rw [idx_at h (fun j hj => by
    rcases Nat.eq_zero_or_pos j with rfl | hp
    · exact h0
    · exact hb j hp hj), if_pos (by omega)]
theorem place_no {l : List (List UInt8)} {a : List UInt8} (h0 : l[0]? ≠ some a) (hb : ∀ j, 1 ≤ j → j < l.length → l[j]? ≠ some a) : placeZ l a = 0 := by
  unfold placeZ
  rw [idx_no (fun j hj => by
    rcases Nat.eq_zero_or_pos j with rfl | hp
    · exact h0
    · exact hb j hp hj), if_neg (by decide)]

set_option maxHeartbeats 1000000 in
theorem place_ (A : Option Addr) (n c B : Nat) (l : List (List UInt8)) (a : List UInt8) (w : World) (h : Sees w B 1 A n (strVs l)) (hn : n ≤ 1000) (h1 : 1 ≤ n) (h0 : l[0]? ≠ some a) :
    Calls Tryd.prog 48 #[.slice A n c, .string ⟨a.toArray⟩] w fun e w' => e = .returned (.int .i64 (placeZ l a)) ∧ w' = w := by
  have HS := Lib.hid h
  have HL : l.length = n := by have := h.1; rw [strVs_len] at this; omega
  have H0 := Lib.hid h0
  clear h h0
  go_enter Tryd.func48, Tryd.ntmps48
  go_wp2
  go_loop [5] (fun v8 => ∃ k : Nat, 1 ≤ k ∧ k ≤ n ∧ v8 = .int .i64 k ∧ RowKit.Hid (∀ j, 1 ≤ j → j < k → l[j]? ≠ some a)) (fun v8 => n - (intOf v8).toNat)
  case atStart => exact ⟨1, Nat.le_refl _, h1, rfl, Lib.hid (fun j hj hj2 => by omega)⟩
  case round =>
    obtain ⟨k, hk1, hk, rfl, hb⟩ := hrel
    by_cases hlt : k < n
    · obtain ⟨ad, x, rfl, hx, hc⟩ := word_at HS.out hlt
      have HX := Lib.hid hx
      clear hx
      by_cases hax : x = a
      · have q1 : (x == a) = true := by simpa using hax
        have HI := Lib.hid (place_at (hax ▸ HX.out) hk1 H0.out hb.out)
        clear hb HX hax
        go_wp2
        go_ret
        rw [HI.out]
        exact ⟨rfl, rfl⟩
      · have q1 : (x == a) = false := by simpa using hax
        have HN := Lib.hid (fun j (hj1 : 1 ≤ j) (hj : j < k + 1) => by
          rcases Nat.lt_or_eq_of_le (Nat.le_of_lt_succ hj) with h | rfl
          · exact hb.out j hj1 h
          · rw [HX.out]; intro e; injection e with e; exact hax e : ∀ j, 1 ≤ j → j < k + 1 → l[j]? ≠ some a)
        clear hb HX hax
        go_wp2
        go_round
        case rel => exact ⟨k + 1, by omega, by omega, by go_num, HN⟩
        case measure => simp [intOf]; omega
    · obtain rfl : k = n := by omega
      have HI := Lib.hid (place_no H0.out (fun j hj1 hj => hb.out j hj1 (by omega)))
      clear hb
      go_wp2
      go_ret
      rw [HI.out]
      exact ⟨rfl, rfl⟩

/-- May one scan so? -/
def confB (t e : Int) : Bool := decide (1 ≤ t ∧ t ≤ 3) && decide (1 ≤ e ∧ e ≤ 4611686018427387903)

end Go.Proofs.YtjcjmjnajhkdaaaDoor
