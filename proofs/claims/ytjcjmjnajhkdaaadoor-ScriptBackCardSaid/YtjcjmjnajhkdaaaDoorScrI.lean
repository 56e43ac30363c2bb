/- Whether a script may be; no condition but the sizes. -/
import Derived.Test.YtjcjmjnajhkdaaaDoorScrH
namespace Go.Proofs.YtjcjmjnajhkdaaaDoor
open Go.RowKit
set_option linter.unusedVariables false
set_option linter.unusedSimpArgs false
set_option maxRecDepth 100000

/-- May one scan so? -/
def confV (t e : Int) : Bool := decide (1 ≤ t ∧ t ≤ 3) && decide (1 ≤ e ∧ e ≤ 4611686018427387903)

set_option maxHeartbeats 1000000 in
theorem conf_ (t e : Int) (b : Bool) (w : World) : Calls Tryd.prog 33 #[.agg #[.int .i64 t, .bool b, .int .i64 e]] w fun r w' => r = .returned (.bool (confV t e)) ∧ Pure' w w' := by
  have HP := Lib.hid ((Keeps.refl (fun _ => False) w).alloc (.cells #[.int .i64 t, .bool b, .int .i64 e] 25))
  by_cases h1 : 1 ≤ t
  · by_cases h2 : t ≤ 3
    · by_cases h3 : 1 ≤ e
      · go_enter Tryd.func33, Tryd.ntmps33
        go_wp2
        go_ret
        exact ⟨by unfold confV; first | (simp [h1, h2, h3]; done) | (simp [h1, h2, h3]; intros; omega), HP.out⟩
      · go_enter Tryd.func33, Tryd.ntmps33
        go_wp2
        go_ret
        exact ⟨by unfold confV; first | (simp [h1, h2, h3]; done) | (simp [h1, h2, h3]; intros; omega), HP.out⟩
    · go_enter Tryd.func33, Tryd.ntmps33
      go_wp2
      go_ret
      exact ⟨by unfold confV; first | (simp [h1, h2]; done) | (simp [h1, h2]; intros; omega), HP.out⟩
  · go_enter Tryd.func33, Tryd.ntmps33
    go_wp2
    go_ret
    exact ⟨by unfold confV; first | (simp [h1]; done) | (simp [h1]; intros; omega), HP.out⟩

def badE (e : Int × Int × Int) : Bool := !decide (1 ≤ e.1 ∧ e.1 ≤ 10)
def badC (n : Int) : Bool := !decide (0 ≤ n ∧ n ≤ 1048576)
set_option maxHeartbeats 1000000 in
theorem badE_ (e : Int × Int × Int) (w : World) : Calls Tryd.prog 35 #[.agg #[.int .i64 e.1, .int .i64 e.2.1, .int .i64 e.2.2]] w fun r w' => r = .returned (.bool (badE e)) ∧ Pure' w w' := by
  obtain ⟨k, i, n⟩ := e
  have HP := Lib.hid ((Keeps.refl (fun _ => False) w).alloc (.cells #[.int .i64 k, .int .i64 i, .int .i64 n] 61))
  by_cases h1 : k < 1
  · go_enter Tryd.func35, Tryd.ntmps35
    go_wp2
    go_ret
    exact ⟨by unfold badE; first | (simp; done) | (simp; intros; omega) | (simp; rw [Bool.eq_iff_iff]; simp; omega), HP.out⟩
  · go_enter Tryd.func35, Tryd.ntmps35
    go_wp2
    go_ret
    exact ⟨by unfold badE; first | (simp; done) | (simp; intros; omega) | (simp; rw [Bool.eq_iff_iff]; simp; omega), HP.out⟩
set_option maxHeartbeats 1000000 in
theorem badC_ (n : Int) (w : World) : Calls Tryd.prog 37 #[.int .i64 n] w fun r w' => r = .returned (.bool (badC n)) ∧ w' = w := by
  by_cases h1 : n < 0
  · go_enter Tryd.func37, Tryd.ntmps37
    go_wp2
    go_ret
    exact ⟨by unfold badC; first | (simp; done) | (simp; intros; omega) | (simp; rw [Bool.eq_iff_iff]; simp; omega), rfl⟩
  · go_enter Tryd.func37, Tryd.ntmps37
    go_wp2
    go_ret
    exact ⟨by unfold badC; first | (simp; done) | (simp; intros; omega) | (simp; rw [Bool.eq_iff_iff]; simp; omega), rfl⟩

theorem int_at {w : World} {B n k : Nat} {A : Option Addr} {l : List Int} (h : Sees w B 1 A n (l.map (Value.int .i64))) (hk : k < n) : ∃ (ad : Addr) (x : Int), A = some ad ∧ l[k]? = some x ∧ w.cell? (ad.add k) = some (.int .i64 x) := by
  obtain ⟨ad, u, e, hu, hc⟩ := h.at_ hk
  rw [List.getElem?_map] at hu
  cases hx : l[k]? with
  | none => rw [hx] at hu; simp at hu
  | some x => rw [hx] at hu; simp at hu; subst hu; exact ⟨ad, x, e, rfl, hc⟩

def IdxPost (b : Bool) (w : World) (e : Ending) (w' : World) : Prop := ∃ r : Int, e = .returned (.int .i64 r) ∧ (b = true → 0 ≤ r) ∧ (b = false → r = -1) ∧ Pure' w w'
set_option maxHeartbeats 1000000 in
theorem idxC_ (A : Option Addr) (n c B : Nat) (l : List Int) (w : World) (h : Sees w B 1 A n (l.map (Value.int .i64))) (hB : B ≤ w.heap.size) (hn : n ≤ 1000000) :
    Calls Tryd.prog 62 #[.slice A n c, .func (.func 37) #[] #[]] w fun e w' => IdxPost (l.any badC) w e w' := by
  have hl : l.length = n := by have := h.1; simpa using this
  have HS := Lib.hid h
  have HL := Lib.hid hl
  clear h hl
  go_enter Tryd.func62, Tryd.ntmps62
  go_wp2
  go_loopw [8] (fun v8 wr => ∃ k : Nat, k ≤ n ∧ v8 = .int .i64 k ∧ RowKit.Hid (∀ x ∈ l.take k, badC x = false) ∧ wr = w) (fun v8 _ => n - (intOf v8).toNat)
  case atStart => exact ⟨0, Nat.zero_le _, rfl, Lib.hid (by simp), rfl⟩
  case round =>
    obtain ⟨k, hk, rfl, hb, rfl⟩ := hrel
    by_cases hlt : k < n
    · obtain ⟨ad, x, rfl, hx, hc⟩ := int_at HS.out hlt
      have HX := Lib.hid hx
      clear hx
      obtain ⟨bx, hbx⟩ : ∃ bx, badC x = bx := ⟨_, rfl⟩
      have HB := Lib.hid (fun w => hbx ▸ badC_ x w)
      have HBX := Lib.hid hbx
      clear hbx
      cases bx with
      | true =>
        go_wp2_with (go_at_call 37; refine (HB.out _).mono ?_; rintro e w1 ⟨rfl, hw⟩; subst hw)
        go_ret
        refine (show IdxPost (l.any badC) w1 (.returned (.int .i64 k)) w1 from ?_)
        have hany : l.any badC = true := List.any_eq_true.2 ⟨x, List.mem_of_getElem? HX.out, HBX.out⟩
        exact ⟨k, rfl, (fun _ => by omega), (fun h => by rw [hany] at h; cases h), Keeps.refl _ _⟩
      | false =>
        have HN := Lib.hid (show ∀ y ∈ l.take (k + 1), badC y = false by
          rw [List.take_add_one, HX.out]
          intro y hy
          rcases List.mem_append.1 hy with hy | hy
          · exact hb.out y hy
          · simp at hy; subst hy; exact HBX.out)
        clear hb
        go_wp2_with (go_at_call 37; refine (HB.out _).mono ?_; rintro e w1 ⟨rfl, hw⟩; subst hw)
        go_roundw
        case rel => exact ⟨k + 1, by omega, by go_num, HN, by trivial⟩
        case measure => simp [intOf]; omega
    · obtain rfl : k = n := by omega
      have HF := Lib.hid (show l.any badC = false by
        rw [List.any_eq_false]
        intro x hx
        have := hb.out x (by rw [← HL.out, List.take_length]; exact hx)
        rw [this]; decide)
      clear hb
      go_wp2
      go_ret
      refine (show IdxPost (l.any badC) wr (.returned (.int .i64 (-1))) wr from ?_)
      exact ⟨-1, rfl, (fun h => by rw [HF.out] at h; cases h), fun _ => rfl, Keeps.refl _ _⟩

theorem add_add (a : Addr) (i j : Nat) : (a.add i).add j = a.add (i + j) := by
  unfold Addr.add
  by_cases h1 : i = 0
  · subst h1; simp
  · by_cases h2 : j = 0
    · subst h2; simp
    · rw [if_neg h1, if_neg h2, if_neg (by omega)]; simp [Nat.add_assoc]
theorem edVs_at : ∀ (l : List (Int × Int × Int)) (k : Nat) (e : Int × Int × Int), l[k]? = some e → (edVs l)[k * 3]? = some (.int .i64 e.1) ∧ (edVs l)[k * 3 + 1]? = some (.int .i64 e.2.1) ∧ (edVs l)[k * 3 + 2]? = some (.int .i64 e.2.2)
  | [], k, e, h => by simp at h
  | a :: l, 0, e, h => by simp at h; subst h; simp [edVs]
  | a :: l, k + 1, e, h => by
    have := edVs_at l k e (by simpa using h)
    have e1 : edVs (a :: l) = [Value.int .i64 a.1, .int .i64 a.2.1, .int .i64 a.2.2] ++ edVs l := by simp [edVs]
    rw [e1, show (k + 1) * 3 = 3 + k * 3 by omega, show 3 + k * 3 + 1 = 3 + (k * 3 + 1) by omega, show 3 + k * 3 + 2 = 3 + (k * 3 + 2) by omega]
    rw [List.getElem?_append_right (by simp), List.getElem?_append_right (by simp), List.getElem?_append_right (by simp)]
    simpa using this
theorem edVs_len (l : List (Int × Int × Int)) : (edVs l).length = l.length * 3 := by
  induction l with
  | nil => rfl
  | cons a l ih => rw [show edVs (a :: l) = [Value.int .i64 a.1, .int .i64 a.2.1, .int .i64 a.2.2] ++ edVs l by simp [edVs], List.length_append, ih]; simp; omega
theorem ed_at {w : World} {B n k : Nat} {A : Option Addr} {l : List (Int × Int × Int)} (h : Sees w B 3 A n (edVs l)) (hk : k < n) : ∃ (ad : Addr) (e : Int × Int × Int), A = some ad ∧ l[k]? = some e ∧ w.cell? (ad.add (k * 3)) = some (.int .i64 e.1) ∧ w.cell? ⟨(ad.add (k * 3)).block, (ad.add (k * 3)).off + 1, none⟩ = some (.int .i64 e.2.1) ∧ w.cell? ⟨(ad.add (k * 3)).block, (ad.add (k * 3)).off + 2, none⟩ = some (.int .i64 e.2.2) := by
  have hl : l.length = n := by have := h.1; rw [edVs_len] at this; omega
  obtain ⟨ad, e, _, hc⟩ := h.2 (by omega)
  obtain ⟨h1, h2, h3⟩ := edVs_at l k l[k] (List.getElem?_eq_getElem (by omega))
  refine ⟨ad, l[k], e, List.getElem?_eq_getElem (by omega), hc _ _ h1, ?_, ?_⟩
  · show w.cell? ((ad.add (k * 3)).add 1) = _; rw [add_add]; exact hc _ _ h2
  · show w.cell? ((ad.add (k * 3)).add 2) = _; rw [add_add]; exact hc _ _ h3
set_option maxHeartbeats 1000000 in
theorem idxE_ (A : Option Addr) (n c B : Nat) (l : List (Int × Int × Int)) (w : World) (h : Sees w B 3 A n (edVs l)) (hB : B ≤ w.heap.size) (hn : n ≤ 1000000) :
    Calls Tryd.prog 61 #[.slice A n c, .func (.func 35) #[] #[]] w fun e w' => IdxPost (l.any badE) w e w' := by
  have hl : l.length = n := by have := h.1; rw [edVs_len] at this; omega
  have HS := Lib.hid (h.more hB)
  have HL := Lib.hid hl
  clear h hl
  go_enter Tryd.func61, Tryd.ntmps61
  go_wp2
  go_loopw [8] (fun v8 wr => ∃ k : Nat, k ≤ n ∧ v8 = .int .i64 k ∧ RowKit.Hid (∀ x ∈ l.take k, badE x = false) ∧ Pure' w wr) (fun v8 _ => n - (intOf v8).toNat)
  case atStart => exact ⟨0, Nat.zero_le _, rfl, Lib.hid (by simp), Keeps.refl _ _⟩
  case round =>
    obtain ⟨k, hk, rfl, hb, hp⟩ := hrel
    have HP := Lib.hid hp
    clear hp
    by_cases hlt : k < n
    · obtain ⟨ad, x, rfl, hx, hc0, hc1, hc2⟩ := ed_at (HS.out.pure HP.out (Nat.le_refl _)) hlt
      have HX := Lib.hid hx
      clear hx
      obtain ⟨bx, hbx⟩ : ∃ bx, badE x = bx := ⟨_, rfl⟩
      have HB := Lib.hid (fun w => hbx ▸ badE_ x w)
      have HBX := Lib.hid hbx
      clear hbx
      cases bx with
      | true =>
        go_wp2_with (go_at_call 35; refine (HB.out _).mono ?_; rintro e w1 ⟨rfl, hw⟩; have HW := Lib.hid hw; clear hw)
        go_ret
        refine (show IdxPost (l.any badE) w (.returned (.int .i64 k)) w1 from ?_)
        have hany : l.any badE = true := List.any_eq_true.2 ⟨x, List.mem_of_getElem? HX.out, HBX.out⟩
        exact ⟨k, rfl, (fun _ => by omega), (fun h => by rw [hany] at h; cases h), HP.out.then_ HW.out⟩
      | false =>
        have HN := Lib.hid (show ∀ y ∈ l.take (k + 1), badE y = false by
          rw [List.take_add_one, HX.out]
          intro y hy
          rcases List.mem_append.1 hy with hy | hy
          · exact hb.out y hy
          · simp at hy; subst hy; exact HBX.out)
        clear hb
        go_wp2_with (go_at_call 35; refine (HB.out _).mono ?_; rintro e w1 ⟨rfl, hw⟩; have HW := Lib.hid hw; clear hw)
        go_roundw
        case rel => exact ⟨k + 1, by omega, by go_num, HN, HP.out.then_ HW.out⟩
        case measure => simp [intOf]; omega
    · obtain rfl : k = n := by omega
      have HF := Lib.hid (show l.any badE = false by
        rw [List.any_eq_false]
        intro x hx
        have := hb.out x (by rw [← HL.out, List.take_length]; exact hx)
        rw [this]; decide)
      clear hb
      go_wp2
      go_ret
      refine (show IdxPost (l.any badE) w (.returned (.int .i64 (-1))) wr from ?_)
      exact ⟨-1, rfl, (fun h => by rw [HF.out] at h; cases h), fun _ => rfl, HP.out⟩

theorem contC_ (A : Option Addr) (n c B : Nat) (l : List Int) (w : World) (h : Sees w B 1 A n (l.map (Value.int .i64))) (hB : B ≤ w.heap.size) (hn : n ≤ 1000000) :
    Calls Tryd.prog 36 #[.slice A n c, .func (.func 37) #[] #[]] w fun e w' => e = .returned (.bool (l.any badC)) ∧ Pure' w w' := by
  obtain ⟨b, hb⟩ : ∃ b, l.any badC = b := ⟨_, rfl⟩
  have HI := Lib.hid (hb ▸ idxC_ A n c B l w h hB hn)
  rw [hb]
  clear hb h
  go_enter Tryd.func36, Tryd.ntmps36
  go_wp2_with (go_at_call 62; refine HI.out.mono ?_; rintro e w1 ⟨r, rfl, h1, h2, hw⟩; have H1 := Lib.hid h1; have H2 := Lib.hid h2; have HW := Lib.hid hw; clear hw h1 h2)
  go_ret
  refine ⟨?_, HW.out⟩
  cases b with
  | true => have := H1.out rfl; simp; omega
  | false => have := H2.out rfl; subst this; rfl
theorem contE_ (A : Option Addr) (n c B : Nat) (l : List (Int × Int × Int)) (w : World) (h : Sees w B 3 A n (edVs l)) (hB : B ≤ w.heap.size) (hn : n ≤ 1000000) :
    Calls Tryd.prog 34 #[.slice A n c, .func (.func 35) #[] #[]] w fun e w' => e = .returned (.bool (l.any badE)) ∧ Pure' w w' := by
  obtain ⟨b, hb⟩ : ∃ b, l.any badE = b := ⟨_, rfl⟩
  have HI := Lib.hid (hb ▸ idxE_ A n c B l w h hB hn)
  rw [hb]
  clear hb h
  go_enter Tryd.func34, Tryd.ntmps34
  go_wp2_with (go_at_call 61; refine HI.out.mono ?_; rintro e w1 ⟨r, rfl, h1, h2, hw⟩; have H1 := Lib.hid h1; have H2 := Lib.hid h2; have HW := Lib.hid hw; clear hw h1 h2)
  go_ret
  refine ⟨?_, HW.out⟩
  cases b with
  | true => have := H1.out rfl; simp; omega
  | false => have := H2.out rfl; subst this; rfl

end Go.Proofs.YtjcjmjnajhkdaaaDoor
