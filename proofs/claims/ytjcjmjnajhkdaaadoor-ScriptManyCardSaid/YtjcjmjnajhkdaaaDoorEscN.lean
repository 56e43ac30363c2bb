import Derived.Test.YtjcjmjnajhkdaaaDoorEscQ
namespace Go.Proofs.YtjcjmjnajhkdaaaDoor
open Go.RowKit
set_option linter.unusedVariables false
set_option linter.unusedSimpArgs false
set_option maxRecDepth 100000

theorem drewN_two (w : World) (a b : Nat) : (w.drewN a).drewN b = w.drewN (a + b) := by unfold World.drewN; simp [Nat.add_assoc]

/-- What next answers. -/
def nextV (l : List UInt8) : Value := match nextL l with
  | some (c, r) => .tuple #[.int .u8 c.toNat, .string ⟨r.toArray⟩, .bool true]
  | none => .tuple #[.int .u8 0, .string ⟨#[]⟩, .bool false]

theorem hex_index (c : UInt8) : Lib.indexByte hexL c = (match hexL.idxOf? c with | some x => (x : Int) | none => -1) := all_bytes (p := fun c => Lib.indexByte hexL c = (match hexL.idxOf? c with | some x => (x : Int) | none => -1)) (by decide +kernel) c
theorem hex_small (c : UInt8) (x : Nat) (h : hexL.idxOf? c = some x) : x < 16 := by
  have := all_bytes (p := fun c => (hexL.idxOf? c).all (fun x => decide (x < 16)) = true) (by decide +kernel) c
  rw [h] at this; simpa using this
theorem hex_join : ∀ x y : Fin 16, bits BinOp.or .i64 ((x.val : Int) * 16) (y.val : Int) = ((x.val * 16 + y.val : Nat) : Int) := by decide +kernel

set_option maxHeartbeats 1000000 in
theorem next_plain (a : UInt8) (r : List UInt8) (w : World) (h : a ≠ 92) (hs : r.length ≤ 1000000) : Calls Tryd.prog 66 #[.string ⟨(a :: r).toArray⟩] w fun e w' => e = .returned (nextV (a :: r)) ∧ ∃ k, w' = w.drewN k := by
  have hv := Lib.hid (show nextV (a :: r) = .tuple #[.int .u8 a.toNat, .string ⟨r.toArray⟩, .bool true] by unfold nextV nextL; simp [h])
  have h92 : a.toNat ≠ 92 := fun e => h (UInt8.toNat_inj.1 (by simpa using e))
  have hb : ((a.toNat : Int) != 92) = true := by simp; omega
  have hsz : (⟨(a :: r).toArray⟩ : ByteArray).size = r.length + 1 := by simp [ByteArray.size]
  have h0 : (0 : Nat) < (⟨(a :: r).toArray⟩ : ByteArray).size := by omega
  have h0' : (0 : Int) < (((⟨(a :: r).toArray⟩ : ByteArray).size : Nat) : Int) := by omega
  have hg : ∀ h', (⟨(a :: r).toArray⟩ : ByteArray)[0]'h' = a := fun _ => rfl
  have hx := extract_end ⟨(a :: r).toArray⟩ 1
  have hx' : (⟨(a :: r).toArray⟩ : ByteArray).extract 1 (r.length + 1) = ⟨r.toArray⟩ := by rw [← hsz, hx]; rfl
  have HX := Lib.hid hx'
  have h1 : (1 : Int) ≤ (((⟨(a :: r).toArray⟩ : ByteArray).size : Nat) : Int) := by omega
  clear hx hx' h h92
  generalize hS : (⟨(a :: r).toArray⟩ : ByteArray) = S at *
  go_enter Tryd.func66, Tryd.ntmps66
  go_wp2
  go_quiet (fail)
  go_wp2
  go_ret3
  rw [HX.out, hv.out]
  exact ⟨rfl, _, rfl⟩

set_option maxHeartbeats 1000000 in
theorem next_slash (r : List UInt8) (w : World) (hs : r.length ≤ 1000000) : Calls Tryd.prog 66 #[.string ⟨(92 :: 92 :: r).toArray⟩] w fun e w' => e = .returned (nextV (92 :: 92 :: r)) ∧ ∃ k, w' = w.drewN k := by
  have hv := Lib.hid (show nextV (92 :: 92 :: r) = .tuple #[.int .u8 92, .string ⟨r.toArray⟩, .bool true] by unfold nextV nextL; simp)
  have hsz : (⟨(92 :: 92 :: r).toArray⟩ : ByteArray).size = r.length + 2 := by simp [ByteArray.size]
  have h0 : (0 : Nat) < (⟨(92 :: 92 :: r).toArray⟩ : ByteArray).size := by omega
  have h0' : (0 : Int) < (((⟨(92 :: 92 :: r).toArray⟩ : ByteArray).size : Nat) : Int) := by omega
  have hg : ∀ h', (⟨(92 :: 92 :: r).toArray⟩ : ByteArray)[0]'h' = 92 := fun _ => rfl
  have HX : Hid ((⟨(92 :: 92 :: r).toArray⟩ : ByteArray).extract 2 (r.length + 2) = ⟨r.toArray⟩) := Lib.hid (by rw [← hsz, extract_end]; rfl)
  have h1 : (2 : Int) ≤ (((⟨(92 :: 92 :: r).toArray⟩ : ByteArray).size : Nat) : Int) := by omega
  have HP : Hid (Lib.hasPrefix (⟨(92 :: 92 :: r).toArray⟩ : ByteArray).data.toList [92, 92] = true) := Lib.hid (by simp [Lib.hasPrefix])
  have HC := Lib.hid (Tryd.strings_HasPrefix ⟨(92 :: 92 :: r).toArray⟩ ⟨#[92, 92]⟩ w)
  generalize hS : (⟨(92 :: 92 :: r).toArray⟩ : ByteArray) = S at *
  go_enter Tryd.func66, Tryd.ntmps66
  go_wp2_with (go_at_call 80; refine HC.out.mono ?_; rintro e w1 ⟨rfl, rfl⟩; rw [HP.out])
  go_quiet (fail)
  go_wp2
  go_ret3
  rw [HX.out, hv.out]
  exact ⟨rfl, _, rfl⟩
set_option maxHeartbeats 1000000 in
theorem next_short (l : List UInt8) (w : World) (hs : (92 :: l).length < 4) (hp : ([92, 92] : List UInt8).isPrefixOf (92 :: l) = false) (hn : nextL (92 :: l) = none) : Calls Tryd.prog 66 #[.string ⟨(92 :: l).toArray⟩] w fun e w' => e = .returned (nextV (92 :: l)) ∧ ∃ k, w' = w.drewN k := by
  have hv := Lib.hid (show nextV (92 :: l) = .tuple #[.int .u8 0, .string ⟨#[]⟩, .bool false] by unfold nextV; rw [hn])
  have hsz : (⟨(92 :: l).toArray⟩ : ByteArray).size = l.length + 1 := by simp [ByteArray.size]
  have h0 : (0 : Nat) < (⟨(92 :: l).toArray⟩ : ByteArray).size := by omega
  have h0' : (0 : Int) < (((⟨(92 :: l).toArray⟩ : ByteArray).size : Nat) : Int) := by omega
  have hg : ∀ h', (⟨(92 :: l).toArray⟩ : ByteArray)[0]'h' = 92 := fun _ => rfl
  have h4 : (((⟨(92 :: l).toArray⟩ : ByteArray).size : Nat) : Int) < 4 := by simp at hs; omega
  have h4' : (l.length : Int) + 1 < 4 := by simp at hs; omega
  have HP : Hid (Lib.hasPrefix (⟨(92 :: l).toArray⟩ : ByteArray).data.toList [92, 92] = false) := Lib.hid hp
  have HC := Lib.hid (Tryd.strings_HasPrefix ⟨(92 :: l).toArray⟩ ⟨#[92, 92]⟩ w)
  clear hp hn hs
  generalize hS : (⟨(92 :: l).toArray⟩ : ByteArray) = S at *
  go_enter Tryd.func66, Tryd.ntmps66
  go_wp2_with (go_at_call 80; refine HC.out.mono ?_; rintro e w1 ⟨rfl, rfl⟩; rw [HP.out])
  go_ret3
  rw [hv.out]
  exact ⟨rfl, 0, rfl⟩

set_option maxHeartbeats 1000000 in
theorem next_other (b h k : UInt8) (r : List UInt8) (w : World) (hs : r.length ≤ 1000000) (hb : b ≠ 92) (hb' : b ≠ 120) : Calls Tryd.prog 66 #[.string ⟨(92 :: b :: h :: k :: r).toArray⟩] w fun e w' => e = .returned (nextV (92 :: b :: h :: k :: r)) ∧ ∃ k, w' = w.drewN k := by
  have hv := Lib.hid (show nextV (92 :: b :: h :: k :: r) = .tuple #[.int .u8 0, .string ⟨#[]⟩, .bool false] by unfold nextV nextL; simp [hb, hb'])
  have hsz : (⟨(92 :: b :: h :: k :: r).toArray⟩ : ByteArray).size = r.length + 4 := by simp [ByteArray.size]
  have h0 : (0 : Nat) < (⟨(92 :: b :: h :: k :: r).toArray⟩ : ByteArray).size := by omega
  have h0' : (0 : Int) < (((⟨(92 :: b :: h :: k :: r).toArray⟩ : ByteArray).size : Nat) : Int) := by omega
  have h1' : (1 : Int) < (((⟨(92 :: b :: h :: k :: r).toArray⟩ : ByteArray).size : Nat) : Int) := by omega
  have h1 : 1 < (⟨(92 :: b :: h :: k :: r).toArray⟩ : ByteArray).size := by omega
  have hg : ∀ h', (⟨(92 :: b :: h :: k :: r).toArray⟩ : ByteArray)[0]'h' = 92 := fun _ => rfl
  have hg1 : ∀ h', (⟨(92 :: b :: h :: k :: r).toArray⟩ : ByteArray)[1]'h' = b := fun _ => rfl
  have h120 : b.toNat ≠ 120 := fun e => hb' (UInt8.toNat_inj.1 (by simpa using e))
  have ht : ((b.toNat : Int) != 120) = true := by simp; omega
  have h4 : ¬ (r.length : Int) + 4 < 4 := by omega
  have HP : Hid (Lib.hasPrefix (⟨(92 :: b :: h :: k :: r).toArray⟩ : ByteArray).data.toList [92, 92] = false) := Lib.hid (by
    have hbb : ((92 : UInt8) == b) = false := by rw [beq_eq_false_iff_ne]; exact fun e => hb e.symm
    show ((92 : UInt8) == 92 && (((92 : UInt8) == b) && List.isPrefixOf [] (h :: k :: r))) = false
    rw [hbb]; rfl)
  have HC := Lib.hid (Tryd.strings_HasPrefix ⟨(92 :: b :: h :: k :: r).toArray⟩ ⟨#[92, 92]⟩ w)
  clear hb hb' h120
  generalize hS : (⟨(92 :: b :: h :: k :: r).toArray⟩ : ByteArray) = S at *
  go_enter Tryd.func66, Tryd.ntmps66
  go_wp2_with (go_at_call 80; refine HC.out.mono ?_; rintro e w1 ⟨rfl, rfl⟩; rw [HP.out])
  go_ret3
  rw [hv.out]
  exact ⟨rfl, 0, rfl⟩

set_option maxHeartbeats 1000000 in
theorem next_hex (h k : UInt8) (r : List UInt8) (w : World) (hs : r.length ≤ 1000000) : Calls Tryd.prog 66 #[.string ⟨(92 :: 120 :: h :: k :: r).toArray⟩] w fun e w' => e = .returned (nextV (92 :: 120 :: h :: k :: r)) ∧ ∃ k, w' = w.drewN k := by
  have hsz : (⟨(92 :: 120 :: h :: k :: r).toArray⟩ : ByteArray).size = r.length + 4 := by simp [ByteArray.size]
  have h0 : (0 : Nat) < (⟨(92 :: 120 :: h :: k :: r).toArray⟩ : ByteArray).size := by omega
  have h0' : (0 : Int) < (((⟨(92 :: 120 :: h :: k :: r).toArray⟩ : ByteArray).size : Nat) : Int) := by omega
  have h1' : (1 : Int) < (((⟨(92 :: 120 :: h :: k :: r).toArray⟩ : ByteArray).size : Nat) : Int) := by omega
  have h2' : (2 : Int) < (((⟨(92 :: 120 :: h :: k :: r).toArray⟩ : ByteArray).size : Nat) : Int) := by omega
  have h3' : (3 : Int) < (((⟨(92 :: 120 :: h :: k :: r).toArray⟩ : ByteArray).size : Nat) : Int) := by omega
  have hg : ∀ h', (⟨(92 :: 120 :: h :: k :: r).toArray⟩ : ByteArray)[0]'h' = 92 := fun _ => rfl
  have hg1 : ∀ h', (⟨(92 :: 120 :: h :: k :: r).toArray⟩ : ByteArray)[1]'h' = 120 := fun _ => rfl
  have hg2 : ∀ h', (⟨(92 :: 120 :: h :: k :: r).toArray⟩ : ByteArray)[2]'h' = h := fun _ => rfl
  have hg3 : ∀ h', (⟨(92 :: 120 :: h :: k :: r).toArray⟩ : ByteArray)[3]'h' = k := fun _ => rfl
  have h4 : ¬ (r.length : Int) + 4 < 4 := by omega
  have HX : Hid ((⟨(92 :: 120 :: h :: k :: r).toArray⟩ : ByteArray).extract 4 (r.length + 4) = ⟨r.toArray⟩) := Lib.hid (by rw [← hsz, extract_end]; rfl)
  have HP : Hid (Lib.hasPrefix (⟨(92 :: 120 :: h :: k :: r).toArray⟩ : ByteArray).data.toList [92, 92] = false) := Lib.hid rfl
  have HC := Lib.hid (Tryd.strings_HasPrefix ⟨(92 :: 120 :: h :: k :: r).toArray⟩ ⟨#[92, 92]⟩ w)
  have HI : Hid (∀ (c : UInt8) (w : World), Calls Tryd.prog 81 #[.string ⟨#[48, 49, 50, 51, 52, 53, 54, 55, 56, 57, 97, 98, 99, 100, 101, 102]⟩, .int .u8 c.toNat] w fun e w' => e = .returned (.int .i64 (match hexL.idxOf? c with | some x => (x : Int) | none => -1)) ∧ w' = w) := Lib.hid (fun c w => by
    have := Tryd.strings_IndexByte ⟨#[48, 49, 50, 51, 52, 53, 54, 55, 56, 57, 97, 98, 99, 100, 101, 102]⟩ (c.toNat : Int) w
    rw [← hex_index c]
    simpa [hexL] using this)
  generalize hS : (⟨(92 :: 120 :: h :: k :: r).toArray⟩ : ByteArray) = S at *
  have hvn := Lib.hid (show (hexL.idxOf? h = none ∨ hexL.idxOf? k = none) → nextV (92 :: 120 :: h :: k :: r) = .tuple #[.int .u8 0, .string ⟨#[]⟩, .bool false] by
    intro hh
    unfold nextV nextL
    rcases hh with hh | hh
    · simp [hh]
    · cases hx : hexL.idxOf? h <;> simp [hh, hx])
  have hvs := Lib.hid (show ∀ x y, hexL.idxOf? h = some x → hexL.idxOf? k = some y → nextV (92 :: 120 :: h :: k :: r) = .tuple #[.int .u8 ((UInt8.ofNat (x * 16 + y)).toNat), .string ⟨r.toArray⟩, .bool true] by
    intro x y h1 h2
    unfold nextV nextL; simp [h1, h2])
  go_enter Tryd.func66, Tryd.ntmps66
  cases hx : hexL.idxOf? h with
  | none =>
    have I1 : Hid (∀ w, Calls Tryd.prog 81 #[.string ⟨#[48, 49, 50, 51, 52, 53, 54, 55, 56, 57, 97, 98, 99, 100, 101, 102]⟩, .int .u8 h.toNat] w fun e w' => e = .returned (.int .i64 (-1)) ∧ w' = w) := Lib.hid (fun w => by have := HI.out h w; rwa [hx] at this)
    have HN := Lib.hid (hvn.out (.inl hx))
    clear hx hvn hvs
    have I2 : Hid (∃ y : Int, ∀ w, Calls Tryd.prog 81 #[.string ⟨#[48, 49, 50, 51, 52, 53, 54, 55, 56, 57, 97, 98, 99, 100, 101, 102]⟩, .int .u8 k.toNat] w fun e w' => e = .returned (.int .i64 y) ∧ w' = w) := Lib.hid ⟨_, fun w => HI.out k w⟩
    obtain ⟨y, i2⟩ := I2.out
    have I2' := Lib.hid i2
    clear i2 I2 HI
    go_wp2_with (go_at_call 80; refine HC.out.mono ?_; rintro e w1 ⟨rfl, rfl⟩; rw [HP.out])
    go_quiet ((first | (go_at_call 81; refine (I1.out _).mono ?_; rintro e w1 ⟨rfl, rfl⟩; exact ⟨rfl, _, rfl⟩) | (go_at_call 81; refine (I2'.out _).mono ?_; rintro e w1 ⟨rfl, rfl⟩; exact ⟨rfl, _, rfl⟩)))
    go_wp2
    go_ret3
    rw [HN.out]
    exact ⟨rfl, _, rfl⟩
  | some x =>
    have hx16 := hex_small h x hx
    have I1 : Hid (∀ w, Calls Tryd.prog 81 #[.string ⟨#[48, 49, 50, 51, 52, 53, 54, 55, 56, 57, 97, 98, 99, 100, 101, 102]⟩, .int .u8 h.toNat] w fun e w' => e = .returned (.int .i64 x) ∧ w' = w) := Lib.hid (fun w => by have := HI.out h w; rwa [hx] at this)
    have n1 : ¬ (x : Int) < 0 := by omega
    cases hy : hexL.idxOf? k with
    | none =>
      have I2 : Hid (∀ w, Calls Tryd.prog 81 #[.string ⟨#[48, 49, 50, 51, 52, 53, 54, 55, 56, 57, 97, 98, 99, 100, 101, 102]⟩, .int .u8 k.toNat] w fun e w' => e = .returned (.int .i64 (-1)) ∧ w' = w) := Lib.hid (fun w => by have := HI.out k w; rwa [hy] at this)
      have HN := Lib.hid (hvn.out (.inr hy))
      clear hx hy hvn hvs HI
      go_wp2_with (go_at_call 80; refine HC.out.mono ?_; rintro e w1 ⟨rfl, rfl⟩; rw [HP.out])
      go_quiet ((first | (go_at_call 81; refine (I1.out _).mono ?_; rintro e w1 ⟨rfl, rfl⟩; exact ⟨rfl, _, rfl⟩) | (go_at_call 81; refine (I2.out _).mono ?_; rintro e w1 ⟨rfl, rfl⟩; exact ⟨rfl, _, rfl⟩)))
      go_wp2
      go_ret3
      rw [HN.out]
      exact ⟨rfl, _, rfl⟩
    | some y =>
      have hy16 := hex_small k y hy
      have I2 : Hid (∀ w, Calls Tryd.prog 81 #[.string ⟨#[48, 49, 50, 51, 52, 53, 54, 55, 56, 57, 97, 98, 99, 100, 101, 102]⟩, .int .u8 k.toNat] w fun e w' => e = .returned (.int .i64 y) ∧ w' = w) := Lib.hid (fun w => by have := HI.out k w; rwa [hy] at this)
      have n2 : ¬ (y : Int) < 0 := by omega
      have HN := Lib.hid (hvs.out x y hx hy)
      have hj := hex_join ⟨x, hx16⟩ ⟨y, hy16⟩
      simp only at hj
      have hw1 : (x : Int) * 16 < 256 := by omega
      have hw2 : ((x * 16 + y : Nat) : Int) < 256 := by omega
      have h4'' : (4 : Int) ≤ (r.length : Int) + 4 := by omega
      clear hx hy hvn hvs HI
      go_wp2_with (go_at_call 80; refine HC.out.mono ?_; rintro e w1 ⟨rfl, rfl⟩; rw [HP.out])
      go_quiet ((first | (go_at_call 81; refine (I1.out _).mono ?_; rintro e w1 ⟨rfl, rfl⟩; exact ⟨rfl, _, rfl⟩) | (go_at_call 81; refine (I2.out _).mono ?_; rintro e w1 ⟨rfl, rfl⟩; exact ⟨rfl, _, rfl⟩)))
      go_wp2
      go_quiet (fail)
      go_wp2
      go_ret3
      rw [HN.out, HX.out]
      refine ⟨?_, _, drewN_two _ _ _⟩
      have e : (UInt8.ofNat (x * 16 + y)).toNat = x * 16 + y := by simp; omega
      rw [e]
      first | rfl | (congr 4; omega)

theorem next_ (l : List UInt8) (w : World) (h : l ≠ []) (hs : l.length ≤ 1000000) : Calls Tryd.prog 66 #[.string ⟨l.toArray⟩] w fun e w' => e = .returned (nextV l) ∧ ∃ k, w' = w.drewN k := by
  match l, h with
  | a :: r, _ =>
    by_cases ha : a = 92
    · subst ha
      match r with
      | [] => exact next_short [] w (by simp) rfl rfl
      | b :: r2 =>
        by_cases hb : b = 92
        · subst hb
          exact next_slash r2 w (by simp at hs; omega)
        · have hbb : ((92 : UInt8) == b) = false := by rw [beq_eq_false_iff_ne]; exact fun e => hb e.symm
          have hpf : ∀ t, ([92, 92] : List UInt8).isPrefixOf (92 :: b :: t) = false := by
            intro t
            show ((92 : UInt8) == 92 && (((92 : UInt8) == b) && List.isPrefixOf [] t)) = false
            rw [hbb]; rfl
          match r2 with
          | [] => exact next_short [b] w (by simp) (hpf _) (by simp [nextL, hb])
          | [c] => exact next_short [b, c] w (by simp) (hpf _) (by simp [nextL, hb])
          | h :: k :: r4 =>
            by_cases hb' : b = 120
            · subst hb'
              exact next_hex h k r4 w (by simp at hs; omega)
            · exact next_other b h k r4 w (by simp at hs; omega) hb hb'
    · exact next_plain a r w ha (by simp at hs; omega)
end Go.Proofs.YtjcjmjnajhkdaaaDoor
