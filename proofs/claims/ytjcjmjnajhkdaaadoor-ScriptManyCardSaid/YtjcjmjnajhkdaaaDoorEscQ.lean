import Derived.Test.YtjcjmjnajhkdaaaDoorEscB
import Derived.Lib.ConvBytes
namespace Go.Proofs.YtjcjmjnajhkdaaaDoor
open Go.RowKit
set_option linter.unusedVariables false
set_option linter.unusedSimpArgs false
set_option maxRecDepth 100000

theorem fresh_my (w : World) : MyB (w.alloc (.cells #[.pointer none, .slice none 0 0] 89)) (w.heap.size + 2) w.heap.size [] :=
  .inl ⟨_, Blk.new w _ _, World.ownsRow_nil _ _ _ _, by simp [Value.ownBlock]⟩

theorem sign_take {s : List UInt8} {k : Nat} (hk : k < s.length) : signsL (s.take (k + 1)) = signsL (s.take k) ++ signL s[k] := by
  rw [List.take_succ_eq_append_getElem hk, signs_append, signs_one]
theorem Keeps.cell_ {S : Nat → Prop} {w w' : World} (h : Keeps S w w') {a : Addr} (ha : a.block < w.heap.size) (hs : ¬ S a.block) : w'.cell? a = w.cell? a := World.cell?_of_block (h.block a.block ha hs)

/-- What stands at round k of Quote's loop. -/
structure QuInv (w0 w : World) (b g : Nat) (s : List UInt8) (k : Nat) : Prop where
  my : MyB w (g + 1) b (signsL (s.take k))
  cells : ∀ j, j < s.length → w.cell? ⟨g, j, none⟩ = some (.int .u8 (s.getD j 0).toNat)
  keeps : Pure' w0 w
  big : w0.heap.size ≤ b ∧ b < g ∧ g < w.heap.size

set_option maxHeartbeats 1000000 in
theorem quote_big (s : List UInt8) (w : World) (hs : s.length ≤ 1000000) (h1 : s ≠ []) (h2 : s ≠ [45]) : Calls Tryd.prog 54 #[.string ⟨s.toArray⟩] w fun e w' => e = .returned (.string ⟨(quoteL s).toArray⟩) ∧ Pure' w w' := by
  go_enter Tryd.func54, Tryd.ntmps54
  have q1 : s.isEmpty = false := by cases s with | nil => exact absurd rfl h1 | cons _ _ => rfl
  have q2 : (s == [45]) = false := by simpa using h2
  go_wp2
  rw [Lib.run_convert_string_bytes _ 9 87 5 _ Tryd.underlying9 Tryd.underlying87 Tryd.underlying5]
  simp only [Result.andThen]
  rw [Oper.upon_value]
  have hsz : ((⟨s.toArray⟩ : ByteArray)).size = s.length := by simp [ByteArray.size]
  rw [hsz]
  generalize hcap : grownCap _ _ _ _ = cap
  have I0 : QuInv w (Lib.bytesWorld (w.alloc (.cells #[.pointer none, .slice none 0 0] 89)) 5 ⟨s.toArray⟩) w.heap.size (w.heap.size + 1) s 0 := by
    refine ⟨.inl ⟨_, ?_, World.ownsRow_nil _ _ _ _, by simp [Value.ownBlock]⟩, fun j hj => ?_, ?_, Nat.le_refl _, by omega, by rw [Lib.bytesWorld_size]; simp⟩
    · unfold Blk; rw [Lib.bytesWorld_at_old _ _ _ _ (by simp)]; exact Blk.new w _ _
    · have := Lib.bytesWorld_cell (w.alloc (.cells #[.pointer none, .slice none 0 0] 89)) 5 ⟨s.toArray⟩ j (by rw [hsz]; exact hj)
      simpa using this
    · refine ((Keeps.refl _ w).alloc _).trans (S' := fun _ => False) ⟨?_, ?_, ?_, ?_, fun k hk _ => Lib.bytesWorld_at_old _ _ _ _ hk⟩ (fun _ _ h => h)
      · rfl
      · rfl
      · rfl
      · rw [Lib.bytesWorld_size]; omega
  have hg : (w.alloc (.cells #[.pointer none, .slice none 0 0] 89)).heap.size = w.heap.size + 1 := by simp
  rw [hg]
  generalize Lib.bytesWorld (w.alloc (.cells #[.pointer none, .slice none 0 0] 89)) 5 ⟨s.toArray⟩ = w1 at *
  generalize hb : w.heap.size = b at *
  generalize hgg : b + 1 = g at *
  have HI0 := Lib.hid I0
  have HW := Lib.hid ws_
  have HS := Lib.hid sign_
  clear I0
  generalize hn : s.length = n at *
  go_wp2
  go_loopw [15] (fun v wr => ∃ k : Nat, k ≤ n ∧ v = .int .i64 k ∧ QuInv w wr b g s k) (fun v _ => n - (intOf v).toNat)
  case atStart => exact ⟨0, Nat.zero_le _, rfl, HI0.out⟩
  case round =>
    obtain ⟨k, hk, rfl, hI⟩ := hrel
    have HI := Lib.hid hI
    clear hI
    by_cases hlt : k < n
    · have hc := HI.out.cells k (by omega)
      have HM := Lib.hid HI.out.my
      have HLen : Hid (∀ c : UInt8, (signsL (s.take k)).length + (⟨(signL c).toArray⟩ : ByteArray).size ≤ 140737488355328) := Lib.hid (fun c => by
        have h1 := signs_len (s.take k); have h2 := sign_len c
        have h3 : (⟨(signL c).toArray⟩ : ByteArray).size = (signL c).length := by simp [ByteArray.size]
        rw [List.length_take] at h1
        omega)
      go_wp2_with (first | (go_at_call 74; refine (HS.out _ _).mono ?_; rintro e w2 ⟨rfl, hk2⟩; have HK2 := Lib.hid hk2; clear hk2) | (go_at_call 52; refine (HW.out (g + 1) b (signsL (s.take k)) _ _ (HM.out.keep HK2.out (fun h => h) (fun _ _ h => h)) (HLen.out _) (by have := HI.out.big; have := HK2.out.size; omega)).mono ?_; rintro e w3 ⟨rfl, hm3, hk3⟩; have HM3 := Lib.hid hm3; have HK3 := Lib.hid hk3; clear hm3 hk3))
      go_roundw
      case rel =>
        refine ⟨k + 1, by omega, by go_num, ?_⟩
        have hB := HI.out.big
        have hz2 := HK2.out.size
        have hz3 := HK3.out.size
        refine ⟨?_, fun j hj => ?_, (HI.out.keeps.trans HK2.out (fun _ _ h => h)).trans HK3.out (fun x hx h => by have h' : x = b ∨ g + 1 ≤ x := h; omega), hB.1, hB.2.1, by omega⟩
        · have hm := HM3.out
          rw [sign_take (by omega)]
          exact hm
        · rw [← HI.out.cells j hj, ← HK2.out.cell_ (a := ⟨g, j, none⟩) (show g < _ by omega) (fun h => h)]
          exact HK3.out.cell_ (a := ⟨g, j, none⟩) (show g < _ by omega) (fun h => by have h' : g = b ∨ g + 1 ≤ g := h; omega)
      case measure => simp [intOf]; omega
    · obtain rfl : k = n := by omega
      have HB := Lib.hid HI.out.my
      have hbig := HI.out.big
      have HC := Lib.hid (fun (l : List UInt8) (wx : World) (h1 : Lib.IsBuilder 89 5 b b (Lib.byteCells l) wx) (h2 : b ≤ wx.heap.size) => Tryd.Builder_String_any b b l wx h1 h2)
      go_wp2_with (go_at_call 53; refine (HC.out (signsL (s.take k)) _ (HB.out.is (by omega) (Nat.le_refl _)) (by omega)).mono ?_; rintro e w3 ⟨rfl, hb3⟩)
      go_ret
      have hq : quoteL s = signsL (s.take k) := by unfold quoteL; rw [if_neg h1, if_neg h2, List.take_of_length_le (by omega)]
      refine ⟨by rw [hq]; rfl, HI.out.keeps.trans (Keeps.of_below' hb3) (fun x hx h => by have h' : b ≤ x := h; omega)⟩

set_option maxHeartbeats 1000000 in
theorem quote_ (s : List UInt8) (w : World) (hs : s.length ≤ 1000000) : Calls Tryd.prog 54 #[.string ⟨s.toArray⟩] w fun e w' => e = .returned (.string ⟨(quoteL s).toArray⟩) ∧ Pure' w w' := by
  by_cases h1 : s = []
  · subst h1
    have hq := Lib.hid (show quoteL [] = [45] from rfl)
    go_enter Tryd.func54, Tryd.ntmps54
    go_wp2
    go_ret
    exact ⟨by rw [hq.out]; rfl, Keeps.refl _ w⟩
  · by_cases h2 : s = [45]
    · subst h2
      have hq := Lib.hid (show quoteL [45] = codedL 45 from rfl)
      have HC := Lib.hid (coded_ 45 w)
      go_enter Tryd.func54, Tryd.ntmps54
      go_wp2_with (go_at_call 73; refine (HC.out).mono ?_; rintro e w1 ⟨rfl, hk⟩)
      go_ret
      exact ⟨by rw [hq.out]; rfl, hk⟩
    · exact quote_big s w hs h1 h2
end Go.Proofs.YtjcjmjnajhkdaaaDoor
