import Derived.Test.YtacodojaolnhnaaPane4
namespace Go.Proofs.Ytacodojaolnhnaa
open Go.RowKit
set_option linter.unusedVariables false
set_option linter.unusedSimpArgs false
set_option maxRecDepth 100000
attribute [local go_sem] gmax2 gmin2 gmax_two gmin_two

theorem PMine.at_ {w0 w : World} {g gr : Nat} {gone rest : List UInt8} {closed : Bool} {size : Nat} (h : PMine w0 w g gr gone rest closed size) (d : Int) : ∃ (c : UInt8) (ok : Bool), Calls Try.prog 32 #[.pointer (some ⟨g, 0, none⟩), .int .i64 d] w (fun e w' => e = .returned (.tuple #[.int .u8 (c.toNat : Int), .bool ok]) ∧ w = w') ∧
    (ok = true → 0 ≤ d ∧ d < (min gone.length size : Nat) ∧ gone[gone.length - 1 - d.toNat]? = some c) ∧ (ok = false → (d < 0 ∨ (min gone.length size : Nat) ≤ d)) := by
  obtain ⟨S, hR, _⟩ := h.mine
  by_cases hd : 0 ≤ d ∧ d < (min gone.length size : Nat)
  · obtain ⟨n, rfl⟩ := Int.eq_ofNat_of_zero_le hd.1
    have hlt : gone.length - 1 - n < gone.length := by omega
    exact ⟨_, true, last_blk g gr _ _ n _ true w h.blk (at_ring gr gone size S n w hR (by omega) _ (List.getElem?_eq_getElem hlt)), fun _ => ⟨hd.1, hd.2, List.getElem?_eq_getElem hlt⟩, (fun h => by cases h)⟩
  · exact ⟨0, false, last_blk g gr _ _ d _ false w h.blk (at_no gr gone size S d w hR (by omega)), (fun h => by cases h), fun _ => by omega⟩
theorem PMine.held {w0 w : World} {g gr : Nat} {gone rest : List UInt8} {closed : Bool} {size : Nat} (h : PMine w0 w g gr gone rest closed size) (hs : gone.length + rest.length < 1000000000000) :
    Calls Try.prog 34 #[.pointer (some ⟨g, 0, none⟩)] w fun e w' => e = .returned (.int .i64 ((min gone.length size : Nat) + rest.length : Int)) ∧ ∃ k, w' = w.drewN k := by
  obtain ⟨S, hR, _⟩ := h.mine
  have := held_blk g gr (str rest) _ gone size S w h.blk hR (by omega) (by rw [str_size]; omega)
  rwa [str_size] at this
theorem PMine.ends {w0 w : World} {g gr : Nat} {gone rest : List UInt8} {closed : Bool} {size : Nat} (h : PMine w0 w g gr gone rest closed size) (t : ByteArray) (ht : t.size < 1000000000000) :
    Calls Try.prog 19 #[.pointer (some ⟨gr, 0, none⟩), .string t] w fun e w' => e = .returned (.bool (endsP gone size t.data.toList)) ∧ w = w' := by
  obtain ⟨S, hR, _⟩ := h.mine
  exact ends_ring gr gone size S t w hR ht
theorem PMine.seen {w0 w : World} {g gr : Nat} {gone rest : List UInt8} {closed : Bool} {size : Nat} (h : PMine w0 w g gr gone rest closed size) :
    Calls Try.prog 22 #[.pointer (some ⟨gr, 0, none⟩)] w fun e w' => e = .returned (.int .i64 gone.length) ∧ w = w' := by
  obtain ⟨S, hR, _⟩ := h.mine
  exact Ring.seens hR

set_option maxHeartbeats 1000000 in
theorem awake35 (w : World) : Calls Try.prog 28 #[] w fun e w' => e = .returned (.bool true) ∧ Pure' w w' := by
  have HM := Lib.hid (PMine.made w 2 (by omega) (by omega))
  go_enter Try.func28, Try.ntmps28
  go_wp2_with fail
  refine (pnew_ok 2 _ (by omega) (by omega)).mono ?_
  rintro e w1 ⟨rfl, hw1⟩
  have HM1 : Hid (PMine w w1 (w.heap.size + 1) w.heap.size [] [] false 2) := by rw [hw1]; exact HM
  clear hw1 HM
  generalize w.heap.size = g at *
  go_wp2_with fail
  refine (offer_yes (g + 1) _ _ _ _ HM1.out.blk (str_empty [])).mono ?_
  rintro e w2 ⟨rfl, hw2⟩
  have HM2 : Hid (PMine w w2 (g + 1) g [] [97, 98, 99] false 2) := by rw [hw2]; exact Lib.hid (HM1.out.setP rfl)
  clear hw2 HM1
  go_wp2_with fail
  refine (to_pane w w2 (g + 1) g 2 [] [97, 98, 99] false 2 HM2.out (by decide)).mono ?_
  rintro e w3 ⟨rfl, hw3, _⟩
  have HM3 : Hid (PMine w w3 (g + 1) g [97, 98] [99] false 2) := Lib.hid hw3
  clear hw3 HM2
  go_wp2_with fail
  refine (last_blk (g + 1) g _ _ 0 (.int .u8 98) true w3 HM3.out.blk (by obtain ⟨S, hR, _⟩ := HM3.out.mine; exact at_ring g _ 2 S 0 w3 hR (by decide) 98 rfl)).mono ?_
  rintro e w' ⟨rfl, rfl⟩
  go_wp2_with fail
  refine (HM3.out.held (by decide)).mono ?_
  rintro e w4 ⟨rfl, k, rfl⟩
  have HM4 := Lib.hid (HM3.out.drewN k)
  clear HM3
  go_wp2_with fail
  refine (step_yes w _ (g + 1) g [97, 98] [] 99 false 2 HM4.out (by decide) (by decide)).mono ?_
  rintro e w5 ⟨rfl, hw5, _⟩
  have HM5 : Hid (PMine w w5 (g + 1) g [97, 98, 99] [] false 2) := Lib.hid hw5
  have c0 := hw5.blk.cell 0
  clear hw5 HM4
  go_wp2_with fail
  refine (HM5.out.ends _ (by decide)).mono ?_
  rintro e w' ⟨rfl, rfl⟩
  go_wp2_with fail
  refine (waits_blk (g + 1) _ _ _ _ HM5.out.blk).mono ?_
  rintro e w' ⟨rfl, rfl⟩
  have he := str_empty []
  go_wp2
  go_ret
  exact ⟨rfl, HM5.out.p⟩
theorem awake35_ {w0 w : World} (h : Pure' w0 w) : Calls Try.prog 28 #[] w fun e w' => e = .returned (.bool true) ∧ Pure' w0 w' :=
  (awake35 w).mono fun _ _ ⟨he, hk⟩ => ⟨he, h.then_ hk⟩

set_option maxHeartbeats 1000000 in
theorem pnone_row (w : World) (s : ByteArray) (n d : Int) (hs : s.size ≤ maxLen) (hn : -9223372036854775808 ≤ n ∧ n ≤ 9223372036854775807) (hd : -9223372036854775808 ≤ d ∧ d ≤ 9223372036854775807) :
    Calls Try.prog 8 #[.string s, .int .i64 n, .int .i64 d] w fun e w' => e = .returned (.bool true) ∧ Pure' w w' := by
  unfold maxLen at hs
  by_cases h : 50 < s.size
  · go_enter Try.func8, Try.ntmps8
    go_wp2_with (go_at_call 28; refine (awake35_ (Keeps.refl _ w)).mono ?_; rintro e w2 ⟨rfl, hp2⟩)
    go_ret
    exact ⟨rfl, hp2⟩
  · go_enter Try.func8, Try.ntmps8
    go_wp2_with (first
      | (go_at_call 32; refine (last_nil _ _).mono ?_; rintro e w' ⟨rfl, rfl⟩)
      | (go_at_call 37; refine (offer_nil _ _).mono ?_; rintro e w' ⟨rfl, rfl⟩)
      | (go_at_call 38; refine (close_nil _).mono ?_; rintro e w' ⟨rfl, rfl⟩)
      | (go_at_call 39; refine (step_nil _).mono ?_; rintro e w' ⟨rfl, rfl⟩)
      | (go_at_call 40; refine (to_nil _ _).mono ?_; rintro e w' ⟨rfl, rfl⟩)
      | (go_at_call 35; refine (waits_nil _).mono ?_; rintro e w' ⟨rfl, rfl⟩)
      | (go_at_call 36; refine (over_nil _).mono ?_; rintro e w' ⟨rfl, rfl⟩)
      | (go_at_call 34; refine (held_nil _).mono ?_; rintro e w' ⟨rfl, rfl⟩)
      | (go_at_call 28; refine (awake35_ (Keeps.refl _ w)).mono ?_; rintro e w2 ⟨rfl, hp2⟩))
    go_ret
    exact ⟨rfl, hp2⟩
end Go.Proofs.Ytacodojaolnhnaa
