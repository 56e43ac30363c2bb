import Derived.Test.YtacodojaolnhnaaLaw07c
import Derived.Deep.RegionWith
namespace Go.Proofs.Ytacodojaolnhnaa
open Go.RowKit
set_option linter.unusedVariables false
set_option linter.unusedSimpArgs false
set_option maxRecDepth 100000
attribute [local go_sem] gmax2 gmin2 gmax_two gmin_two

theorem str_empty (l : List UInt8) : (str l).toList.isEmpty = l.isEmpty := by rw [ByteArray.toList_eq, str_data]
theorem str_drop (l : List UInt8) (k : Nat) : (str l).extract k (str l).size = str (l.drop k) := by rw [extract_end, str_data]; rfl

theorem waits_blk (g : Nat) (x : Value) (r : ByteArray) (c : Bool) (w : World) (h : Blk w g 56 #[x, .string r, .bool c]) :
    Calls Try.prog 35 #[.pointer (some ⟨g, 0, none⟩)] w fun e w' => e = .returned (.bool (!c && r.toList.isEmpty)) ∧ w = w' := by
  have h1 := h.cell 1
  have h2 := h.cell 2
  clear h
  cases c <;>
  · go_enter Try.func35, Try.ntmps35
    go_wp2
    go_ret
    exact ⟨rfl, rfl⟩
theorem waits_nil (w : World) : Calls Try.prog 35 #[.pointer none] w fun e w' => e = .returned (.bool false) ∧ w = w' := by
  go_enter Try.func35, Try.ntmps35
  go_wp2
  go_ret
  exact ⟨rfl, rfl⟩
theorem over_blk (g : Nat) (x : Value) (r : ByteArray) (c : Bool) (w : World) (h : Blk w g 56 #[x, .string r, .bool c]) :
    Calls Try.prog 36 #[.pointer (some ⟨g, 0, none⟩)] w fun e w' => e = .returned (.bool (c && r.toList.isEmpty)) ∧ w = w' := by
  have h1 := h.cell 1
  have h2 := h.cell 2
  clear h
  cases c <;>
  · go_enter Try.func36, Try.ntmps36
    go_wp2
    go_ret
    exact ⟨rfl, rfl⟩
theorem over_nil (w : World) : Calls Try.prog 36 #[.pointer none] w fun e w' => e = .returned (.bool false) ∧ w = w' := by
  go_enter Try.func36, Try.ntmps36
  go_wp2
  go_ret
  exact ⟨rfl, rfl⟩
theorem offer_nil (s : ByteArray) (w : World) : Calls Try.prog 37 #[.pointer none, .string s] w fun e w' => e = .returned (.int .i64 1) ∧ w = w' := by
  go_enter Try.func37, Try.ntmps37
  go_wp2
  go_ret
  exact ⟨rfl, rfl⟩
theorem offer_no (g : Nat) (x : Value) (r s : ByteArray) (c : Bool) (w : World) (h : Blk w g 56 #[x, .string r, .bool c]) (hc : c = true ∨ (c = false ∧ r.toList.isEmpty = false)) :
    Calls Try.prog 37 #[.pointer (some ⟨g, 0, none⟩), .string s] w fun e w' => e = .returned (.int .i64 12) ∧ w = w' := by
  have h1 := h.cell 1
  have h2 := h.cell 2
  clear h
  rcases hc with rfl | ⟨rfl, he⟩ <;>
  · go_enter Try.func37, Try.ntmps37
    go_wp2
    go_ret
    exact ⟨rfl, rfl⟩
theorem offer_yes (g : Nat) (x : Value) (r s : ByteArray) (w : World) (h : Blk w g 56 #[x, .string r, .bool false]) (he : r.toList.isEmpty = true) :
    Calls Try.prog 37 #[.pointer (some ⟨g, 0, none⟩), .string s] w fun e w' => e = .returned (.int .i64 0) ∧ w' = w.setCell ⟨g, 1, none⟩ (.string s) := by
  have h1 := h.cell 1
  have h2 := h.cell 2
  have f1 := h.frozen 1
  clear h
  go_enter Try.func37, Try.ntmps37
  go_wp2
  go_ret
  exact ⟨rfl, rfl⟩
theorem close_nil (w : World) : Calls Try.prog 38 #[.pointer none] w fun e w' => e = .returned (.int .i64 1) ∧ w = w' := by
  go_enter Try.func38, Try.ntmps38
  go_wp2
  go_ret
  exact ⟨rfl, rfl⟩
theorem close_no (g : Nat) (x : Value) (r : ByteArray) (c : Bool) (w : World) (h : Blk w g 56 #[x, .string r, .bool c]) (hc : c = true ∨ (c = false ∧ r.toList.isEmpty = false)) :
    Calls Try.prog 38 #[.pointer (some ⟨g, 0, none⟩)] w fun e w' => e = .returned (.int .i64 12) ∧ w = w' := by
  have h1 := h.cell 1
  have h2 := h.cell 2
  clear h
  rcases hc with rfl | ⟨rfl, he⟩ <;>
  · go_enter Try.func38, Try.ntmps38
    go_wp2
    go_ret
    exact ⟨rfl, rfl⟩
theorem close_yes (g : Nat) (x : Value) (r : ByteArray) (w : World) (h : Blk w g 56 #[x, .string r, .bool false]) (he : r.toList.isEmpty = true) :
    Calls Try.prog 38 #[.pointer (some ⟨g, 0, none⟩)] w fun e w' => e = .returned (.int .i64 0) ∧ w' = w.setCell ⟨g, 2, none⟩ (.bool true) := by
  have h1 := h.cell 1
  have h2 := h.cell 2
  have f2 := h.frozen 2
  clear h
  go_enter Try.func38, Try.ntmps38
  go_wp2
  go_ret
  exact ⟨rfl, rfl⟩
theorem held_nil (w : World) : Calls Try.prog 34 #[.pointer none] w fun e w' => e = .returned (.int .i64 0) ∧ w = w' := by
  go_enter Try.func34, Try.ntmps34
  go_wp2
  go_ret
  exact ⟨rfl, rfl⟩
theorem last_nil (d : Int) (w : World) : Calls Try.prog 32 #[.pointer none, .int .i64 d] w fun e w' => e = .returned (.tuple #[.int .u8 0, .bool false]) ∧ w = w' := by
  go_enter Try.func32, Try.ntmps32
  go_wp2
  go_ret2
  exact ⟨rfl, rfl⟩
theorem step_nil (w : World) : Calls Try.prog 39 #[.pointer none] w fun e w' => e = .returned (.bool false) ∧ w = w' := by
  go_enter Try.func39, Try.ntmps39
  go_wp2
  go_ret
  exact ⟨rfl, rfl⟩
theorem to_nil (n : Int) (w : World) : Calls Try.prog 40 #[.pointer none, .int .i64 n] w fun e w' => e = .returned (.bool false) ∧ w = w' := by
  go_enter Try.func40, Try.ntmps40
  go_wp2
  go_ret
  exact ⟨rfl, rfl⟩
theorem pnew_bad (size : Int) (w : World) (h : size < 1 ∨ 65536 < size) : Calls Try.prog 29 #[.int .i64 size] w fun e w' => e = .returned (.tuple #[.pointer none, .int .i64 2]) ∧ w = w' := by
  go_enter Try.func29, Try.ntmps29
  go_wp2_with (go_at_call 14; refine (new_bad _ _ h).mono ?_; rintro e w1 ⟨rfl, rfl⟩)
  go_ret2
  exact ⟨rfl, rfl⟩
theorem pnew_ok (size : Int) (w : World) (h : 1 ≤ size) (h2 : size ≤ 65536) : Calls Try.prog 29 #[.int .i64 size] w fun e w' => e = .returned (.tuple #[.pointer (some ⟨w.heap.size + 1, 0, none⟩), .int .i64 0]) ∧
    w' = (w.alloc (.cells #[.slice none 0 0, .int .i64 size, .int .i64 0, .int .i64 0] 71)).alloc (.cells #[.pointer (some ⟨w.heap.size, 0, none⟩), .string ⟨#[]⟩, .bool false] 56) := by
  go_enter Try.func29, Try.ntmps29
  go_wp2_with (go_at_call 14; refine (new_ok _ _ h h2).mono ?_; rintro e w1 ⟨rfl, rfl⟩)
  go_ret2
  exact ⟨rfl, rfl⟩
set_option maxHeartbeats 1000000 in
theorem held_blk (g gr : Nat) (r : ByteArray) (c : Value) (s : List UInt8) (size : Nat) (S : Nat → Prop) (w : World) (h : Blk w g 56 #[.pointer (some ⟨gr, 0, none⟩), .string r, c]) (hR : Ring w gr s size S) (hs : s.length < 1000000000000) (hr : r.size < 1000000000000) :
    Calls Try.prog 34 #[.pointer (some ⟨g, 0, none⟩)] w fun e w' => e = .returned (.int .i64 ((min s.length size : Nat) + r.size : Int)) ∧ ∃ k, w' = w.drewN k := by
  have h0 := h.cell 0
  have h1 := h.cell 1
  have HL := Lib.hid (fun n => Ring.lens (w := w.drewN n) hR)
  have hm : min s.length size ≤ 1000000000000 := by omega
  clear h hR
  go_enter Try.func34, Try.ntmps34
  go_wp2
  go_quiet ((go_at_call 21; exact (Calls.quiet_of_same ((HL.out _).mono fun _ _ ⟨a, b⟩ => ⟨a, b.symm⟩))))
  go_wp2
  go_ret
  exact ⟨rfl, _, rfl⟩
theorem last_blk (g gr : Nat) (x y : Value) (d : Int) (u : Value) (ok : Bool) (w : World) (h : Blk w g 56 #[.pointer (some ⟨gr, 0, none⟩), x, y])
    (hA : Calls Try.prog 18 #[.pointer (some ⟨gr, 0, none⟩), .int .i64 d] w fun e w' => e = .returned (.tuple #[u, .bool ok]) ∧ w = w') :
    Calls Try.prog 32 #[.pointer (some ⟨g, 0, none⟩), .int .i64 d] w fun e w' => e = .returned (.tuple #[u, .bool ok]) ∧ w = w' := by
  have h0 := h.cell 0
  have HA := Lib.hid hA
  clear h hA
  go_enter Try.func32, Try.ntmps32
  go_wp2_with (go_at_call 18; refine (HA.out).mono ?_; rintro e w' ⟨rfl, rfl⟩)
  go_ret2
  exact ⟨rfl, rfl⟩
end Go.Proofs.Ytacodojaolnhnaa
