/- Two scripts that are one are the same; no condition but the sizes. -/
import Derived.Test.YtjcjmjnajhkdaaaDoorScrP
namespace Go.Proofs.YtjcjmjnajhkdaaaDoor
open Go.RowKit
set_option linter.unusedVariables false
set_option linter.unusedSimpArgs false
set_option maxRecDepth 100000

theorem Keeps.of_drewN {S : Nat → Prop} {w w1 w2 : World} (h : Keeps S w w1) {k : Nat} (e : w2 = w1.drewN k) : Keeps S w w2 := by subst e; exact h.drewN k

set_option maxHeartbeats 2000000 in
theorem sameS_ (v0 v1 v5 v6 u0 u1 u5 u6 : Value) (s : Sc) (w : World) (h : ScR w v0 v1 v5 v6 s) (g : ScR w u0 u1 u5 u6 s) (h0 : s.pats.length ≤ 100000) (h1 : s.parts.length ≤ 100000) (h5 : s.edits.length ≤ 100000) (h6 : s.certs.length ≤ 100000) :
    Calls Tryd.prog 10 #[scV v0 v1 v5 v6 s, scV u0 u1 u5 u6 s] w fun e w' => e = .returned (.bool true) ∧ Pure' w w' := by
  obtain ⟨a0, k0, rfl, s0⟩ := h.p0
  obtain ⟨a1, k1, rfl, s1⟩ := h.p1
  obtain ⟨a5, k5, rfl, s5⟩ := h.p5
  obtain ⟨a6, k6, rfl, s6⟩ := h.p6
  obtain ⟨d0, j0, rfl, t0⟩ := g.p0
  obtain ⟨d1, j1, rfl, t1⟩ := g.p1
  obtain ⟨d5, j5, rfl, t5⟩ := g.p5
  obtain ⟨d6, j6, rfl, t6⟩ := g.p6
  have hs0 := fun W (hW : Pure' w W) => same_ a0 d0 s.pats.length k0 j0 w.heap.size (s.pats.map (fun (x : List UInt8) => (⟨x.toArray⟩ : ByteArray))) W (s0.pure hW (Nat.le_refl _)) (t0.pure hW (Nat.le_refl _)) (by omega)
  have hs1 := fun W (hW : Pure' w W) => same_ a1 d1 s.parts.length k1 j1 w.heap.size (s.parts.map (fun (x : List UInt8) => (⟨x.toArray⟩ : ByteArray))) W (s1.pure hW (Nat.le_refl _)) (t1.pure hW (Nat.le_refl _)) (by omega)
  have hs6 := fun W (hW : Pure' w W) => rsame_ a6 d6 s.certs.length k6 j6 w.heap.size w.heap.size s.certs W (s6.pure hW (Nat.le_refl _)) (t6.pure hW (Nat.le_refl _)) (by omega)
  unfold scV
  have HS5 := Lib.hid s5
  have HT5 := Lib.hid t5
  obtain ⟨np, hnp⟩ : ∃ np, s.pats.length = np := ⟨_, rfl⟩
  obtain ⟨nq, hnq⟩ : ∃ nq, s.parts.length = nq := ⟨_, rfl⟩
  obtain ⟨ne, hne⟩ : ∃ ne, s.edits.length = ne := ⟨_, rfl⟩
  obtain ⟨nc, hnc⟩ : ∃ nc, s.certs.length = nc := ⟨_, rfl⟩
  rw [hnp] at hs0 ⊢
  rw [hnq] at hs1 ⊢
  rw [hne] at HS5 HT5 h5 ⊢
  rw [hnc] at hs6 ⊢
  have H0 := Lib.hid hs0
  have H1 := Lib.hid hs1
  have H6 := Lib.hid hs6
  have HNE := Lib.hid hne
  have HP := Lib.hid (((Keeps.refl (fun _ => False) w).alloc (.cells #[.slice a0 np k0, .slice a1 nq k1, .int .i64 s.table, .bool s.skip, .int .i64 s.every, .slice a5 ne k5, .slice a6 nc k6] 29)).alloc (.cells #[.slice d0 np j0, .slice d1 nq j1, .int .i64 s.table, .bool s.skip, .int .i64 s.every, .slice d5 ne j5, .slice d6 nc j6] 35))
  have HB := Lib.hid (Blk.alloc (Blk.new w 29 #[.slice a0 np k0, .slice a1 nq k1, .int .i64 s.table, .bool s.skip, .int .i64 s.every, .slice a5 ne k5, .slice a6 nc k6]) (.cells #[.slice d0 np j0, .slice d1 nq j1, .int .i64 s.table, .bool s.skip, .int .i64 s.every, .slice d5 ne j5, .slice d6 nc j6] 35))
  have HC := Lib.hid (Blk.newAt (w := w.alloc (.cells #[.slice a0 np k0, .slice a1 nq k1, .int .i64 s.table, .bool s.skip, .int .i64 s.every, .slice a5 ne k5, .slice a6 nc k6] 29)) (g := w.heap.size + 1) (t := 35) (cs := #[.slice d0 np j0, .slice d1 nq j1, .int .i64 s.table, .bool s.skip, .int .i64 s.every, .slice d5 ne j5, .slice d6 nc j6]) (by simp))
  clear hs0 hs1 hs6 hnp hnq hne hnc s0 s1 s5 s6 t0 t1 t5 t6 h g h0 h1 h6
  go_enter Tryd.func10, Tryd.ntmps10
  go_wp2_with fail
  refine (H0.out _ HP.out).mono ?_
  rintro e w1 ⟨rfl, kk, hk⟩
  have HK1 := Lib.hid (HP.out.of_drewN hk)
  have HB1 := Lib.hid (HB.out.keep ((Keeps.refl (fun _ => False) _).of_drewN hk) (fun hf => hf))
  have HC1 := Lib.hid (HC.out.keep ((Keeps.refl (fun _ => False) _).of_drewN hk) (fun hf => hf))
  clear hk HP HB HC
  have x1 := HB1.out.cell 1
  have y1 := HC1.out.cell 1
  go_wp2_with fail
  refine (H1.out _ HK1.out).mono ?_
  rintro e w2 ⟨rfl, kk2, hk⟩
  have HK2 := Lib.hid (HK1.out.of_drewN hk)
  have HB2 := Lib.hid (HB1.out.keep ((Keeps.refl (fun _ => False) _).of_drewN hk) (fun hf => hf))
  have HC2 := Lib.hid (HC1.out.keep ((Keeps.refl (fun _ => False) _).of_drewN hk) (fun hf => hf))
  clear hk x1 y1 HK1 HB1 HC1
  have x2 := HB2.out.cell 2
  have y2 := HC2.out.cell 2
  have x3 := HB2.out.cell 3
  have y3 := HC2.out.cell 3
  have x4 := HB2.out.cell 4
  have y4 := HC2.out.cell 4
  have x6 := HB2.out.cell 6
  have y6 := HC2.out.cell 6
  go_wp2_with fail
  refine (H6.out _ HK2.out).mono ?_
  rintro e w3 ⟨rfl, kk3, hk⟩
  have HK3 := Lib.hid (HK2.out.of_drewN hk)
  have HB3 := Lib.hid (HB2.out.keep ((Keeps.refl (fun _ => False) _).of_drewN hk) (fun hf => hf))
  have HC3 := Lib.hid (HC2.out.keep ((Keeps.refl (fun _ => False) _).of_drewN hk) (fun hf => hf))
  clear hk x2 y2 x3 y3 x4 y4 x6 y6 HK2 HB2 HC2
  have x5 := HB3.out.cell 5
  have y5 := HC3.out.cell 5
  go_wp2
  go_loopw [5] (fun v5 wr => ∃ k : Nat, k ≤ ne ∧ v5 = .int .i64 k ∧ Pure' w3 wr) (fun v5 _ => ne - (intOf v5).toNat)
  case atStart => exact ⟨0, Nat.zero_le _, rfl, Keeps.refl _ _⟩
  case round =>
    obtain ⟨k, hk, rfl, hp⟩ := hrel
    have HPr := Lib.hid hp
    clear hp x5 y5
    have x5 := (HB3.out.keep HPr.out (fun hf => hf)).cell 5
    have y5 := (HC3.out.keep HPr.out (fun hf => hf)).cell 5
    by_cases hlt : k < ne
    · obtain ⟨ad, x, rfl, hx, p0, p1, p2⟩ := ed_at (HS5.out.pure (HK3.out.then_ HPr.out) (Nat.le_refl _)) hlt
      obtain ⟨ae, y, rfl, hy, q0, q1, q2⟩ := ed_at (HT5.out.pure (HK3.out.then_ HPr.out) (Nat.le_refl _)) hlt
      rw [hx] at hy
      injection hy with hy
      subst hy
      clear hx
      go_wp2
      go_quiet (fail)
      go_wp2
      go_roundw
      case rel =>
        refine ⟨k + 1, by omega, by go_num, ?_⟩
        repeat first | exact HPr.out | refine Keeps.drewN ?_ _ | refine Keeps.drew ?_
      case measure => simp [intOf]; omega
    · obtain rfl : ne = k := by omega
      go_wp2
      go_ret
      exact ⟨rfl, HK3.out.then_ HPr.out⟩

end Go.Proofs.YtjcjmjnajhkdaaaDoor
