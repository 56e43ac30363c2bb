/- A script of the program's, out of one of the reference's; no condition but the sizes. -/
import Derived.Test.YtjcjmjnajhkdaaaDoorScrV
namespace Go.Proofs.YtjcjmjnajhkdaaaDoor
open Go.RowKit
set_option linter.unusedVariables false
set_option linter.unusedSimpArgs false
set_option maxRecDepth 100000

theorem news3 (w : World) {a b c : Value} {T : TypeId} : ∀ j x, [a, b, c][j]? = some x → (w.alloc (.cells #[a, b, c] T)).cell? ((⟨w.heap.size, 0, none⟩ : Addr).add j) = some x := by
  intro j u hu
  rw [add_flat, (Blk.new w T #[a, b, c]).cell]
  simpa using hu
theorem one3 (a b c : Int) : ∀ u ∈ [Value.int .i64 a, .int .i64 b, .int .i64 c], u.oneCell' = true := by
  intro u hu; simp at hu; rcases hu with rfl | rfl | rfl <;> rfl
theorem mine_end {R : Ending → World → Prop} {a : Act} {H : Nat} {X : World} {cs : Array Value} (h2 : a.tmps.getD 2 undef = .pointer (some ⟨H, 0, none⟩)) (hd : a.defers = []) (hb : Blk X H 29 cs) (hcs : cs.size = 7)
    (hR : R (.returned (.agg cs)) X) : bodyPost Tryd.prog Tryd.f13 R .ret a X := by
  refine bodyPost_ret (v := .agg cs) ?_ hd hR
  exact results_cell_row (fn := Tryd.f13) (p := 2) (ty := 29) rfl a.tmps X H 29 cs (0, 0) _ h2 hb Tryd.underlying29 rfl (by rw [hcs]; kernel_rfl)

/-- The variables of the call. -/
structure MI (w : World) (cs cp : Array Value) (es : List (Int × Int × Int)) (v5 : Value) (W : World) : Prop where
  low : Pure' w W
  b0 : Blk W w.heap.size 35 cs
  b1 : Blk W (w.heap.size + 1) 29 #[.slice none 0 0, .slice none 0 0, .int .i64 0, .bool false, .int .i64 0, .slice none 0 0, .slice none 0 0]
  b2 : Blk W (w.heap.size + 2) 29 cp
  row : Row W 61 3 v5 es.length (edVs es)
  own : ∀ b, v5.ownBlock = some b → w.heap.size + 3 ≤ b
theorem MI.drew {w W : World} {cs cp : Array Value} {es : List (Int × Int × Int)} {v5 : Value} (h : MI w cs cp es v5 W) : MI w cs cp es v5 W.drew := ⟨h.low.drew, h.b0.drew, h.b1.drew, h.b2.drew, h.row.drew, h.own⟩
def MK (h : Nat) (v5 : Value) (b : Nat) : Prop := b = h ∨ v5.ownBlock = some b
theorem MI.at_ {w W W' : World} {cs cp : Array Value} {es : List (Int × Int × Int)} {v5 : Value} (h : MI w cs cp es v5 W) (hk : Keeps (MK (w.heap.size + 2) v5) W W') : Pure' w W' :=
  h.low.trans hk (fun b hb hm => by rcases hm with rfl | hm
                                    · omega
                                    · have := h.own _ hm; omega)
theorem MI.box {w W W' : World} {cs cp : Array Value} {es : List (Int × Int × Int)} {v5 : Value} (h : MI w cs cp es v5 W) (hk : Keeps (MK (w.heap.size + 2) v5) W W') : Blk W' w.heap.size 35 cs :=
  h.b0.keep hk (fun hm => by rcases hm with hm | hm
                             · omega
                             · have := h.own _ hm; omega)
theorem MI.box1 {w W W' : World} {cs cp : Array Value} {es : List (Int × Int × Int)} {v5 : Value} (h : MI w cs cp es v5 W) (hk : Keeps (MK (w.heap.size + 2) v5) W W') : Blk W' (w.heap.size + 1) 29 #[.slice none 0 0, .slice none 0 0, .int .i64 0, .bool false, .int .i64 0, .slice none 0 0, .slice none 0 0] :=
  h.b1.keep hk (fun hm => by rcases hm with hm | hm
                             · omega
                             · have := h.own _ hm; omega)
/-- One edit more. -/
theorem MI.more {w W W1 : World} {cs cp cp' : Array Value} {es : List (Int × Int × Int)} {v5 v5' : Value} {e : Int × Int × Int} (h : MI w cs cp es v5 W) (hk : Keeps (MK (w.heap.size + 2) v5) W W1) (hb2 : Blk W1 (w.heap.size + 2) 29 cp)
    (hr : Row W1 61 3 v5' (es ++ [e]).length (edVs (es ++ [e]))) (ho : ∀ b, v5'.ownBlock = some b → w.heap.size + 3 ≤ b) (hcp : cp.setIfInBounds 5 v5' = cp') : MI w cs cp' (es ++ [e]) v5' (W1.setCell ⟨w.heap.size + 2, 5, none⟩ v5') := by
  refine ⟨(h.at_ hk).setCell (p := ⟨w.heap.size + 2, 5, none⟩) (.inr (by show w.heap.size ≤ w.heap.size + 2; omega)) _, (h.box hk).off (by omega), (h.box1 hk).off (by omega), (hb2.set_ 5 v5').to hcp, hr.off (fun e => by have := ho _ e; omega), ho⟩

set_option maxHeartbeats 2000000 in
theorem mine_ (v0 v1 v5 v6 : Value) (s : Sc) (w : World) (h : ScR w v0 v1 v5 v6 s) (h5 : s.edits.length ≤ 12) :
    Calls Tryd.prog 13 #[scV v0 v1 v5 v6 s] w fun e w' => ∃ u5, e = .returned (scV v0 v1 u5 v6 s) ∧ ScR w' v0 v1 u5 v6 s ∧ Pure' w w' := by
  obtain ⟨i0, hi, hz0, hz1, hz2⟩ := info_parts edInfo
  have HSc := Lib.hid h
  obtain ⟨a0, k0, rfl, s0⟩ := h.p0
  obtain ⟨a1, k1, rfl, s1⟩ := h.p1
  obtain ⟨a5, k5, rfl, s5⟩ := h.p5
  obtain ⟨a6, k6, rfl, s6⟩ := h.p6
  have HS5 := Lib.hid s5
  unfold scV
  obtain ⟨np, hnp⟩ : ∃ np, s.pats.length = np := ⟨_, rfl⟩
  obtain ⟨nq, hnq⟩ : ∃ nq, s.parts.length = nq := ⟨_, rfl⟩
  obtain ⟨ne, hne⟩ : ∃ ne, s.edits.length = ne := ⟨_, rfl⟩
  obtain ⟨nc, hnc⟩ : ∃ nc, s.certs.length = nc := ⟨_, rfl⟩
  have HNE := Lib.hid hne
  rw [hnp, hnq, hnc] at HSc ⊢
  rw [hne] at HS5 h5 HSc ⊢
  obtain ⟨cs, hcs⟩ : ∃ cs : Array Value, #[.slice a0 np k0, .slice a1 nq k1, .int .i64 s.table, .bool s.skip, .int .i64 s.every, .slice a5 ne k5, .slice a6 nc k6] = cs := ⟨_, rfl⟩
  have HCS := Lib.hid hcs
  have HM0 := Lib.hid (show MI w cs #[.slice a0 np k0, .slice a1 nq k1, .int .i64 s.table, .bool s.skip, .int .i64 s.every, .slice none 0 0, .slice a6 nc k6] [] (.slice none 0 0) (((w.alloc (.cells #[.slice a0 np k0, .slice a1 nq k1, .int .i64 s.table, .bool s.skip, .int .i64 s.every, .slice a5 ne k5, .slice a6 nc k6] 35)).alloc (.cells #[.slice none 0 0, .slice none 0 0, .int .i64 0, .bool false, .int .i64 0, .slice none 0 0, .slice none 0 0] 29)).alloc (.cells #[.slice a0 np k0, .slice a1 nq k1, .int .i64 s.table, .bool s.skip, .int .i64 s.every, .slice none 0 0, .slice a6 nc k6] 29)) from
    ⟨(((Keeps.refl _ w).alloc _).alloc _).alloc _, hcs ▸ (((Blk.newAt (w := w) rfl).alloc _).alloc _), (Blk.newAt (w := w.alloc _) (by simp)).alloc _, Blk.newAt (w := (w.alloc _).alloc _) (by simp), Row.nil _ _ _, fun b hb => by simp [Value.ownBlock] at hb⟩)
  clear s0 s1 s5 s6 h hnp hnq hne hnc hcs
  go_enter Tryd.func13, Tryd.ntmps13
  go_wp2
  go_loopw [4] (fun v4 wr => ∃ k : Nat, k ≤ ne ∧ v4 = .int .i64 k ∧ ∃ u5, MI w cs #[.slice a0 np k0, .slice a1 nq k1, .int .i64 s.table, .bool s.skip, .int .i64 s.every, u5, .slice a6 nc k6] (s.edits.take k) u5 wr) (fun v4 _ => ne - (intOf v4).toNat)
  case atStart => exact ⟨0, Nat.zero_le _, rfl, _, HM0.out⟩
  case round =>
    obtain ⟨k, hk, rfl, u5, hm⟩ := hrel
    have HM := Lib.hid hm
    clear hm HM0
    have hkl : (s.edits.take k).length = k := by rw [List.length_take]; have := HNE.out; omega
    obtain ⟨es, hes⟩ : ∃ es, s.edits.take k = es := ⟨_, rfl⟩
    rw [hes] at hkl HM
    have HES := Lib.hid hes
    have HKL := Lib.hid hkl
    have HR0 := Lib.hid (show Row wr 61 3 u5 k (edVs es) by have := HM.out.row; rw [hkl] at this; exact this)
    clear hes hkl
    have x5 : wr.cell? ⟨w.heap.size, 5, none⟩ = some (.slice a5 ne k5) := by rw [HM.out.b0.cell, ← HCS.out]; rfl
    by_cases hlt : k < ne
    · obtain ⟨ad, e0, rfl, he0, p0, p1, p2⟩ := ed_at HS5.out hlt
      have HEK := Lib.hid he0
      obtain ⟨ek, ei, en⟩ := e0
      dsimp only at p0 p1 p2
      have hlw := HM.out.low.size
      have hb2 := HM.out.b2.lt
      have HX5 := Lib.hid (fun W (hW : Keeps (MK (w.heap.size + 2) u5) wr W) => (by rw [(HM.out.box hW).cell, ← HCS.out]; rfl : W.cell? ⟨w.heap.size, 5, none⟩ = some (.slice (some ad) ne k5)))
      have HP0 := Lib.hid (fun W (hW : Keeps (MK (w.heap.size + 2) u5) wr W) => keepc p0 (HM.out.at_ hW))
      have HP1 := Lib.hid (fun W (hW : Keeps (MK (w.heap.size + 2) u5) wr W) => keepc p1 (HM.out.at_ hW))
      have HP2 := Lib.hid (fun W (hW : Keeps (MK (w.heap.size + 2) u5) wr W) => keepc p2 (HM.out.at_ hW))
      have howB : u5.ownBlock ≠ some (w.heap.size + 2) := fun e => by have := HM.out.own _ e; omega
      clear he0 p0 p1 p2
      go_upto_region 5 with fail
      clear x5
      refine wp_region_held_drew (S := (fun W => Keeps (MK (w.heap.size + 2) u5) wr W)) (by kernel_rfl) ((Keeps.refl _ wr).drew) (fun hHeld => ?_)
      have HH := Lib.hid hHeld
      clear hHeld
      refine wpAnyH_take (i := 0) (oi := ⟨some 21, .fieldAddr 29 (.tmp 3) 3, _, _, _, _⟩) (v := ?vv1) rfl (by kernel_rfl) (by kernel_rfl) (by kernel_rfl) (fun _ _ _ h => h) (Or.inl ⟨by rfl, ?hy1⟩) HH.out ?rr1
      case hy1 => intro W hSw; go_simp; try with_reducible rfl
      try simp only [Act.put, List.setIfInBounds_toArray, List.set_cons_zero, List.set_cons_succ]
      refine wpAnyH_take (i := 2) (oi := ⟨some 23, .fieldAddr 35 (.tmp 1) 3, _, _, _, _⟩) (v := ?vv2) rfl (by kernel_rfl) (by kernel_rfl) (by kernel_rfl) (fun _ _ _ h => h) (Or.inl ⟨by rfl, ?hy2⟩) HH.out ?rr2
      case hy2 => intro W hSw; go_simp; try with_reducible rfl
      try simp only [Act.put, List.setIfInBounds_toArray, List.set_cons_zero, List.set_cons_succ]
      refine wpAnyH_take (i := 3) (oi := ⟨some 24, .load 33 (.tmp 23), _, _, _, _⟩) (v := ?vv3) rfl (by kernel_rfl) (by kernel_rfl) (by kernel_rfl) (fun _ _ _ h => h) (Or.inl ⟨by rfl, ?hy3⟩) HH.out ?rr3
      case hy3 => intro W hSw; have y := HX5.out W hSw; go_simp; try with_reducible rfl
      try simp only [Act.put, List.setIfInBounds_toArray, List.set_cons_zero, List.set_cons_succ]
      refine wpAnyH_take (i := 4) (oi := ⟨some 25, .move (.tmp 4), _, _, _, _⟩) (v := ?vv4) rfl (by kernel_rfl) (by kernel_rfl) (by kernel_rfl) (fun _ _ _ h => h) (Or.inl ⟨by rfl, ?hy4⟩) HH.out ?rr4
      case hy4 => intro W hSw; go_simp; try with_reducible rfl
      try simp only [Act.put, List.setIfInBounds_toArray, List.set_cons_zero, List.set_cons_succ]
      refine wpAnyH_take (i := 5) (oi := ⟨some 26, .indexAddr 33 (.tmp 24) (.tmp 25), _, _, _, _⟩) (v := ?vv5) rfl (by kernel_rfl) (by kernel_rfl) (by kernel_rfl) (fun _ _ _ h => h) (Or.inl ⟨by rfl, ?hy5⟩) HH.out ?rr5
      case hy5 => intro W hSw; go_simp; try with_reducible rfl
      try simp only [Act.put, List.setIfInBounds_toArray, List.set_cons_zero, List.set_cons_succ]
      refine wpAnyH_take (i := 6) (oi := ⟨some 27, .fieldAddr 62 (.tmp 26) 0, _, _, _, _⟩) (v := ?vv6) rfl (by kernel_rfl) (by kernel_rfl) (by kernel_rfl) (fun _ _ _ h => h) (Or.inl ⟨by rfl, ?hy6⟩) HH.out ?rr6
      case hy6 => intro W hSw; go_simp; try with_reducible rfl
      try simp only [Act.put, List.setIfInBounds_toArray, List.set_cons_zero, List.set_cons_succ]
      refine wpAnyH_take (i := 7) (oi := ⟨some 28, .load 3 (.tmp 27), _, _, _, _⟩) (v := ?vv7) rfl (by kernel_rfl) (by kernel_rfl) (by kernel_rfl) (fun _ _ _ h => h) (Or.inl ⟨by rfl, ?hy7⟩) HH.out ?rr7
      case hy7 => intro W hSw; have y := HP0.out W hSw; go_simp; try with_reducible rfl
      try simp only [Act.put, List.setIfInBounds_toArray, List.set_cons_zero, List.set_cons_succ]
      refine wpAnyH_take (i := 8) (oi := ⟨some 29, .fieldAddr 35 (.tmp 1) 3, _, _, _, _⟩) (v := ?vv8) rfl (by kernel_rfl) (by kernel_rfl) (by kernel_rfl) (fun _ _ _ h => h) (Or.inl ⟨by rfl, ?hy8⟩) HH.out ?rr8
      case hy8 => intro W hSw; go_simp; try with_reducible rfl
      try simp only [Act.put, List.setIfInBounds_toArray, List.set_cons_zero, List.set_cons_succ]
      refine wpAnyH_take (i := 9) (oi := ⟨some 30, .load 33 (.tmp 29), _, _, _, _⟩) (v := ?vv9) rfl (by kernel_rfl) (by kernel_rfl) (by kernel_rfl) (fun _ _ _ h => h) (Or.inl ⟨by rfl, ?hy9⟩) HH.out ?rr9
      case hy9 => intro W hSw; have y := HX5.out W hSw; go_simp; try with_reducible rfl
      try simp only [Act.put, List.setIfInBounds_toArray, List.set_cons_zero, List.set_cons_succ]
      refine wpAnyH_take (i := 10) (oi := ⟨some 31, .move (.tmp 4), _, _, _, _⟩) (v := ?vv10) rfl (by kernel_rfl) (by kernel_rfl) (by kernel_rfl) (fun _ _ _ h => h) (Or.inl ⟨by rfl, ?hy10⟩) HH.out ?rr10
      case hy10 => intro W hSw; go_simp; try with_reducible rfl
      try simp only [Act.put, List.setIfInBounds_toArray, List.set_cons_zero, List.set_cons_succ]
      refine wpAnyH_take (i := 11) (oi := ⟨some 32, .indexAddr 33 (.tmp 30) (.tmp 31), _, _, _, _⟩) (v := ?vv11) rfl (by kernel_rfl) (by kernel_rfl) (by kernel_rfl) (fun _ _ _ h => h) (Or.inl ⟨by rfl, ?hy11⟩) HH.out ?rr11
      case hy11 => intro W hSw; go_simp; try with_reducible rfl
      try simp only [Act.put, List.setIfInBounds_toArray, List.set_cons_zero, List.set_cons_succ]
      refine wpAnyH_take (i := 12) (oi := ⟨some 33, .fieldAddr 62 (.tmp 32) 1, _, _, _, _⟩) (v := ?vv12) rfl (by kernel_rfl) (by kernel_rfl) (by kernel_rfl) (fun _ _ _ h => h) (Or.inl ⟨by rfl, ?hy12⟩) HH.out ?rr12
      case hy12 => intro W hSw; go_simp; try with_reducible rfl
      try simp only [Act.put, List.setIfInBounds_toArray, List.set_cons_zero, List.set_cons_succ]
      refine wpAnyH_take (i := 13) (oi := ⟨some 34, .load 3 (.tmp 33), _, _, _, _⟩) (v := ?vv13) rfl (by kernel_rfl) (by kernel_rfl) (by kernel_rfl) (fun _ _ _ h => h) (Or.inl ⟨by rfl, ?hy13⟩) HH.out ?rr13
      case hy13 => intro W hSw; have y := HP1.out W hSw; go_simp; try with_reducible rfl
      try simp only [Act.put, List.setIfInBounds_toArray, List.set_cons_zero, List.set_cons_succ]
      refine wpAnyH_take (i := 14) (oi := ⟨some 35, .fieldAddr 35 (.tmp 1) 3, _, _, _, _⟩) (v := ?vv14) rfl (by kernel_rfl) (by kernel_rfl) (by kernel_rfl) (fun _ _ _ h => h) (Or.inl ⟨by rfl, ?hy14⟩) HH.out ?rr14
      case hy14 => intro W hSw; go_simp; try with_reducible rfl
      try simp only [Act.put, List.setIfInBounds_toArray, List.set_cons_zero, List.set_cons_succ]
      refine wpAnyH_take (i := 15) (oi := ⟨some 36, .load 33 (.tmp 35), _, _, _, _⟩) (v := ?vv15) rfl (by kernel_rfl) (by kernel_rfl) (by kernel_rfl) (fun _ _ _ h => h) (Or.inl ⟨by rfl, ?hy15⟩) HH.out ?rr15
      case hy15 => intro W hSw; have y := HX5.out W hSw; go_simp; try with_reducible rfl
      try simp only [Act.put, List.setIfInBounds_toArray, List.set_cons_zero, List.set_cons_succ]
      refine wpAnyH_take (i := 16) (oi := ⟨some 37, .move (.tmp 4), _, _, _, _⟩) (v := ?vv16) rfl (by kernel_rfl) (by kernel_rfl) (by kernel_rfl) (fun _ _ _ h => h) (Or.inl ⟨by rfl, ?hy16⟩) HH.out ?rr16
      case hy16 => intro W hSw; go_simp; try with_reducible rfl
      try simp only [Act.put, List.setIfInBounds_toArray, List.set_cons_zero, List.set_cons_succ]
      refine wpAnyH_take (i := 17) (oi := ⟨some 38, .indexAddr 33 (.tmp 36) (.tmp 37), _, _, _, _⟩) (v := ?vv17) rfl (by kernel_rfl) (by kernel_rfl) (by kernel_rfl) (fun _ _ _ h => h) (Or.inl ⟨by rfl, ?hy17⟩) HH.out ?rr17
      case hy17 => intro W hSw; go_simp; try with_reducible rfl
      try simp only [Act.put, List.setIfInBounds_toArray, List.set_cons_zero, List.set_cons_succ]
      refine wpAnyH_take (i := 18) (oi := ⟨some 39, .fieldAddr 62 (.tmp 38) 2, _, _, _, _⟩) (v := ?vv18) rfl (by kernel_rfl) (by kernel_rfl) (by kernel_rfl) (fun _ _ _ h => h) (Or.inl ⟨by rfl, ?hy18⟩) HH.out ?rr18
      case hy18 => intro W hSw; go_simp; try with_reducible rfl
      try simp only [Act.put, List.setIfInBounds_toArray, List.set_cons_zero, List.set_cons_succ]
      refine wpAnyH_take (i := 19) (oi := ⟨some 40, .load 3 (.tmp 39), _, _, _, _⟩) (v := ?vv19) rfl (by kernel_rfl) (by kernel_rfl) (by kernel_rfl) (fun _ _ _ h => h) (Or.inl ⟨by rfl, ?hy19⟩) HH.out ?rr19
      case hy19 => intro W hSw; have y := HP2.out W hSw; go_simp; try with_reducible rfl
      try simp only [Act.put, List.setIfInBounds_toArray, List.set_cons_zero, List.set_cons_succ]
      refine wpAnyH_take (i := 20) (oi := ⟨some 41, .build 61 #[(0, .tmp 28), (1, .tmp 34), (2, .tmp 40)], _, _, _, _⟩) (v := ?vv20) rfl (by kernel_rfl) (by kernel_rfl) (by kernel_rfl) (fun _ _ _ h => h) (Or.inl ⟨by rfl, ?hy20⟩) HH.out ?rr20
      case hy20 => intro W hSw; go_simp; try with_reducible rfl
      try simp only [Act.put, List.setIfInBounds_toArray, List.set_cons_zero, List.set_cons_succ]
      have y5 : wr.drew.cell? ⟨w.heap.size + 2, 5, none⟩ = some u5 := HM.out.b2.cell 5
      refine wpAnyH_ready (rs := [1, 21]) (by kernel_rfl) (by simp) ?_
      refine AllReadyH.cons (o := ⟨some 22, .load 26 (.tmp 21), _, _, _, _⟩) rfl (fun K hK => ?_) (AllReadyH.cons (o := ⟨some 42, .buildSlice 26 1 #[(0, .tmp 41)], _, _, _, _⟩) rfl (fun K hK => ?_) AllReadyH.nil)
      · go_simp
        refine hK.out _ _ HH.out (fun hHeld => ?_)
        clear hHeld hK K
        try simp only [Act.put, List.setIfInBounds_toArray, List.set_cons_zero, List.set_cons_succ]
        refine wpAnyH_ready (rs := [21]) (by kernel_rfl) (by simp) ?_
        refine AllReadyH.cons (o := ⟨some 42, .buildSlice 26 1 #[(0, .tmp 41)], _, _, _, _⟩) rfl (fun K hK => ?_) AllReadyH.nil
        go_simp
        refine hK.out _ _ (HH.out.alloc _) (fun hHeld => ?_)
        have HH := Lib.hid hHeld
        clear hHeld hK K
        try simp only [Act.put, List.setIfInBounds_toArray, List.set_cons_zero, List.set_cons_succ]
        refine wpAnyH_ready (rs := [22]) (by kernel_rfl) (by simp) ?_
        refine AllReadyH.cons (o := ⟨some 43, .call { callee := .builtin .append, args := #[.tmp 22, .tmp 42], argTypes := #[26, 26] }, _, _, _, _⟩) rfl (fun K hK => ?_) AllReadyH.nil
        refine step_append_lies _ rfl (.tmp 22) (.tmp 42) 26 rfl 0 61 i0 (.agg #[.int .i64 0, .int .i64 0, .int .i64 0]) 3 24 Tryd.underlying26 hi hz0 hz1 hz2 rfl (by decide) u5 k (edVs es) rfl (Row.alloc HR0.out.drew _) ⟨wr.heap.size, 0, none⟩ 1 1 [.int .i64 ek, .int .i64 ei, .int .i64 en] rfl rfl (news3 wr.drew) (one3 _ _ _) (by decide) (by unfold maxLen; omega) (by omega) (Nat.zero_le _) (wr.heap.size + 1) (by simp) ?_
        intro g6 cap6 w5 hr6 hg6 hw6 hl6
        have HG6 := Lib.hid hg6
        have e9 : edVs (es ++ [(ek, ei, en)]) = edVs es ++ [.int .i64 ek, .int .i64 ei, .int .i64 en] := by simp [edVs]
        have e8 : (es ++ [(ek, ei, en)]).length = k + 1 := by rw [List.length_append, HKL.out]; rfl
        have HR6 := Lib.hid (show Row w5 61 3 (.slice (some ⟨g6, 0, none⟩) (k + 1) cap6) (es ++ [(ek, ei, en)]).length (edVs (es ++ [(ek, ei, en)])) by rw [e8, e9]; exact hr6)
        have HO6 := Lib.hid (show ∀ b, (Value.slice (some ⟨g6, 0, none⟩) (k + 1) cap6).ownBlock = some b → w.heap.size + 3 ≤ b by
          intro b e
          simp [Value.ownBlock] at e
          subst e
          rcases hw6 with h1 | h1
          · exact HM.out.own _ h1
          · omega)
        have HB6 := Lib.hid ((HM.out.drew.b2.alloc (.cells #[.int .i64 ek, .int .i64 ei, .int .i64 en] 61)).grown hg6 howB)
        have z5 := HB6.out.frozen 5
        have z5c := HB6.out.cell 5
        clear hr6 hg6 hw6 e8 e9
        refine hK.out _ _ (HH.out.grown HG6.out (fun b hb => .inl (.inr hb))) (fun hHeld => ?_)
        have HH := Lib.hid hHeld
        clear hHeld hK K
        try simp only [Act.put, List.setIfInBounds_toArray, List.set_cons_zero, List.set_cons_succ]
        refine wpAnyH_take (i := 23) (oi := ⟨some 44, .fieldAddr 29 (.tmp 3) 3, _, _, _, _⟩) (v := ?vv21) rfl (by kernel_rfl) (by kernel_rfl) (by kernel_rfl) (fun _ _ _ h => h) (Or.inl ⟨by rfl, ?hy21⟩) HH.out ?rr21
        case hy21 => intro W hSw; go_simp; try with_reducible rfl
        try simp only [Act.put, List.setIfInBounds_toArray, List.set_cons_zero, List.set_cons_succ]
        refine wpAnyH_ready (rs := [24]) (by kernel_rfl) (by simp) ?_
        refine AllReadyH.cons (o := ⟨none, .store 26 (.tmp 44) (.tmp 43), _, _, _, _⟩) rfl (fun K hK => ?_) AllReadyH.nil
        go_simp
        refine hK.out _ _ (HH.out.setCell (p := ⟨w.heap.size + 2, 5, none⟩) (.inl (.inl rfl)) _) (fun hHeld => ?_)
        have HH := Lib.hid hHeld
        clear hHeld hK K
        try simp only [Act.put, List.setIfInBounds_toArray, List.set_cons_zero, List.set_cons_succ]
        refine wpAnyH_done (by kernel_rfl) ?_ _
        go_wp2_with fail
        go_roundw
        case rel =>
          refine ⟨k + 1, by omega, by go_num, ?_⟩
          have e1 : s.edits.take (k + 1) = es ++ [(ek, ei, en)] := by rw [List.take_add_one, HEK.out, HES.out]; rfl
          rw [e1]
          refine ⟨.slice (some ⟨g6, 0, none⟩) (k + 1) cap6, ?_⟩
          have hm := HM.out.more (e := (ek, ei, en)) (cp' := #[.slice a0 np k0, .slice a1 nq k1, .int .i64 s.table, .bool s.skip, .int .i64 s.every, .slice (some ⟨g6, 0, none⟩) (k + 1) cap6, .slice a6 nc k6]) (((Keeps.refl _ wr).drew.alloc (.cells #[.int .i64 ek, .int .i64 ei, .int .i64 en] 61)).grown HG6.out (fun b hb => .inl (.inr hb))) HB6.out HR6.out HO6.out rfl
          exact hm
        case measure => simp [intOf]; omega
      · go_simp
        refine hK.out _ _ (HH.out.alloc _) (fun hHeld => ?_)
        have HH := Lib.hid hHeld
        clear hHeld hK K
        try simp only [Act.put, List.setIfInBounds_toArray, List.set_cons_zero, List.set_cons_succ]
        have y6 : (wr.alloc (.cells #[.int .i64 ek, .int .i64 ei, .int .i64 en] 61)).drew.cell? ⟨w.heap.size + 2, 5, none⟩ = some u5 := (HM.out.b2.alloc _).drew.cell 5
        refine wpAnyH_ready (rs := [1]) (by kernel_rfl) (by simp) ?_
        refine AllReadyH.cons (o := ⟨some 22, .load 26 (.tmp 21), _, _, _, _⟩) rfl (fun K hK => ?_) AllReadyH.nil
        go_simp
        refine hK.out _ _ (HH.out) (fun hHeld => ?_)
        have HH := Lib.hid hHeld
        clear hHeld hK K
        try simp only [Act.put, List.setIfInBounds_toArray, List.set_cons_zero, List.set_cons_succ]
        refine wpAnyH_ready (rs := [22]) (by kernel_rfl) (by simp) ?_
        refine AllReadyH.cons (o := ⟨some 43, .call { callee := .builtin .append, args := #[.tmp 22, .tmp 42], argTypes := #[26, 26] }, _, _, _, _⟩) rfl (fun K hK => ?_) AllReadyH.nil
        refine step_append_lies _ rfl (.tmp 22) (.tmp 42) 26 rfl 0 61 i0 (.agg #[.int .i64 0, .int .i64 0, .int .i64 0]) 3 24 Tryd.underlying26 hi hz0 hz1 hz2 rfl (by decide) u5 k (edVs es) rfl (Row.alloc HR0.out.drew _) ⟨wr.heap.size, 0, none⟩ 1 1 [.int .i64 ek, .int .i64 ei, .int .i64 en] rfl rfl (news3 wr.drew) (one3 _ _ _) (by decide) (by unfold maxLen; omega) (by omega) (Nat.zero_le _) (wr.heap.size + 1) (by simp) ?_
        intro g6 cap6 w5 hr6 hg6 hw6 hl6
        have HG6 := Lib.hid hg6
        have e9 : edVs (es ++ [(ek, ei, en)]) = edVs es ++ [.int .i64 ek, .int .i64 ei, .int .i64 en] := by simp [edVs]
        have e8 : (es ++ [(ek, ei, en)]).length = k + 1 := by rw [List.length_append, HKL.out]; rfl
        have HR6 := Lib.hid (show Row w5 61 3 (.slice (some ⟨g6, 0, none⟩) (k + 1) cap6) (es ++ [(ek, ei, en)]).length (edVs (es ++ [(ek, ei, en)])) by rw [e8, e9]; exact hr6)
        have HO6 := Lib.hid (show ∀ b, (Value.slice (some ⟨g6, 0, none⟩) (k + 1) cap6).ownBlock = some b → w.heap.size + 3 ≤ b by
          intro b e
          simp [Value.ownBlock] at e
          subst e
          rcases hw6 with h1 | h1
          · exact HM.out.own _ h1
          · omega)
        have HB6 := Lib.hid ((HM.out.drew.b2.alloc (.cells #[.int .i64 ek, .int .i64 ei, .int .i64 en] 61)).grown hg6 howB)
        have z5 := HB6.out.frozen 5
        have z5c := HB6.out.cell 5
        clear hr6 hg6 hw6 e8 e9
        refine hK.out _ _ (HH.out.grown HG6.out (fun b hb => .inl (.inr hb))) (fun hHeld => ?_)
        have HH := Lib.hid hHeld
        clear hHeld hK K
        try simp only [Act.put, List.setIfInBounds_toArray, List.set_cons_zero, List.set_cons_succ]
        refine wpAnyH_take (i := 23) (oi := ⟨some 44, .fieldAddr 29 (.tmp 3) 3, _, _, _, _⟩) (v := ?vv22) rfl (by kernel_rfl) (by kernel_rfl) (by kernel_rfl) (fun _ _ _ h => h) (Or.inl ⟨by rfl, ?hy22⟩) HH.out ?rr22
        case hy22 => intro W hSw; go_simp; try with_reducible rfl
        try simp only [Act.put, List.setIfInBounds_toArray, List.set_cons_zero, List.set_cons_succ]
        refine wpAnyH_ready (rs := [24]) (by kernel_rfl) (by simp) ?_
        refine AllReadyH.cons (o := ⟨none, .store 26 (.tmp 44) (.tmp 43), _, _, _, _⟩) rfl (fun K hK => ?_) AllReadyH.nil
        go_simp
        refine hK.out _ _ (HH.out.setCell (p := ⟨w.heap.size + 2, 5, none⟩) (.inl (.inl rfl)) _) (fun hHeld => ?_)
        have HH := Lib.hid hHeld
        clear hHeld hK K
        try simp only [Act.put, List.setIfInBounds_toArray, List.set_cons_zero, List.set_cons_succ]
        refine wpAnyH_done (by kernel_rfl) ?_ _
        go_wp2_with fail
        go_roundw
        case rel =>
          refine ⟨k + 1, by omega, by go_num, ?_⟩
          have e1 : s.edits.take (k + 1) = es ++ [(ek, ei, en)] := by rw [List.take_add_one, HEK.out, HES.out]; rfl
          rw [e1]
          refine ⟨.slice (some ⟨g6, 0, none⟩) (k + 1) cap6, ?_⟩
          have hm := HM.out.more (e := (ek, ei, en)) (cp' := #[.slice a0 np k0, .slice a1 nq k1, .int .i64 s.table, .bool s.skip, .int .i64 s.every, .slice (some ⟨g6, 0, none⟩) (k + 1) cap6, .slice a6 nc k6]) (((Keeps.refl _ wr).drew.alloc (.cells #[.int .i64 ek, .int .i64 ei, .int .i64 en] 61)).grown HG6.out (fun b hb => .inl (.inr hb))) HB6.out HR6.out HO6.out rfl
          exact hm
        case measure => simp [intOf]; omega
    · obtain rfl : k = ne := by omega
      have x0 := HM.out.b2.cell
      have HF := Lib.hid (show es = s.edits by rw [← HES.out, ← HNE.out, List.take_length])
      have HB2 := Lib.hid HM.out.b2
      have HB1 := Lib.hid HM.out.b1
      have HRow := Lib.hid (show Row wr 61 3 u5 k (edVs s.edits) by have := HR0.out; rw [HF.out] at this; exact this)
      have HLow := Lib.hid HM.out.low
      have HOwn := Lib.hid HM.out.own
      have hb1 := HB2.out.lt
      clear x0 HM
      obtain ⟨A5, q5, rfl, _⟩ := HRow.out.form
      have HONE := Lib.hid (show (#[.slice a0 np k0, .slice a1 nq k1, .int .i64 s.table, .bool s.skip, .int .i64 s.every, .slice A5 k q5, .slice a6 nc k6] : Array Value).all (·.oneCell') = true by simp [Array.all_eq_true', Value.oneCell'])
      go_wp2_with (first
        | ((with_reducible refine at_op ⟨some 45, _, _, _, _, _⟩ ?_); refine wpList_load_row rfl 29 (.tmp 3) rfl (w.heap.size + 2) rfl 29 #[.slice a0 np k0, .slice a1 nq k1, .int .i64 s.table, .bool s.skip, .int .i64 s.every, .slice A5 k q5, .slice a6 nc k6] (0, 0) _ HB2.out Tryd.underlying29 rfl (by kernel_rfl) ?_)
        | ((with_reducible refine at_op ⟨none, .store 29 (.tmp 2) (.tmp 45), _, _, _, _⟩ ?_); refine wpList_store_row rfl 29 (.tmp 2) (.tmp 45) rfl (w.heap.size + 1) #[.slice a0 np k0, .slice a1 nq k1, .int .i64 s.table, .bool s.skip, .int .i64 s.every, .slice A5 k q5, .slice a6 nc k6] rfl rfl 29 _ HB1.out (by kernel_rfl) rfl HONE.out ?_))
      (try simp only [Exit.inBlock, Exit.then])
      refine mine_end (H := w.heap.size + 1) rfl rfl (HB1.out.setRow #[.slice a0 np k0, .slice a1 nq k1, .int .i64 s.table, .bool s.skip, .int .i64 s.every, .slice A5 k q5, .slice a6 nc k6]) rfl ?_
      have HPW := Lib.hid (show Pure' w (wr.setRow (w.heap.size + 1) #[.slice a0 np k0, .slice a1 nq k1, .int .i64 s.table, .bool s.skip, .int .i64 s.every, .slice A5 k q5, .slice a6 nc k6]) from HLow.out.setRow (.inr (by omega)) _)
      refine ⟨.slice A5 k q5, rfl, ?_, HPW.out⟩
      have hs := HSc.out.pure HPW.out
      refine ⟨hs.p0, hs.p1, ?_, hs.p6⟩
      have hr := (HRow.out.setRow (k := w.heap.size + 1) (fun e => by have := HOwn.out _ e; omega) #[.slice a0 np k0, .slice a1 nq k1, .int .i64 s.table, .bool s.skip, .int .i64 s.every, .slice A5 k q5, .slice a6 nc k6]).seesV
      rw [HNE.out]
      exact hr

end Go.Proofs.YtjcjmjnajhkdaaaDoor
