/- What a walk tells; what is told of a part is what the reference says; the law's example; no condition but the sizes. -/
import Derived.Test.YtkbdfnmeomkpjaaGreatWlkA
namespace Go.Proofs.YtkbdfnmeomkpjaaGreat
open Go.RowKit
set_option linter.unusedVariables false
set_option linter.unusedSimpArgs false
set_option maxRecDepth 100000
attribute [local go_sem] gmax2 gmin2 gmax_two gmin_two

theorem feed_is (l : List (List UInt8)) (s t : List UInt8) : feedL l (s ++ t) (s.length : Int) = progL l s t := by
  unfold feedL allL allE progL
  rw [List.length_append, show s.length + t.length + 1 = (s.length + 1) + t.length by omega, List.range_add, List.flatMap_append, List.filter_append]
  have h1 : ((List.range (s.length + 1)).flatMap fun e => rowK l (s ++ t) e l.length).filter (fun x => decide ((s.length : Int) < (x.1 : Int))) = [] := by
    rw [List.filter_eq_nil_iff]
    intro x hx
    obtain ⟨e, he, hx⟩ := List.mem_flatMap.1 hx
    have he := List.mem_range.1 he
    unfold rowK at hx
    obtain ⟨i, _, rfl⟩ := List.mem_map.1 hx
    simp
    omega
  rw [h1, List.nil_append, List.flatMap_map, List.filter_flatMap, List.flatMap_def, List.flatMap_def]
  congr 1
  refine List.map_congr_left fun i hi => ?_
  have hi := List.mem_range.1 hi
  have e1 : (s ++ t).take (s.length + 1 + i) = s ++ t.take (i + 1) := by
    rw [show s.length + 1 + i = s.length + (i + 1) by omega, List.take_append, List.take_of_length_le (by omega)]
    simp
  rw [rowK_hits (by rw [List.length_append]; omega), e1, show s.length + 1 + i = s.length + i + 1 by omega, List.filter_eq_self]
  intro x hx
  obtain ⟨k, _, rfl⟩ := List.mem_map.1 hx
  simp
  omega
theorem allL_len (l : List (List UInt8)) (s : List UInt8) : (allL l s).length ≤ (s.length + 1) * l.length := by
  have key : ∀ n, (allE l s n).length ≤ n * l.length := by
    intro n
    induction n with
    | zero => simp [allE]
    | succ n ih =>
      rw [allE_succ, List.length_append, Nat.succ_mul]
      have := rowK_len l s n l.length
      omega
  exact key _
theorem progL_len (l : List (List UInt8)) (s t : List UInt8) : (progL l s t).length ≤ (s.length + t.length + 1) * l.length := by
  rw [← feed_is]
  refine Nat.le_trans (List.length_filter_le _ _) ?_
  have := allL_len l (s ++ t)
  rw [List.length_append] at this
  exact this

/-! ### What a walk tells -/
set_option maxHeartbeats 1000000 in
theorem wseen_ (g : Nat) (kind : Int) (l : List (List UInt8)) (s : List UInt8) (nh : Nat) (w : World) (h : WalkI w g kind l s nh) : Calls Tryz.prog 29 #[.pointer (some ⟨g, 0, none⟩)] w fun e w' => e = .returned (.int .i64 (s.length : Int)) ∧ w' = w := by
  obtain ⟨ag, w0, _, _, _, hb⟩ := h
  have x2 := hb.cell 2
  unfold wkC at x2
  clear hb
  generalize s.length = n at *
  go_enter Tryz.func29, Tryz.ntmps29
  go_wp2
  go_ret
  exact ⟨rfl, rfl⟩
set_option maxHeartbeats 1000000 in
theorem whits_ (g : Nat) (kind : Int) (l : List (List UInt8)) (s : List UInt8) (nh : Nat) (w : World) (h : WalkI w g kind l s nh) : Calls Tryz.prog 31 #[.pointer (some ⟨g, 0, none⟩)] w fun e w' => e = .returned (.int .i64 (nh : Int)) ∧ w' = w := by
  obtain ⟨ag, w0, _, _, _, hb⟩ := h
  have x3 := hb.cell 3
  unfold wkC at x3
  clear hb
  go_enter Tryz.func31, Tryz.ntmps31
  go_wp2
  go_ret
  exact ⟨rfl, rfl⟩
set_option maxHeartbeats 2000000 in
theorem wopen_ (g : Nat) (kind : Int) (l : List (List UInt8)) (s : List UInt8) (nh : Nat) (w : World) (h : WalkI w g kind l s nh) : Calls Tryz.prog 30 #[.pointer (some ⟨g, 0, none⟩)] w fun e w' => e = .returned (.int .i64 (openV l s : Int)) ∧ Pure' w w' := by
  obtain ⟨ag, w0, ha, hp, _, hb⟩ := h
  have HD := Lib.hid (fun (X : World) (hX : Pure' w X) => by
    have := adepth_ ag kind l (runZ l 0 s) X (ha.pure (hp.trans hX (fun _ _ hf => hf)))
    rw [run_depth ha.sts] at this
    exact this)
  obtain ⟨z, hz⟩ : ∃ z, runZ l 0 s = z := ⟨_, rfl⟩
  rw [hz] at HD hb
  have HC := Lib.hid (fun (X : World) (hX : Pure' w X) => show X.cell? ⟨g, 0, none⟩ = some (.pointer (some ⟨ag, 0, none⟩)) ∧ X.cell? ⟨g, 1, none⟩ = some (.int .i64 z) from by
    have := hb.keep hX (fun hf => hf)
    exact ⟨by rw [this.cell]; rfl, by rw [this.cell]; rfl⟩)
  generalize openV l s = q at *
  clear ha hp hb hz
  go_enter Tryz.func30, Tryz.ntmps30
  go_wp2
  refine wp_region_held_drew (S := (fun X => Pure' w X)) (by kernel_rfl) ((Keeps.refl _ w).drew) (fun hHeld => ?_)
  have HH := Lib.hid hHeld
  clear hHeld
  refine wpAnyH_take (i := 0) (oi := ⟨some 5, .move (.tmp 0), _, _, _, _⟩) (v := ?vv1) rfl (by kernel_rfl) (by kernel_rfl) (by kernel_rfl) (fun _ _ _ h => h) (Or.inl ⟨by rfl, ?hy1⟩) HH.out ?rr1
  case hy1 => intro W hSw; go_simp; try with_reducible rfl
  try simp only [Act.put, List.setIfInBounds_toArray, List.set_cons_zero, List.set_cons_succ]
  refine wpAnyH_take (i := 1) (oi := ⟨some 6, .nilCheck (.tmp 5), _, _, _, _⟩) (v := ?vv2) rfl (by kernel_rfl) (by kernel_rfl) (by kernel_rfl) (fun _ _ _ h => h) (Or.inl ⟨by rfl, ?hy2⟩) HH.out ?rr2
  case hy2 => intro W hSw; go_simp; try with_reducible rfl
  try simp only [Act.put, List.setIfInBounds_toArray, List.set_cons_zero, List.set_cons_succ]
  refine wpAnyH_take (i := 2) (oi := ⟨some 7, .fieldAddr 108 (.tmp 6) 0, _, _, _, _⟩) (v := ?vv3) rfl (by kernel_rfl) (by kernel_rfl) (by kernel_rfl) (fun _ _ _ h => h) (Or.inl ⟨by rfl, ?hy3⟩) HH.out ?rr3
  case hy3 => intro W hSw; go_simp; try with_reducible rfl
  try simp only [Act.put, List.setIfInBounds_toArray, List.set_cons_zero, List.set_cons_succ]
  refine wpAnyH_take (i := 3) (oi := ⟨some 8, .load 104 (.tmp 7), _, _, _, _⟩) (v := ?vv4) rfl (by kernel_rfl) (by kernel_rfl) (by kernel_rfl) (fun _ _ _ h => h) (Or.inl ⟨by rfl, ?hy4⟩) HH.out ?rr4
  case hy4 => intro W hSw; have y := (HC.out W hSw).1; go_simp; try with_reducible rfl
  try simp only [Act.put, List.setIfInBounds_toArray, List.set_cons_zero, List.set_cons_succ]
  refine wpAnyH_take (i := 4) (oi := ⟨some 9, .move (.tmp 0), _, _, _, _⟩) (v := ?vv5) rfl (by kernel_rfl) (by kernel_rfl) (by kernel_rfl) (fun _ _ _ h => h) (Or.inl ⟨by rfl, ?hy5⟩) HH.out ?rr5
  case hy5 => intro W hSw; go_simp; try with_reducible rfl
  try simp only [Act.put, List.setIfInBounds_toArray, List.set_cons_zero, List.set_cons_succ]
  refine wpAnyH_take (i := 5) (oi := ⟨some 10, .nilCheck (.tmp 9), _, _, _, _⟩) (v := ?vv6) rfl (by kernel_rfl) (by kernel_rfl) (by kernel_rfl) (fun _ _ _ h => h) (Or.inl ⟨by rfl, ?hy6⟩) HH.out ?rr6
  case hy6 => intro W hSw; go_simp; try with_reducible rfl
  try simp only [Act.put, List.setIfInBounds_toArray, List.set_cons_zero, List.set_cons_succ]
  refine wpAnyH_take (i := 6) (oi := ⟨some 11, .fieldAddr 108 (.tmp 10) 1, _, _, _, _⟩) (v := ?vv7) rfl (by kernel_rfl) (by kernel_rfl) (by kernel_rfl) (fun _ _ _ h => h) (Or.inl ⟨by rfl, ?hy7⟩) HH.out ?rr7
  case hy7 => intro W hSw; go_simp; try with_reducible rfl
  try simp only [Act.put, List.setIfInBounds_toArray, List.set_cons_zero, List.set_cons_succ]
  refine wpAnyH_take (i := 7) (oi := ⟨some 12, .load 3 (.tmp 11), _, _, _, _⟩) (v := ?vv8) rfl (by kernel_rfl) (by kernel_rfl) (by kernel_rfl) (fun _ _ _ h => h) (Or.inl ⟨by rfl, ?hy8⟩) HH.out ?rr8
  case hy8 => intro W hSw; have y := (HC.out W hSw).2; go_simp; try with_reducible rfl
  try simp only [Act.put, List.setIfInBounds_toArray, List.set_cons_zero, List.set_cons_succ]
  refine wpAnyH_ready (rs := [8]) (by kernel_rfl) (by simp) ?_
  refine AllReadyH.cons (o := ⟨some 13, .call { callee := .value (.func 73), args := #[.tmp 8, .tmp 12], argTypes := #[104, 3] }, _, _, _, _⟩) rfl (fun K hK => ?_) AllReadyH.nil
  go_simp
  go_at_call 73
  refine (HD.out _ HH.out).mono ?_
  rintro e wC ⟨rfl, rfl⟩
  go_wp2_with fail
  refine hK.out _ _ (HH.out) (fun hHeld => ?_)
  have HH := Lib.hid hHeld
  clear hHeld hK K
  try simp only [Act.put, List.setIfInBounds_toArray, List.set_cons_zero, List.set_cons_succ]
  refine wpAnyH_take (i := 9) (oi := ⟨some 2, .assign (.tmp 13), _, _, _, _⟩) (v := ?vv9) rfl (by kernel_rfl) (by kernel_rfl) (by kernel_rfl) (fun _ _ _ h => h) (Or.inl ⟨by rfl, ?hy9⟩) HH.out ?rr9
  case hy9 => intro W hSw; go_simp; try with_reducible rfl
  try simp only [Act.put, List.setIfInBounds_toArray, List.set_cons_zero, List.set_cons_succ]
  refine wpAnyH_done (by kernel_rfl) ?_ _
  go_wp2
  go_ret
  exact ⟨rfl, HH.out⟩
set_option maxHeartbeats 1000000 in
theorem wclear_ (g : Nat) (kind : Int) (l : List (List UInt8)) (s : List UInt8) (nh : Nat) (k : Int) (w : World) (h : WalkI w g kind l s nh) (hk : 0 ≤ k ∧ k ≤ 9223372036854775807) (ho : openV l s ≤ 1000000) :
    Calls Tryz.prog 35 #[.pointer (some ⟨g, 0, none⟩), .int .i64 k] w fun e w' => e = .returned (.int .i64 (max 0 (k - 1 - (openV l s : Int)))) ∧ Pure' w w' := by
  have HO := Lib.hid (wopen_ g kind l s nh w h)
  clear h
  generalize openV l s = q at *
  have e1 : IntKind.i64.wrap (k - 1) = k - 1 := by rw [IntKind.wrap_i64]; omega
  have E2 := Lib.hid (show IntKind.i64.wrap (k - 1 - (q : Int)) = k - 1 - (q : Int) by rw [IntKind.wrap_i64]; omega)
  have e2 := E2.out
  go_enter Tryz.func35, Tryz.ntmps35
  go_wp2_with fail
  refine HO.out.mono ?_
  rintro e w1 ⟨rfl, hk⟩
  have HK := Lib.hid hk
  clear hk
  go_wp2
  go_ret
  exact ⟨rfl, HK.out⟩

set_option maxHeartbeats 1000000 in
theorem wfeed_nil (t : ByteArray) (w : World) : Calls Tryz.prog 28 #[.pointer none, .string t] w fun e w' => e = .returned (.slice none 0 0) ∧ w' = w := by
  go_enter Tryz.func28, Tryz.ntmps28
  go_wp2
  go_ret
  exact ⟨rfl, rfl⟩
set_option maxHeartbeats 1000000 in
theorem wseen_nil (w : World) : Calls Tryz.prog 29 #[.pointer none] w fun e w' => e = .returned (.int .i64 0) ∧ w' = w := by
  go_enter Tryz.func29, Tryz.ntmps29
  go_wp2
  go_ret
  exact ⟨rfl, rfl⟩
set_option maxHeartbeats 1000000 in
theorem wopen_nil (w : World) : Calls Tryz.prog 30 #[.pointer none] w fun e w' => e = .returned (.int .i64 0) ∧ w' = w := by
  go_enter Tryz.func30, Tryz.ntmps30
  go_wp2
  go_ret
  exact ⟨rfl, rfl⟩
set_option maxHeartbeats 1000000 in
theorem whits_nil (w : World) : Calls Tryz.prog 31 #[.pointer none] w fun e w' => e = .returned (.int .i64 0) ∧ w' = w := by
  go_enter Tryz.func31, Tryz.ntmps31
  go_wp2
  go_ret
  exact ⟨rfl, rfl⟩

/-! ### The example -/
theorem sees_newN (w : World) (e : TypeId) (us : List Value) (n size : Nat) (hn : us.length = n * size) : Sees (w.alloc (.cells us.toArray e)) (w.alloc (.cells us.toArray e)).heap.size size (some ⟨w.heap.size, 0, none⟩) n us := by
  refine ⟨hn, fun _ => ⟨_, rfl, ?_, fun j u hu => ?_⟩⟩
  · show w.heap.size < (w.heap.push _).size
    rw [Array.size_push]; exact Nat.lt_succ_self _
  · rw [Addr.add_mid, Nat.zero_add, (Blk.new w e us.toArray).cell]
    simpa using hu
def AW2 : List (List UInt8) := [[104, 101], [115, 104, 101]]
def awl2 : List ByteArray := [⟨#[104, 101]⟩, ⟨#[115, 104, 101]⟩]
theorem awl2_ok : OkL awl2 := ⟨by simp [awl2], by decide, by decide⟩
theorem aw2_only {lp : List ByteArray} (h : lp.Perm awl2) (ho : (bl lp).Pairwise (· < ·)) : bl lp = AW2 := by
  have hp : (bl lp).Perm AW2 := h.map _
  exact hp.eq_of_pairwise (le := fun a b => a < b) (fun a b _ _ h1 h2 => absurd h2 (lt_as h1)) ho (by decide)
theorem aw2_states : statesL AW2 = [[], [104], [115], [104, 101], [115, 104], [115, 104, 101]] := by decide
theorem aw2_p1 : progL AW2 [] [120, 115, 104] = [] := by decide
theorem aw2_p2 : progL AW2 [120, 115, 104] [101] = [(4, 0), (4, 1)] := by decide
theorem aw2_open : openV AW2 [120, 115, 104] = 2 := by unfold openV; rw [aw2_states]; decide

set_option maxHeartbeats 4000000 in
theorem awake23_ (w : World) : Calls Tryz.prog 26 #[] w fun e w' => e = .returned (.bool true) ∧ Pure' w w' := by
  have HNEW := Lib.hid (new_ (some ⟨w.heap.size, 0, none⟩) 2 2 _ awl2 (w.alloc (.cells #[.string ⟨#[104, 101]⟩, .string ⟨#[115, 104, 101]⟩] 9)) (sees_new w 9 _ 2 rfl) (Nat.le_refl _) (by decide) (by decide))
  go_enter Tryz.func26, Tryz.ntmps26
  go_wp2_with fail
  refine HNEW.out.mono ?_
  rintro e w1 ⟨x, er, lp, rfl, hc, hset, hk⟩
  rcases hc with ⟨_, rfl, hp, ho⟩ | ⟨hno, _⟩
  case inr => exact absurd awl2_ok hno
  have hord := new_ord (l := awl2) (lp := lp) (.inl ⟨awl2_ok, hp, ho⟩)
  have hfew := new_few (l := awl2) (lp := lp) (N := 12) (M := 20) (.inl hp) (by decide) (by decide)
  have hbl := aw2_only hp hord.1
  have HK1 := Lib.hid (((Keeps.refl (fun _ => False) w).alloc _).trans hk (fun _ _ hf => hf))
  have HNA := Lib.hid (by
    have := newWalk_ x lp 3 w1 hset hfew.1 hfew.2 hord.1 hord.2
    rw [hbl] at this
    exact this)
  clear hp ho hord hfew hbl hk hset HNEW
  go_wp2_with fail
  refine HNA.out.mono ?_
  rintro e w2 ⟨hcase, hk⟩
  rcases hcase with ⟨_, _, g, rfl, ha, hg⟩ | ⟨hno, _⟩
  case inr => exact absurd ⟨by decide, by decide⟩ hno
  have HA := Lib.hid ha
  have HK2 := Lib.hid hk
  have HG := Lib.hid hg
  clear ha hk HNA hg
  go_wp2_with fail
  refine (feed_ g 3 AW2 [] [120, 115, 104] 0 w2 HA.out (by decide) (by decide) (by decide)).mono ?_
  rintro e w3 ⟨A5, c5, rfl, hf, hw, _⟩
  rw [aw2_p1] at hf hw ⊢
  have HW3 := Lib.hid (show WalkI w3 g 3 AW2 [120, 115, 104] 0 from hw)
  have HK3 := Lib.hid (show Pure' w1 w3 from HK2.out.trans hf.keeps (fun b hb e => by have := HG.out; have e : b = g := e; omega))
  clear hf hw HA
  have HOP := Lib.hid (by have := wopen_ g 3 AW2 [120, 115, 104] 0 w3 HW3.out; rw [aw2_open] at this; exact this)
  go_wp2_with fail
  refine HOP.out.mono ?_
  rintro e w4 ⟨rfl, hk⟩
  have HW4 := Lib.hid (HW3.out.pure hk)
  have HK4 := Lib.hid (HK3.out.trans hk (fun _ _ hf => hf))
  clear hk HOP HW3
  go_wp2_with fail
  refine (feed_ g 3 AW2 [120, 115, 104] [101] 0 w4 HW4.out (by decide) (by decide) (by decide)).mono ?_
  rintro e w5 ⟨A7, c7, rfl, hf, hw, _⟩
  rw [aw2_p2] at hf hw ⊢
  have HW5 := Lib.hid (show WalkI w5 g 3 AW2 [120, 115, 104, 101] 2 from hw)
  have HK5 := Lib.hid (show Pure' w1 w5 from HK4.out.trans hf.keeps (fun b hb e => by have := HG.out; have e : b = g := e; omega))
  have HR5 := Lib.hid (show Row w5 103 2 (.slice A7 2 c7) 2 (htVs [(4, 0), (4, 1)]) from hf.row)
  clear hf hw HW4
  have HSA := Lib.hid (hsame_ A7 (some ⟨w5.heap.size, 0, none⟩) 2 c7 2 w5.heap.size _ [(4, 0), (4, 1)] (w5.alloc (.cells #[.int .i64 4, .int .i64 0, .int .i64 4, .int .i64 1] 103)) (HR5.out.sees.pure ((Keeps.refl _ w5).alloc _) (Nat.le_refl _)) (sees_newN w5 103 [.int .i64 4, .int .i64 0, .int .i64 4, .int .i64 1] 2 2 rfl) (by decide))
  go_wp2_with fail
  refine HSA.out.mono ?_
  rintro e w6 ⟨rfl, hk⟩
  have HK56 := Lib.hid (((Keeps.refl (fun _ => False) w5).alloc (.cells #[.int .i64 4, .int .i64 0, .int .i64 4, .int .i64 1] 103)).trans hk (fun _ _ hf => hf))
  clear hk
  go_wp2_with fail
  refine (wseen_ g 3 AW2 [120, 115, 104, 101] 2 w6 (HW5.out.pure HK56.out)).mono ?_
  rintro e w7 ⟨rfl, rfl⟩
  go_wp2
  go_ret
  exact ⟨rfl, HK1.out.trans (HK5.out.trans HK56.out (fun _ _ hf => hf)) (fun _ _ hf => hf)⟩

end Go.Proofs.YtkbdfnmeomkpjaaGreat
