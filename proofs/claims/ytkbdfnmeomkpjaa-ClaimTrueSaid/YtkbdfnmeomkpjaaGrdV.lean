/- The chapter's examples of a guard, and what the scanner's tables tell against what the checker lets be; no condition but the sizes. -/
import Derived.Test.YtkbdfnmeomkpjaaGrdU
namespace Go.Proofs.Ytkbdfnmeomkpjaa
open Go.RowKit
set_option linter.unusedVariables false
set_option linter.unusedSimpArgs false
set_option maxRecDepth 100000

def AWg : List (List UInt8) := [[97, 98, 99], [98, 99]]
def awlg : List ByteArray := [⟨#[97, 98, 99]⟩, ⟨#[98, 99]⟩]
theorem awlg_ok : OkL awlg := ⟨by simp [awlg], by decide, by decide⟩
theorem awg_only {lp : List ByteArray} (h : lp.Perm awlg) (ho : (bl lp).Pairwise (· < ·)) : bl lp = AWg := by
  have hp : (bl lp).Perm AWg := h.map _
  exact hp.eq_of_pairwise (le := fun a b => a < b) (fun a b _ _ h1 h2 => absurd h2 (lt_as h1)) ho (by decide)
theorem u8_of {a : Int} (h : 0 ≤ a ∧ a ≤ 255) : ∃ c : UInt8, a = (c.toNat : Int) := ⟨UInt8.ofNat a.toNat, by simp; omega⟩
set_option maxHeartbeats 4000000 in
theorem awake34_ (w : World) : Calls Try.prog 11 #[] w fun e w' => e = .returned (.bool true) ∧ Pure' w w' := by
  have HNEW := Lib.hid (new_ (some ⟨w.heap.size, 0, none⟩) 2 2 _ awlg (w.alloc (.cells #[.string ⟨#[97, 98, 99]⟩, .string ⟨#[98, 99]⟩] 9)) (lst_new w 9 _ 2 rfl) (Nat.le_refl _) (by decide) (by decide))
  go_enter Try.func11, Try.ntmps11
  go_wp2_with fail
  refine HNEW.out.mono ?_
  rintro e w1 ⟨x, er, lp, rfl, hc, hset, hk⟩
  rcases hc with ⟨_, rfl, hp, ho⟩ | ⟨hno, _⟩
  case inr => exact absurd awlg_ok hno
  have hord := lst_ord (l := awlg) (lp := lp) (.inl ⟨awlg_ok, hp, ho⟩)
  have hfew := lst_few (l := awlg) (lp := lp) (N := 12) (M := 20) (.inl hp) (by decide) (by decide)
  have hbl := awg_only hp hord.1
  have hml : minL lp = 2 := by rw [minL_perm hp]; decide
  have HK1 := Lib.hid (((Keeps.refl (fun _ => False) w).alloc _).trans hk (fun _ _ hf => hf))
  have hng := newGuard_ x lp w1 hset hfew.1 hfew.2 hord.2
  rw [hbl, hml] at hng
  have HNG := Lib.hid hng
  clear hp ho hord hfew hbl hk hset HNEW hml hng
  go_wp2_with fail
  refine HNG.out.mono ?_
  rintro e w2 ⟨g, rfl, _, hg, hk⟩
  have HG := Lib.hid (fun (W : World) (hW : Pure' w2 W) => hg.pure hW)
  have HK2 := Lib.hid (HK1.out.trans hk (fun _ _ hf => hf))
  clear hg hk HNG
  have HS1 := Lib.hid (fun (W : World) (hW : Pure' w2 W) => (skips_ _ g 2 x AWg 98 1 W (HG.out W hW) (by decide)).mono (fun e w' (h : _ ∧ _) => (show e = .returned (.bool true) ∧ Pure' W w' from ⟨h.1.trans (by rw [show skipB AWg 2 98 1 = true by decide]), h.2⟩)))
  have HS2 := Lib.hid (fun (W : World) (hW : Pure' w2 W) => (skips_ _ g 2 x AWg 98 2 W (HG.out W hW) (by decide)).mono (fun e w' (h : _ ∧ _) => (show e = .returned (.bool false) ∧ Pure' W w' from ⟨h.1.trans (by rw [show skipB AWg 2 98 2 = false by decide]), h.2⟩)))
  have HS3 := Lib.hid (fun (W : World) (hW : Pure' w2 W) => (skips_ _ g 2 x AWg 120 2 W (HG.out W hW) (by decide)).mono (fun e w' (h : _ ∧ _) => (show e = .returned (.bool true) ∧ Pure' W w' from ⟨h.1.trans (by rw [show skipB AWg 2 120 2 = true by decide]), h.2⟩)))
  have HS4 := Lib.hid (fun (W : World) (hW : Pure' w2 W) => (skips_ _ g 2 x AWg 120 3 W (HG.out W hW) (by decide)).mono (fun e w' (h : _ ∧ _) => (show e = .returned (.bool false) ∧ Pure' W w' from ⟨h.1.trans (by rw [show skipB AWg 2 120 3 = false by decide]), h.2⟩)))
  have HEN := Lib.hid (fun (W : World) (hW : Pure' w2 W) => (show Calls Try.prog 22 #[.pointer (some ⟨g, 0, none⟩), .int .u8 99] W (IdsPost [0, 1] W) by
    have := ending_ _ g 2 x AWg 99 W (HG.out W hW) (by decide)
    rw [show endK AWg (99 : UInt8).toNat AWg.length = [0, 1] by decide] at this
    exact this))
  go_wp2_with fail
  refine (HS1.out w2 (Keeps.refl _ _)).mono ?_
  rintro e w3 ⟨rfl, hk⟩
  have HK3 := Lib.hid hk
  clear hk
  go_wp2_with fail
  refine (HS2.out w3 HK3.out).mono ?_
  rintro e w4 ⟨rfl, hk⟩
  have HK4 := Lib.hid (HK3.out.trans hk (fun _ _ hf => hf))
  clear hk
  go_wp2_with fail
  refine (HS3.out w4 HK4.out).mono ?_
  rintro e w5 ⟨rfl, hk⟩
  have HK5 := Lib.hid (HK4.out.trans hk (fun _ _ hf => hf))
  clear hk
  go_wp2_with fail
  refine (HS4.out w5 HK5.out).mono ?_
  rintro e w6 ⟨rfl, hk⟩
  have HK6 := Lib.hid (HK5.out.trans hk (fun _ _ hf => hf))
  clear hk
  go_wp2_with fail
  refine (HEN.out w6 HK6.out).mono ?_
  rintro e w7 ⟨A7, cp7, rfl, hr, _, hk⟩
  have hse : Sees w7 w7.heap.size 1 A7 2 (([0, 1] : List Int).map (Value.int .i64)) := hr.sees
  have HSA := Lib.hid (lst_same A7 (some ⟨w7.heap.size, 0, none⟩) 2 2 cp7 2 w7.heap.size _ [0, 1] [0, 1] (w7.alloc (.cells #[.int .i64 0, .int .i64 1] 3)) (hse.pure ((Keeps.refl _ w7).alloc _) (Nat.le_refl _)) (lst_new w7 3 _ 2 rfl) (by decide) (by decide))
  rw [decide_eq_true rfl] at HSA
  have HK7 := Lib.hid (HK6.out.trans hk (fun _ _ hf => hf))
  clear hr hk hse
  go_wp2_with fail
  refine HSA.out.mono ?_
  rintro e w8 ⟨rfl, hk⟩
  have HK8 := Lib.hid ((HK7.out.alloc (.cells #[.int .i64 0, .int .i64 1] 3)).trans (lst_dn hk) (fun _ _ hf => hf))
  clear hk
  go_wp2
  go_ret
  exact ⟨rfl, HK2.out.trans HK8.out (fun _ _ hf => hf)⟩
theorem skip_first {l : List (List UInt8)} {m n1 : Nat} {ch : UInt8} (h : FirstP l ch m n1) (i : Nat) : skipB l m ch (i : Int) = (decide (1 ≤ i) && decide (i ≤ n1)) := by
  obtain ⟨h1, h2, h3⟩ := h
  by_cases hi : 1 ≤ i
  · by_cases hm : i ≤ m
    · rw [skipB_in ch hi hm, decide_eq_true hi, Bool.true_and]
      by_cases hn : i ≤ n1
      · rw [decide_eq_true hn]
        have : (List.range i).any (fun d => hasD l ch d) = false := by
          rw [List.any_eq_false]
          intro d hd
          have hd := List.mem_range.1 hd
          rw [h2 d (by omega)]; decide
        rw [this]; rfl
      · rw [decide_eq_false hn]
        have : (List.range i).any (fun d => hasD l ch d) = true := List.any_eq_true.2 ⟨n1, List.mem_range.2 (by omega), h3 (by omega)⟩
        rw [this]; rfl
    · rw [skipB_out ch (.inr (by omega)), decide_eq_false (p := i ≤ n1) (by omega), Bool.and_false]
  · rw [skipB_out ch (.inl (by omega)), decide_eq_false hi]; rfl
theorem leap_near {l : List (List UInt8)} {m n1 : Nat} {a ch : UInt8} (h : NearP l a ch (m - 1) n1) (i : Nat) : leapB l m a ch (i : Int) = (decide (1 ≤ i) && decide (i ≤ n1)) := by
  obtain ⟨h1, h2, h3⟩ := h
  by_cases hi : 1 ≤ i
  · by_cases hm : i ≤ m - 1
    · rw [leapB_in a ch hi hm, decide_eq_true hi, Bool.true_and]
      by_cases hn : i ≤ n1
      · rw [decide_eq_true hn]
        have : (List.range i).any (fun d => hasP l a ch d) = false := by
          rw [List.any_eq_false]
          intro d hd
          have hd := List.mem_range.1 hd
          rw [h2 d (by omega)]; decide
        rw [this]; rfl
      · rw [decide_eq_false hn]
        have : (List.range i).any (fun d => hasP l a ch d) = true := List.any_eq_true.2 ⟨n1, List.mem_range.2 (by omega), h3 (by omega)⟩
        rw [this]; rfl
    · rw [leapB_out a ch (.inr (by omega)), decide_eq_false (p := i ≤ n1) (by omega), Bool.and_false]
  · rw [leapB_out a ch (.inl (by omega)), decide_eq_false hi]; rfl
end Go.Proofs.Ytkbdfnmeomkpjaa
