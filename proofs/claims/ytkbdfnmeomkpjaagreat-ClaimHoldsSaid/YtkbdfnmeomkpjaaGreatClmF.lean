/- How many ends a record covers; the chapter's examples of a sight; no condition. -/
import Derived.Test.YtkbdfnmeomkpjaaGreatClmE
namespace Go.Proofs.YtkbdfnmeomkpjaaGreat
open Go.RowKit
set_option linter.unusedVariables false
set_option linter.unusedSimpArgs false
set_option maxRecDepth 100000

theorem aw_ho {lp : List ByteArray} (hbl : bl lp = AWg) (hml : minL lp = 2) : hoB lp [120, 97, 98, 99] 4 0 [0, 1] = true ∧ hoB lp [120, 97, 98, 99] 4 0 [1] = false ∧ hoB lp [120, 97, 98, 99] 1 1 [] = false := by
  have hs : sfx lp [120, 97, 98, 99] = fun i => decide (AWg.getD i [] <:+ [120, 97, 98, 99]) := by
    funext i; unfold sfx; rw [hbl]
  have e4 : ∀ zs, hoB lp [120, 97, 98, 99] 4 0 zs = decide (zs = (idB lp [120, 97, 98, 99]).map (fun (i : Nat) => (i : Int))) := fun zs => by
    unfold hoB
    rw [if_neg (by decide), if_neg (by simp), if_neg (by decide), if_neg (by decide), if_neg (by decide), if_pos rfl, decide_eq_true rfl, Bool.true_and]
  have e1 : hoB lp [120, 97, 98, 99] 1 1 [] = skB lp [120, 97, 98, 99] 1 := by
    unfold hoB
    rw [if_neg (by decide), if_neg (by simp)]
    rfl
  have ei : idB lp [120, 97, 98, 99] = [0, 1] := by
    unfold idB
    rw [hs, hbl]
    decide
  refine ⟨?_, ?_, ?_⟩
  · rw [e4, ei]; decide
  · rw [e4, ei]; decide
  · rw [e1]
    unfold skB
    rw [hbl, hml]
    decide
set_option maxHeartbeats 4000000 in
theorem awake36_ (w : World) : Calls Tryz.prog 8 #[] w fun e w' => e = .returned (.bool true) ∧ Pure' w w' := by
  have HSI := Lib.hid (sight_ (some ⟨w.heap.size, 0, none⟩) 2 2 _ awlg [120, 97, 98, 99] 0 (w.alloc (.cells #[.string ⟨#[97, 98, 99]⟩, .string ⟨#[98, 99]⟩] 9)) awlg_ok (lst_new w 9 _ 2 rfl) (Nat.le_refl _) (by decide) (by decide) (by decide) (by decide))
  have HK0 := Lib.hid (show Pure' w (w.alloc (.cells #[.string ⟨#[97, 98, 99]⟩, .string ⟨#[98, 99]⟩] 9)) from (Keeps.refl _ w).alloc _)
  go_enter Tryz.func8, Tryz.ntmps8
  go_wp2_with fail
  refine HSI.out.mono ?_
  rintro e w1 ⟨g, p, gr, x, lp, size, rfl, hsg, hsb, hp, ho, hk⟩
  have hord := lst_ord (l := awlg) (lp := lp) (.inl ⟨awlg_ok, hp, ho⟩)
  have hbl := awg_only hp hord.1
  have hml : minL lp = 2 := by rw [minL_perm hp]; decide
  have HHO := Lib.hid (aw_ho hbl hml)
  have HSG := Lib.hid (fun (W : World) (hW : Pure' w1 W) => hsg.pure hW)
  have HSB := Lib.hid hsb
  have HK1 := Lib.hid (HK0.out.trans hk (fun _ _ hf => hf))
  have HH := Lib.hid (fun (kind n : Int) (A : Option Addr) (k c B : Nat) (zs : List Int) (W : World) (hW : Pure' w1 W) (hz : Sees W B 1 A k (zs.map (Value.int .i64))) (hB : B ≤ W.heap.size) (hk : k ≤ 1000) => holds_ g p gr size x lp [120, 97, 98, 99] kind n 0 A k c B zs W (HSG.out W hW) HSB.out hz hB hk)
  unfold sgV rcV at HH
  unfold sgV
  clear hp ho hord hbl hml hsg hsb hk HSI HK0
  go_wp2_with fail
  have HBK := Lib.hid (show Blk ((w1.alloc (.cells #[.pointer (some ⟨g, 0, none⟩), .pointer (some ⟨p, 0, none⟩)] 34)).alloc (.cells #[.int .i64 0, .int .i64 1] 3)) w1.heap.size 34 #[.pointer (some ⟨g, 0, none⟩), .pointer (some ⟨p, 0, none⟩)] from (Blk.newAt rfl).alloc _)
  have HKA := Lib.hid (show Pure' w1 ((w1.alloc (.cells #[.pointer (some ⟨g, 0, none⟩), .pointer (some ⟨p, 0, none⟩)] 34)).alloc (.cells #[.int .i64 0, .int .i64 1] 3)) from ((Keeps.refl _ w1).alloc _).alloc _)
  have hse : Sees ((w1.alloc (.cells #[.pointer (some ⟨g, 0, none⟩), .pointer (some ⟨p, 0, none⟩)] 34)).alloc (.cells #[.int .i64 0, .int .i64 1] 3)) (w1.heap.size + 1 + 1) 1 (some ⟨w1.heap.size + 1, 0, none⟩) 2 (([0, 1] : List Int).map (Value.int .i64)) := by
    have := lst_new (w1.alloc (.cells #[.pointer (some ⟨g, 0, none⟩), .pointer (some ⟨p, 0, none⟩)] 34)) 3 [.int .i64 0, .int .i64 1] 2 rfl
    simpa using this
  refine (HH.out 4 0 _ 2 2 _ [0, 1] _ HKA.out hse (by simp) (by decide)).mono ?_
  rintro e w2 ⟨rfl, hk⟩
  have HK2 := Lib.hid (HKA.out.trans hk (fun _ _ hf => hf))
  have HB2 := Lib.hid (HBK.out.keep hk (fun hf => hf))
  rw [HHO.out.1]
  obtain ⟨bv, hbv⟩ : ∃ b, w1.heap.size = b := ⟨_, rfl⟩
  rw [hbv] at HB2 ⊢
  have x0 := HB2.out.cell 0
  have x1 := HB2.out.cell 1
  clear hse hk HBK HKA hbv
  go_wp2_with fail
  refine (HH.out 4 0 (some ⟨w2.heap.size, 0, none⟩) 1 1 _ [1] _ (HK2.out.alloc _) (lst_new w2 3 [.int .i64 1] 1 rfl) (Nat.le_refl _) (by decide)).mono ?_
  rintro e w3 ⟨rfl, hk⟩
  rw [HHO.out.2.1]
  have HK3 := Lib.hid ((HK2.out.alloc _).trans hk (fun _ _ hf => hf))
  have HB3 := Lib.hid ((HB2.out.alloc _).keep hk (fun hf => hf))
  clear hk x0 x1
  have x0 := HB3.out.cell 0
  have x1 := HB3.out.cell 1
  go_wp2_with fail
  refine (HH.out 1 1 none 0 0 0 [] _ HK3.out (Sees.nil _ _ _ _) (Nat.zero_le _) (by decide)).mono ?_
  rintro e w4 ⟨rfl, hk⟩
  rw [HHO.out.2.2]
  have HK4 := Lib.hid (HK3.out.trans hk (fun _ _ hf => hf))
  clear hk
  go_wp2_with fail
  go_ret
  exact ⟨rfl, HK1.out.trans HK4.out (fun _ _ hf => hf)⟩
def coV (kind n : Int) : Int := if kind = 1 ∨ kind = 2 then (if n < 0 then 0 else n) else if kind = 3 ∨ kind = 4 then 1 else 0
end Go.Proofs.YtkbdfnmeomkpjaaGreat
