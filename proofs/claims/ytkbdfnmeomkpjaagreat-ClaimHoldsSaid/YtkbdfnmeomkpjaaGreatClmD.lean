/- A sight: whether a record holds; no condition but the sizes. -/
import Derived.Test.YtkbdfnmeomkpjaaGreatClmC
import Derived.Test.YtkbdfnmeomkpjaaGreatHeld
namespace Go.Proofs.YtkbdfnmeomkpjaaGreat
open Go.RowKit
set_option linter.unusedVariables false
set_option linter.unusedSimpArgs false
set_option maxRecDepth 100000

/-- Does a record hold? -/
def hoB (lp : List ByteArray) (s : List UInt8) (kind n : Int) (zs : List Int) : Bool :=
  if s = [] then false else if zs ≠ [] ∧ kind ≠ 4 then false else if kind = 1 then skB lp s n else if kind = 2 then leB lp s n else if kind = 3 then msB lp s n else if kind = 4 then decide (n = 0) && decide (zs = (idB lp s).map (fun (i : Nat) => (i : Int))) else false
def rcV (kind n r : Int) (A : Option Addr) (k c : Nat) : Value := .agg #[.int .i64 kind, .int .i64 n, .int .i64 r, .slice A k c]
set_option maxHeartbeats 8000000 in
theorem holds_ (g p gr size : Nat) (x : Option Addr) (lp : List ByteArray) (s : List UInt8) (kind n r : Int) (A : Option Addr) (k c B : Nat) (zs : List Int) (w : World) (h : SgI w g p gr x lp s size) (hb : SgB lp s size)
    (hz : Sees w B 1 A k (zs.map (Value.int .i64))) (hB : B ≤ w.heap.size) (hk : k ≤ 1000) :
    Calls Tryz.prog 11 #[sgV g p, rcV kind n r A k c] w fun e w' => e = .returned (.bool (hoB lp s kind n zs)) ∧ Pure' w w' := by
  have HSK := Lib.hid (fun (W : World) (hW : Pure' w W) => cskip_ g p gr size x lp s n W (h.pure hW) hb)
  have HLE := Lib.hid (fun (W : World) (hW : Pure' w W) => cleap_ g p gr size x lp s n W (h.pure hW) hb)
  have HMS := Lib.hid (fun (W : World) (hW : Pure' w W) => cmiss_ g p gr size x lp s n W (h.pure hW) hb)
  have HID := Lib.hid (fun (W : World) (hW : Pure' w W) => cids_ g p gr size x lp s W (h.pure hW) hb)
  have HPN := Lib.hid (fun (W : World) (hW : Pure' w W) => (h.pure hW).pn)
  have HZS := Lib.hid (fun (W : World) (hW : Pure' w W) => hz.pure hW hB)
  have HZL := Lib.hid (show zs.length = k by have := hz.1; simpa using this)
  have hsl := hb.slen
  have hidl : (idB lp s).length ≤ 12 := by
    rw [idB_hits hb.ne]
    unfold hitsL
    refine Nat.le_trans (List.length_filter_le _ _) ?_
    rw [List.length_range]
    exact hb.bll
  have HK0 := Lib.hid (show Pure' w ((w.alloc (.cells #[.pointer (some ⟨g, 0, none⟩), .pointer (some ⟨p, 0, none⟩)] 34)).alloc (.cells #[.int .i64 kind, .int .i64 n, .int .i64 r, .slice A k c] 25)) from ((Keeps.refl _ w).alloc _).alloc _)
  have HB1 := Lib.hid (show Blk ((w.alloc (.cells #[.pointer (some ⟨g, 0, none⟩), .pointer (some ⟨p, 0, none⟩)] 34)).alloc (.cells #[.int .i64 kind, .int .i64 n, .int .i64 r, .slice A k c] 25)) w.heap.size 34 #[.pointer (some ⟨g, 0, none⟩), .pointer (some ⟨p, 0, none⟩)] from (Blk.newAt rfl).alloc _)
  have HB2 := Lib.hid (show Blk ((w.alloc (.cells #[.pointer (some ⟨g, 0, none⟩), .pointer (some ⟨p, 0, none⟩)] 34)).alloc (.cells #[.int .i64 kind, .int .i64 n, .int .i64 r, .slice A k c] 25)) (w.heap.size + 1) 25 #[.int .i64 kind, .int .i64 n, .int .i64 r, .slice A k c] from Blk.newAt (by simp))
  obtain ⟨sn, hsn⟩ : ∃ n, s.length = n := ⟨_, rfl⟩
  have HSN := Lib.hid hsn
  rw [hsn] at hsl
  clear h hb hz hsn
  unfold sgV rcV
  unfold sgV at HSK HLE HMS HID
  go_enter Tryz.func11, Tryz.ntmps11
  go_upto_region 1 with fail
  generalize ((w.alloc (.cells #[.pointer (some ⟨g, 0, none⟩), .pointer (some ⟨p, 0, none⟩)] 34)).alloc (.cells #[.int .i64 kind, .int .i64 n, .int .i64 r, .slice A k c] 25)) = W0 at *
  obtain ⟨bs, hbs⟩ : ∃ bs, w.heap.size = bs := ⟨_, rfl⟩
  have HBS := Lib.hid hbs
  rw [hbs] at HB1 HB2 ⊢
  clear hbs
  have c0 := HB1.out.cell 0
  have c1 := HB1.out.cell 1
  have d0 := HB2.out.cell 0
  have d1 := HB2.out.cell 1
  have d3 := HB2.out.cell 3
  obtain ⟨w0, hpm⟩ := HPN.out W0 HK0.out
  have b0 : W0.cell? ⟨p, 0, none⟩ = some (.pointer (some ⟨gr, 0, none⟩)) := hpm.blk.cell 0
  have hseen := hpm.seen
  rw [HSN.out] at hseen
  have HSEEN := Lib.hid hseen
  clear hpm hseen HPN
  go_wp2_with fail
  refine HSEEN.out.mono ?_
  rintro e w1 ⟨rfl, rfl⟩
  clear HSEEN
  by_cases hs0 : sn = 0
  · subst hs0
    have HF := Lib.hid (show false = hoB lp s kind n zs by unfold hoB; rw [if_pos (List.eq_nil_of_length_eq_zero HSN.out)])
    go_wp2_with fail
    go_ret
    exact ⟨congrArg (fun b => Ending.returned (Value.bool b)) HF.out, HK0.out⟩
  have hs0i : ((sn : Int) == 0) = false := by rw [beq_eq_false_iff_ne]; omega
  have HS0 := Lib.hid (show s ≠ [] from fun e => hs0 (by rw [← HSN.out, e]; rfl))
  clear hs0
  by_cases hbad : 0 < k ∧ kind ≠ 4
  · obtain ⟨hk1, hk2⟩ := hbad
    have HF := Lib.hid (show false = hoB lp s kind n zs by unfold hoB; rw [if_neg HS0.out, if_pos ⟨fun e => by have := HZL.out; rw [e] at this; simp at this; omega, hk2⟩])
    have hk1i : (0 : Int) < (k : Int) := by omega
    have hk2i : (kind != 4) = true := by simpa using hk2
    clear hk2
    go_wp2_with fail
    go_ret
    exact ⟨congrArg (fun b => Ending.returned (Value.bool b)) HF.out, HK0.out⟩
  have HNB := Lib.hid (show ¬ (zs ≠ [] ∧ kind ≠ 4) from fun ⟨e1, e2⟩ => hbad ⟨by
    have := HZL.out
    have h3 : zs.length ≠ 0 := fun e => e1 (List.eq_nil_of_length_eq_zero e)
    omega, e2⟩)
  have HKK := Lib.hid (show k = 0 ∨ kind = 4 from by
    by_cases h : k = 0
    · exact .inl h
    · exact .inr (Classical.byContradiction fun e => hbad ⟨by omega, e⟩))
  clear hbad
  by_cases h4 : kind = 4
  · subst h4
    have HF := Lib.hid (show hoB lp s 4 n zs = (decide (n = 0) && decide (zs = (idB lp s).map (fun (i : Nat) => (i : Int)))) by unfold hoB; rw [if_neg HS0.out, if_neg HNB.out]; rfl)
    have HX := Lib.hid (show ∀ W, Pure' W0 W → (W.cell? ⟨bs, 0, none⟩ = some (.pointer (some ⟨g, 0, none⟩)) ∧ W.cell? ⟨bs, 1, none⟩ = some (.pointer (some ⟨p, 0, none⟩))) ∧ W.cell? ⟨bs + 1, 1, none⟩ = some (.int .i64 n) ∧ W.cell? ⟨bs + 1, 3, none⟩ = some (.slice A k c) from fun W hW => ⟨⟨keepc c0 hW, keepc c1 hW⟩, keepc d1 hW, keepc d3 hW⟩)
    by_cases hn : n = 0
    · subst hn
      have HFF := Lib.hid (show hoB lp s 4 0 zs = decide (zs = (idB lp s).map (fun (i : Nat) => (i : Int))) by rw [HF.out, decide_eq_true rfl, Bool.true_and])
      by_cases hkz : 0 < k
      · have hkzi : (0 : Int) < (k : Int) := by omega
        go_wp2_with fail
        refine wp_region_held_drew (S := (fun X => Pure' W0 X)) (by kernel_rfl) ((Keeps.refl _ W0).drew) (fun hHeld => ?_)
        have HH := Lib.hid hHeld
        clear hHeld
        refine wpAnyH_take (i := 0) (oi := ⟨some 55, .fieldAddr 25 (.tmp 3) 1, _, _, _, _⟩) (v := ?vv101) rfl (by kernel_rfl) (by kernel_rfl) (by kernel_rfl) (fun _ _ _ h => h) (Or.inl ⟨by rfl, ?hy101⟩) HH.out ?rr101
        case hy101 => intro W hSw; go_simp; try with_reducible rfl
        try simp only [Act.put, List.setIfInBounds_toArray, List.set_cons_zero, List.set_cons_succ]
        refine wpAnyH_take (i := 1) (oi := ⟨some 56, .load 3 (.tmp 55), _, _, _, _⟩) (v := ?vv102) rfl (by kernel_rfl) (by kernel_rfl) (by kernel_rfl) (fun _ _ _ h => h) (Or.inl ⟨by rfl, ?hy102⟩) HH.out ?rr102
        case hy102 => intro W hSw; obtain ⟨⟨y0, y1⟩, y2, y3⟩ := HX.out W hSw; go_simp; try with_reducible rfl
        try simp only [Act.put, List.setIfInBounds_toArray, List.set_cons_zero, List.set_cons_succ]
        refine wpAnyH_take (i := 2) (oi := ⟨some 57, .binOp .eql 3 (.tmp 56) (.const (.int .i64 0)) 3, _, _, _, _⟩) (v := ?vv103) rfl (by kernel_rfl) (by kernel_rfl) (by kernel_rfl) (fun _ _ _ h => h) (Or.inl ⟨by rfl, ?hy103⟩) HH.out ?rr103
        case hy103 => intro W hSw; go_simp; try with_reducible rfl
        try simp only [Act.put, List.setIfInBounds_toArray, List.set_cons_zero, List.set_cons_succ]
        refine wpAnyH_take (i := 3) (oi := ⟨some 58, .move (.tmp 57), _, _, _, _⟩) (v := ?vv104) rfl (by kernel_rfl) (by kernel_rfl) (by kernel_rfl) (fun _ _ _ h => h) (Or.inl ⟨by rfl, ?hy104⟩) HH.out ?rr104
        case hy104 => intro W hSw; go_simp; try with_reducible rfl
        try simp only [Act.put, List.setIfInBounds_toArray, List.set_cons_zero, List.set_cons_succ]
        refine wpAnyH_take (i := 4) (oi := ⟨some 59, .fieldAddr 25 (.tmp 3) 3, _, _, _, _⟩) (v := ?vv105) rfl (by kernel_rfl) (by kernel_rfl) (by kernel_rfl) (fun _ _ _ h => h) (Or.inl ⟨by rfl, ?hy105⟩) HH.out ?rr105
        case hy105 => intro W hSw; go_simp; try with_reducible rfl
        try simp only [Act.put, List.setIfInBounds_toArray, List.set_cons_zero, List.set_cons_succ]
        refine wpAnyH_take (i := 5) (oi := ⟨some 60, .load 23 (.tmp 59), _, _, _, _⟩) (v := ?vv106) rfl (by kernel_rfl) (by kernel_rfl) (by kernel_rfl) (fun _ _ _ h => h) (Or.inl ⟨by rfl, ?hy106⟩) HH.out ?rr106
        case hy106 => intro W hSw; obtain ⟨⟨y0, y1⟩, y2, y3⟩ := HX.out W hSw; go_simp; try with_reducible rfl
        try simp only [Act.put, List.setIfInBounds_toArray, List.set_cons_zero, List.set_cons_succ]
        refine wpAnyH_take (i := 6) (oi := ⟨some 61, .load 34 (.tmp 2), _, _, _, _⟩) (v := ?vv107) rfl (by kernel_rfl) (by kernel_rfl) (by kernel_rfl) (fun _ _ _ h => h) (Or.inl ⟨by rfl, ?hy107⟩) HH.out ?rr107
        case hy107 => intro W hSw; obtain ⟨⟨y0, y1⟩, y2, y3⟩ := HX.out W hSw; go_simp; try with_reducible rfl
        try simp only [Act.put, List.setIfInBounds_toArray, List.set_cons_zero, List.set_cons_succ]
        refine wpAnyH_ready (rs := [7]) (by kernel_rfl) (by simp) ?_
        refine AllReadyH.cons (o := ⟨some 62, .call { callee := .value (.func 19), args := #[.tmp 61], argTypes := #[34] }, _, _, _, _⟩) rfl (fun K hK => ?_) AllReadyH.nil
        go_simp
        go_at_call 19
        refine (HID.out _ (HK0.out.trans HH.out (fun _ _ hf => hf))).mono ?_
        rintro e wB ⟨A7, c7, rfl, hr7, _, hk7⟩
        have HR7 := Lib.hid hr7
        have HK7 := Lib.hid (HH.out.trans hk7 (fun _ _ hf => hf))
        clear hr7 hk7
        go_wp2_with fail
        refine hK.out _ _ (HK7.out) (fun hHeld => ?_)
        have HH := Lib.hid hHeld
        clear hHeld hK K
        try simp only [Act.put, List.setIfInBounds_toArray, List.set_cons_zero, List.set_cons_succ]
        refine wpAnyH_ready (rs := [8]) (by kernel_rfl) (by simp) ?_
        refine AllReadyH.cons (o := ⟨some 63, .call { callee := .value (.func 46), args := #[.tmp 60, .tmp 62], argTypes := #[23, 23] }, _, _, _, _⟩) rfl (fun K hK => ?_) AllReadyH.nil
        go_simp
        go_at_call 46
        refine (eqI_ A A7 k (idB lp s).length c c7 B wB.heap.size zs ((idB lp s).map (fun (i : Nat) => (i : Int))) wB (HZS.out wB (HK0.out.trans HK7.out (fun _ _ hf => hf))) (by rw [show ((idB lp s).map (fun (i : Nat) => (i : Int))).map (Value.int .i64) = idVs (idB lp s) by simp [idVs]]; exact HR7.out.sees) (by omega) (by omega)).mono ?_
        rintro e wC ⟨rfl, hk8⟩
        have HK8 := Lib.hid (HK7.out.trans (lst_dn hk8) (fun _ _ hf => hf))
        clear hk8
        go_wp2_with fail
        refine hK.out _ _ (HK8.out) (fun hHeld => ?_)
        have HH := Lib.hid hHeld
        clear hHeld hK K
        try simp only [Act.put, List.setIfInBounds_toArray, List.set_cons_zero, List.set_cons_succ]
        refine wpAnyH_take (i := 9) (oi := ⟨some 64, .pick (.tmp 58) (.tmp 63) (.const (.bool false)), _, _, _, _⟩) (v := ?vv108) rfl (by kernel_rfl) (by kernel_rfl) (by kernel_rfl) (fun _ _ _ h => h) (Or.inl ⟨by rfl, ?hy108⟩) HH.out ?rr108
        case hy108 => intro W hSw; go_simp; try with_reducible rfl
        try simp only [Act.put, List.setIfInBounds_toArray, List.set_cons_zero, List.set_cons_succ]
        refine wpAnyH_take (i := 10) (oi := ⟨some 4, .assign (.tmp 64), _, _, _, _⟩) (v := ?vv109) rfl (by kernel_rfl) (by kernel_rfl) (by kernel_rfl) (fun _ _ _ h => h) (Or.inl ⟨by rfl, ?hy109⟩) HH.out ?rr109
        case hy109 => intro W hSw; go_simp; try with_reducible rfl
        try simp only [Act.put, List.setIfInBounds_toArray, List.set_cons_zero, List.set_cons_succ]
        refine wpAnyH_done (by kernel_rfl) ?_ _
        go_wp2_with fail
        go_ret
        exact ⟨by rw [HFF.out]; rfl, HK0.out.trans HK8.out (fun _ _ hf => hf)⟩
      · have hkzi : ¬ (0 : Int) < (k : Int) := by omega
        go_wp2_with fail
        refine wp_region_held_drew (S := (fun X => Pure' W0 X)) (by kernel_rfl) ((Keeps.refl _ W0).drew) (fun hHeld => ?_)
        have HH := Lib.hid hHeld
        clear hHeld
        refine wpAnyH_take (i := 0) (oi := ⟨some 55, .fieldAddr 25 (.tmp 3) 1, _, _, _, _⟩) (v := ?vv321) rfl (by kernel_rfl) (by kernel_rfl) (by kernel_rfl) (fun _ _ _ h => h) (Or.inl ⟨by rfl, ?hy321⟩) HH.out ?rr321
        case hy321 => intro W hSw; go_simp; try with_reducible rfl
        try simp only [Act.put, List.setIfInBounds_toArray, List.set_cons_zero, List.set_cons_succ]
        refine wpAnyH_take (i := 1) (oi := ⟨some 56, .load 3 (.tmp 55), _, _, _, _⟩) (v := ?vv322) rfl (by kernel_rfl) (by kernel_rfl) (by kernel_rfl) (fun _ _ _ h => h) (Or.inl ⟨by rfl, ?hy322⟩) HH.out ?rr322
        case hy322 => intro W hSw; obtain ⟨⟨y0, y1⟩, y2, y3⟩ := HX.out W hSw; go_simp; try with_reducible rfl
        try simp only [Act.put, List.setIfInBounds_toArray, List.set_cons_zero, List.set_cons_succ]
        refine wpAnyH_take (i := 2) (oi := ⟨some 57, .binOp .eql 3 (.tmp 56) (.const (.int .i64 0)) 3, _, _, _, _⟩) (v := ?vv323) rfl (by kernel_rfl) (by kernel_rfl) (by kernel_rfl) (fun _ _ _ h => h) (Or.inl ⟨by rfl, ?hy323⟩) HH.out ?rr323
        case hy323 => intro W hSw; go_simp; try with_reducible rfl
        try simp only [Act.put, List.setIfInBounds_toArray, List.set_cons_zero, List.set_cons_succ]
        refine wpAnyH_take (i := 3) (oi := ⟨some 58, .move (.tmp 57), _, _, _, _⟩) (v := ?vv324) rfl (by kernel_rfl) (by kernel_rfl) (by kernel_rfl) (fun _ _ _ h => h) (Or.inl ⟨by rfl, ?hy324⟩) HH.out ?rr324
        case hy324 => intro W hSw; go_simp; try with_reducible rfl
        try simp only [Act.put, List.setIfInBounds_toArray, List.set_cons_zero, List.set_cons_succ]
        refine wpAnyH_take (i := 4) (oi := ⟨some 59, .fieldAddr 25 (.tmp 3) 3, _, _, _, _⟩) (v := ?vv325) rfl (by kernel_rfl) (by kernel_rfl) (by kernel_rfl) (fun _ _ _ h => h) (Or.inl ⟨by rfl, ?hy325⟩) HH.out ?rr325
        case hy325 => intro W hSw; go_simp; try with_reducible rfl
        try simp only [Act.put, List.setIfInBounds_toArray, List.set_cons_zero, List.set_cons_succ]
        refine wpAnyH_take (i := 5) (oi := ⟨some 60, .load 23 (.tmp 59), _, _, _, _⟩) (v := ?vv326) rfl (by kernel_rfl) (by kernel_rfl) (by kernel_rfl) (fun _ _ _ h => h) (Or.inl ⟨by rfl, ?hy326⟩) HH.out ?rr326
        case hy326 => intro W hSw; obtain ⟨⟨y0, y1⟩, y2, y3⟩ := HX.out W hSw; go_simp; try with_reducible rfl
        try simp only [Act.put, List.setIfInBounds_toArray, List.set_cons_zero, List.set_cons_succ]
        refine wpAnyH_take (i := 6) (oi := ⟨some 61, .load 34 (.tmp 2), _, _, _, _⟩) (v := ?vv327) rfl (by kernel_rfl) (by kernel_rfl) (by kernel_rfl) (fun _ _ _ h => h) (Or.inl ⟨by rfl, ?hy327⟩) HH.out ?rr327
        case hy327 => intro W hSw; obtain ⟨⟨y0, y1⟩, y2, y3⟩ := HX.out W hSw; go_simp; try with_reducible rfl
        try simp only [Act.put, List.setIfInBounds_toArray, List.set_cons_zero, List.set_cons_succ]
        refine wpAnyH_ready (rs := [7]) (by kernel_rfl) (by simp) ?_
        refine AllReadyH.cons (o := ⟨some 62, .call { callee := .value (.func 19), args := #[.tmp 61], argTypes := #[34] }, _, _, _, _⟩) rfl (fun K hK => ?_) AllReadyH.nil
        go_simp
        go_at_call 19
        refine (HID.out _ (HK0.out.trans HH.out (fun _ _ hf => hf))).mono ?_
        rintro e wB ⟨A7, c7, rfl, hr7, _, hk7⟩
        have HR7 := Lib.hid hr7
        have HK7 := Lib.hid (HH.out.trans hk7 (fun _ _ hf => hf))
        clear hr7 hk7
        go_wp2_with fail
        refine hK.out _ _ (HK7.out) (fun hHeld => ?_)
        have HH := Lib.hid hHeld
        clear hHeld hK K
        try simp only [Act.put, List.setIfInBounds_toArray, List.set_cons_zero, List.set_cons_succ]
        refine wpAnyH_ready (rs := [8]) (by kernel_rfl) (by simp) ?_
        refine AllReadyH.cons (o := ⟨some 63, .call { callee := .value (.func 46), args := #[.tmp 60, .tmp 62], argTypes := #[23, 23] }, _, _, _, _⟩) rfl (fun K hK => ?_) AllReadyH.nil
        go_simp
        go_at_call 46
        refine (eqI_ A A7 k (idB lp s).length c c7 B wB.heap.size zs ((idB lp s).map (fun (i : Nat) => (i : Int))) wB (HZS.out wB (HK0.out.trans HK7.out (fun _ _ hf => hf))) (by rw [show ((idB lp s).map (fun (i : Nat) => (i : Int))).map (Value.int .i64) = idVs (idB lp s) by simp [idVs]]; exact HR7.out.sees) (by omega) (by omega)).mono ?_
        rintro e wC ⟨rfl, hk8⟩
        have HK8 := Lib.hid (HK7.out.trans (lst_dn hk8) (fun _ _ hf => hf))
        clear hk8
        go_wp2_with fail
        refine hK.out _ _ (HK8.out) (fun hHeld => ?_)
        have HH := Lib.hid hHeld
        clear hHeld hK K
        try simp only [Act.put, List.setIfInBounds_toArray, List.set_cons_zero, List.set_cons_succ]
        refine wpAnyH_take (i := 9) (oi := ⟨some 64, .pick (.tmp 58) (.tmp 63) (.const (.bool false)), _, _, _, _⟩) (v := ?vv328) rfl (by kernel_rfl) (by kernel_rfl) (by kernel_rfl) (fun _ _ _ h => h) (Or.inl ⟨by rfl, ?hy328⟩) HH.out ?rr328
        case hy328 => intro W hSw; go_simp; try with_reducible rfl
        try simp only [Act.put, List.setIfInBounds_toArray, List.set_cons_zero, List.set_cons_succ]
        refine wpAnyH_take (i := 10) (oi := ⟨some 4, .assign (.tmp 64), _, _, _, _⟩) (v := ?vv329) rfl (by kernel_rfl) (by kernel_rfl) (by kernel_rfl) (fun _ _ _ h => h) (Or.inl ⟨by rfl, ?hy329⟩) HH.out ?rr329
        case hy329 => intro W hSw; go_simp; try with_reducible rfl
        try simp only [Act.put, List.setIfInBounds_toArray, List.set_cons_zero, List.set_cons_succ]
        refine wpAnyH_done (by kernel_rfl) ?_ _
        go_wp2_with fail
        go_ret
        exact ⟨by rw [HFF.out]; rfl, HK0.out.trans HK8.out (fun _ _ hf => hf)⟩
    · have hni : (n == 0) = false := by rw [beq_eq_false_iff_ne]; exact hn
      have HFF := Lib.hid (show false = hoB lp s 4 n zs by rw [HF.out, decide_eq_false hn, Bool.false_and])
      clear hn
      by_cases hkz : 0 < k
      · have hkzi : (0 : Int) < (k : Int) := by omega
        go_wp2_with fail
        refine wp_region_held_drew (S := (fun X => Pure' W0 X)) (by kernel_rfl) ((Keeps.refl _ W0).drew) (fun hHeld => ?_)
        have HH := Lib.hid hHeld
        clear hHeld
        refine wpAnyH_take (i := 0) (oi := ⟨some 55, .fieldAddr 25 (.tmp 3) 1, _, _, _, _⟩) (v := ?vv210) rfl (by kernel_rfl) (by kernel_rfl) (by kernel_rfl) (fun _ _ _ h => h) (Or.inl ⟨by rfl, ?hy210⟩) HH.out ?rr210
        case hy210 => intro W hSw; go_simp; try with_reducible rfl
        try simp only [Act.put, List.setIfInBounds_toArray, List.set_cons_zero, List.set_cons_succ]
        refine wpAnyH_take (i := 1) (oi := ⟨some 56, .load 3 (.tmp 55), _, _, _, _⟩) (v := ?vv211) rfl (by kernel_rfl) (by kernel_rfl) (by kernel_rfl) (fun _ _ _ h => h) (Or.inl ⟨by rfl, ?hy211⟩) HH.out ?rr211
        case hy211 => intro W hSw; obtain ⟨⟨y0, y1⟩, y2, y3⟩ := HX.out W hSw; go_simp; try with_reducible rfl
        try simp only [Act.put, List.setIfInBounds_toArray, List.set_cons_zero, List.set_cons_succ]
        refine wpAnyH_take (i := 2) (oi := ⟨some 57, .binOp .eql 3 (.tmp 56) (.const (.int .i64 0)) 3, _, _, _, _⟩) (v := ?vv212) rfl (by kernel_rfl) (by kernel_rfl) (by kernel_rfl) (fun _ _ _ h => h) (Or.inl ⟨by rfl, ?hy212⟩) HH.out ?rr212
        case hy212 => intro W hSw; go_simp; try with_reducible rfl
        try simp only [Act.put, List.setIfInBounds_toArray, List.set_cons_zero, List.set_cons_succ]
        refine wpAnyH_take (i := 3) (oi := ⟨some 58, .move (.tmp 57), _, _, _, _⟩) (v := ?vv213) rfl (by kernel_rfl) (by kernel_rfl) (by kernel_rfl) (fun _ _ _ h => h) (Or.inl ⟨by rfl, ?hy213⟩) HH.out ?rr213
        case hy213 => intro W hSw; go_simp; try with_reducible rfl
        try simp only [Act.put, List.setIfInBounds_toArray, List.set_cons_zero, List.set_cons_succ]
        refine wpAnyH_take (i := 4) (oi := ⟨some 59, .fieldAddr 25 (.tmp 3) 3, _, _, _, _⟩) (v := undef) rfl (by kernel_rfl) (by kernel_rfl) (by kernel_rfl) (fun _ _ _ h => h) (Or.inr ⟨by rfl, rfl⟩) HH.out ?_
        try simp only [Act.put, List.setIfInBounds_toArray, List.set_cons_zero, List.set_cons_succ]
        refine wpAnyH_take (i := 5) (oi := ⟨some 60, .load 23 (.tmp 59), _, _, _, _⟩) (v := undef) rfl (by kernel_rfl) (by kernel_rfl) (by kernel_rfl) (fun _ _ _ h => h) (Or.inr ⟨by rfl, rfl⟩) HH.out ?_
        try simp only [Act.put, List.setIfInBounds_toArray, List.set_cons_zero, List.set_cons_succ]
        refine wpAnyH_take (i := 6) (oi := ⟨some 61, .load 34 (.tmp 2), _, _, _, _⟩) (v := undef) rfl (by kernel_rfl) (by kernel_rfl) (by kernel_rfl) (fun _ _ _ h => h) (Or.inr ⟨by rfl, rfl⟩) HH.out ?_
        try simp only [Act.put, List.setIfInBounds_toArray, List.set_cons_zero, List.set_cons_succ]
        refine wpAnyH_take (i := 7) (oi := ⟨some 62, .call { callee := .value (.func 19), args := #[.tmp 61], argTypes := #[34] }, _, _, _, _⟩) (v := undef) rfl (by kernel_rfl) (by kernel_rfl) (by kernel_rfl) (fun _ _ _ h => h) (Or.inr ⟨by rfl, rfl⟩) HH.out ?_
        try simp only [Act.put, List.setIfInBounds_toArray, List.set_cons_zero, List.set_cons_succ]
        refine wpAnyH_take (i := 8) (oi := ⟨some 63, .call { callee := .value (.func 46), args := #[.tmp 60, .tmp 62], argTypes := #[23, 23] }, _, _, _, _⟩) (v := undef) rfl (by kernel_rfl) (by kernel_rfl) (by kernel_rfl) (fun _ _ _ h => h) (Or.inr ⟨by rfl, rfl⟩) HH.out ?_
        try simp only [Act.put, List.setIfInBounds_toArray, List.set_cons_zero, List.set_cons_succ]
        refine wpAnyH_take (i := 9) (oi := ⟨some 64, .pick (.tmp 58) (.tmp 63) (.const (.bool false)), _, _, _, _⟩) (v := ?vv219) rfl (by kernel_rfl) (by kernel_rfl) (by kernel_rfl) (fun _ _ _ h => h) (Or.inl ⟨by rfl, ?hy219⟩) HH.out ?rr219
        case hy219 => intro W hSw; go_simp; try with_reducible rfl
        try simp only [Act.put, List.setIfInBounds_toArray, List.set_cons_zero, List.set_cons_succ]
        refine wpAnyH_take (i := 10) (oi := ⟨some 4, .assign (.tmp 64), _, _, _, _⟩) (v := ?vv220) rfl (by kernel_rfl) (by kernel_rfl) (by kernel_rfl) (fun _ _ _ h => h) (Or.inl ⟨by rfl, ?hy220⟩) HH.out ?rr220
        case hy220 => intro W hSw; go_simp; try with_reducible rfl
        try simp only [Act.put, List.setIfInBounds_toArray, List.set_cons_zero, List.set_cons_succ]
        refine wpAnyH_done (by kernel_rfl) ?_ _
        go_wp2_with fail
        go_ret
        exact ⟨congrArg (fun b => Ending.returned (Value.bool b)) HFF.out, HK0.out.drew⟩
      · have hkzi : ¬ (0 : Int) < (k : Int) := by omega
        go_wp2_with fail
        refine wp_region_held_drew (S := (fun X => Pure' W0 X)) (by kernel_rfl) ((Keeps.refl _ W0).drew) (fun hHeld => ?_)
        have HH := Lib.hid hHeld
        clear hHeld
        refine wpAnyH_take (i := 0) (oi := ⟨some 55, .fieldAddr 25 (.tmp 3) 1, _, _, _, _⟩) (v := ?vv430) rfl (by kernel_rfl) (by kernel_rfl) (by kernel_rfl) (fun _ _ _ h => h) (Or.inl ⟨by rfl, ?hy430⟩) HH.out ?rr430
        case hy430 => intro W hSw; go_simp; try with_reducible rfl
        try simp only [Act.put, List.setIfInBounds_toArray, List.set_cons_zero, List.set_cons_succ]
        refine wpAnyH_take (i := 1) (oi := ⟨some 56, .load 3 (.tmp 55), _, _, _, _⟩) (v := ?vv431) rfl (by kernel_rfl) (by kernel_rfl) (by kernel_rfl) (fun _ _ _ h => h) (Or.inl ⟨by rfl, ?hy431⟩) HH.out ?rr431
        case hy431 => intro W hSw; obtain ⟨⟨y0, y1⟩, y2, y3⟩ := HX.out W hSw; go_simp; try with_reducible rfl
        try simp only [Act.put, List.setIfInBounds_toArray, List.set_cons_zero, List.set_cons_succ]
        refine wpAnyH_take (i := 2) (oi := ⟨some 57, .binOp .eql 3 (.tmp 56) (.const (.int .i64 0)) 3, _, _, _, _⟩) (v := ?vv432) rfl (by kernel_rfl) (by kernel_rfl) (by kernel_rfl) (fun _ _ _ h => h) (Or.inl ⟨by rfl, ?hy432⟩) HH.out ?rr432
        case hy432 => intro W hSw; go_simp; try with_reducible rfl
        try simp only [Act.put, List.setIfInBounds_toArray, List.set_cons_zero, List.set_cons_succ]
        refine wpAnyH_take (i := 3) (oi := ⟨some 58, .move (.tmp 57), _, _, _, _⟩) (v := ?vv433) rfl (by kernel_rfl) (by kernel_rfl) (by kernel_rfl) (fun _ _ _ h => h) (Or.inl ⟨by rfl, ?hy433⟩) HH.out ?rr433
        case hy433 => intro W hSw; go_simp; try with_reducible rfl
        try simp only [Act.put, List.setIfInBounds_toArray, List.set_cons_zero, List.set_cons_succ]
        refine wpAnyH_take (i := 4) (oi := ⟨some 59, .fieldAddr 25 (.tmp 3) 3, _, _, _, _⟩) (v := undef) rfl (by kernel_rfl) (by kernel_rfl) (by kernel_rfl) (fun _ _ _ h => h) (Or.inr ⟨by rfl, rfl⟩) HH.out ?_
        try simp only [Act.put, List.setIfInBounds_toArray, List.set_cons_zero, List.set_cons_succ]
        refine wpAnyH_take (i := 5) (oi := ⟨some 60, .load 23 (.tmp 59), _, _, _, _⟩) (v := undef) rfl (by kernel_rfl) (by kernel_rfl) (by kernel_rfl) (fun _ _ _ h => h) (Or.inr ⟨by rfl, rfl⟩) HH.out ?_
        try simp only [Act.put, List.setIfInBounds_toArray, List.set_cons_zero, List.set_cons_succ]
        refine wpAnyH_take (i := 6) (oi := ⟨some 61, .load 34 (.tmp 2), _, _, _, _⟩) (v := undef) rfl (by kernel_rfl) (by kernel_rfl) (by kernel_rfl) (fun _ _ _ h => h) (Or.inr ⟨by rfl, rfl⟩) HH.out ?_
        try simp only [Act.put, List.setIfInBounds_toArray, List.set_cons_zero, List.set_cons_succ]
        refine wpAnyH_take (i := 7) (oi := ⟨some 62, .call { callee := .value (.func 19), args := #[.tmp 61], argTypes := #[34] }, _, _, _, _⟩) (v := undef) rfl (by kernel_rfl) (by kernel_rfl) (by kernel_rfl) (fun _ _ _ h => h) (Or.inr ⟨by rfl, rfl⟩) HH.out ?_
        try simp only [Act.put, List.setIfInBounds_toArray, List.set_cons_zero, List.set_cons_succ]
        refine wpAnyH_take (i := 8) (oi := ⟨some 63, .call { callee := .value (.func 46), args := #[.tmp 60, .tmp 62], argTypes := #[23, 23] }, _, _, _, _⟩) (v := undef) rfl (by kernel_rfl) (by kernel_rfl) (by kernel_rfl) (fun _ _ _ h => h) (Or.inr ⟨by rfl, rfl⟩) HH.out ?_
        try simp only [Act.put, List.setIfInBounds_toArray, List.set_cons_zero, List.set_cons_succ]
        refine wpAnyH_take (i := 9) (oi := ⟨some 64, .pick (.tmp 58) (.tmp 63) (.const (.bool false)), _, _, _, _⟩) (v := ?vv439) rfl (by kernel_rfl) (by kernel_rfl) (by kernel_rfl) (fun _ _ _ h => h) (Or.inl ⟨by rfl, ?hy439⟩) HH.out ?rr439
        case hy439 => intro W hSw; go_simp; try with_reducible rfl
        try simp only [Act.put, List.setIfInBounds_toArray, List.set_cons_zero, List.set_cons_succ]
        refine wpAnyH_take (i := 10) (oi := ⟨some 4, .assign (.tmp 64), _, _, _, _⟩) (v := ?vv440) rfl (by kernel_rfl) (by kernel_rfl) (by kernel_rfl) (fun _ _ _ h => h) (Or.inl ⟨by rfl, ?hy440⟩) HH.out ?rr440
        case hy440 => intro W hSw; go_simp; try with_reducible rfl
        try simp only [Act.put, List.setIfInBounds_toArray, List.set_cons_zero, List.set_cons_succ]
        refine wpAnyH_done (by kernel_rfl) ?_ _
        go_wp2_with fail
        go_ret
        exact ⟨congrArg (fun b => Ending.returned (Value.bool b)) HFF.out, HK0.out.drew⟩
  · have hk0 : k = 0 := by
      rcases HKK.out with h | h
      · exact h
      · exact absurd h h4
    subst hk0
    have h4i : (kind == 4) = false := by rw [beq_eq_false_iff_ne]; exact h4
    have HN4 := Lib.hid h4
    clear h4
    by_cases h1 : kind = 1
    · subst h1
      have HF := Lib.hid (show hoB lp s 1 n zs = skB lp s n by unfold hoB; rw [if_neg HS0.out, if_neg HNB.out]; rfl)
      go_wp2_with fail
      refine (HSK.out W0 HK0.out).mono ?_
      rintro e w1 ⟨rfl, hk⟩
      have HK1 := Lib.hid (HK0.out.trans hk (fun _ _ hf => hf))
      clear hk
      go_wp2_with fail
      go_ret
      exact ⟨by rw [HF.out]; rfl, HK1.out⟩
    · have h1i : (kind == 1) = false := by rw [beq_eq_false_iff_ne]; exact h1
      have HN1 := Lib.hid h1
      clear h1
      by_cases h2 : kind = 2
      · subst h2
        have HF := Lib.hid (show hoB lp s 2 n zs = leB lp s n by unfold hoB; rw [if_neg HS0.out, if_neg HNB.out]; rfl)
        go_wp2_with fail
        refine (HLE.out W0 HK0.out).mono ?_
        rintro e w1 ⟨rfl, hk⟩
        have HK1 := Lib.hid (HK0.out.trans hk (fun _ _ hf => hf))
        clear hk
        go_wp2_with fail
        go_ret
        exact ⟨by rw [HF.out]; rfl, HK1.out⟩
      · have h2i : (kind == 2) = false := by rw [beq_eq_false_iff_ne]; exact h2
        have HN2 := Lib.hid h2
        clear h2
        by_cases h3 : kind = 3
        · subst h3
          have HF := Lib.hid (show hoB lp s 3 n zs = msB lp s n by unfold hoB; rw [if_neg HS0.out, if_neg HNB.out]; rfl)
          go_wp2_with fail
          refine (HMS.out W0 HK0.out).mono ?_
          rintro e w1 ⟨rfl, hk⟩
          have HK1 := Lib.hid (HK0.out.trans hk (fun _ _ hf => hf))
          clear hk
          go_wp2_with fail
          go_ret
          exact ⟨by rw [HF.out]; rfl, HK1.out⟩
        · have h3i : (kind == 3) = false := by rw [beq_eq_false_iff_ne]; exact h3
          have HF := Lib.hid (show false = hoB lp s kind n zs by unfold hoB; rw [if_neg HS0.out, if_neg HNB.out, if_neg HN1.out, if_neg HN2.out, if_neg h3, if_neg HN4.out])
          clear h3
          go_wp2_with fail
          go_ret
          exact ⟨congrArg (fun b => Ending.returned (Value.bool b)) HF.out, HK0.out⟩
end Go.Proofs.YtkbdfnmeomkpjaaGreat
