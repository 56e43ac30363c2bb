/- A dense table's step; no condition but the sizes. -/
import Derived.Test.YtkbdfnmeomkpjaaGreatDenB
namespace Go.Proofs.YtkbdfnmeomkpjaaGreat
open Go.RowKit
set_option linter.unusedVariables false
set_option linter.unusedSimpArgs false
set_option maxRecDepth 100000

/-- Where a byte leads from what may be a state. -/
def stepZ (l : List (List UInt8)) (k : Int) (c : UInt8) : Int := if 0 ≤ k ∧ k < ((statesL l).length : Int) then (lsuf (statesL l) ((statesL l).getD k.toNat [] ++ [c]) : Int) else 0
theorem stepZ_in {l : List (List UInt8)} {s : Nat} {p : List UInt8} (c : UInt8) (h : (statesL l)[s]? = some p) : stepZ l (s : Int) c = (lsuf (statesL l) (p ++ [c]) : Int) := by
  have hs := (List.getElem?_eq_some_iff.1 h).1
  unfold stepZ
  rw [if_pos ⟨by omega, by omega⟩, Int.toNat_natCast, List.getD_eq_getElem?_getD, h]
  rfl
theorem stepZ_out {l : List (List UInt8)} {k : Int} (c : UInt8) (h : ¬ (0 ≤ k ∧ k < ((statesL l).length : Int))) : stepZ l k c = 0 := by
  unfold stepZ; rw [if_neg h]
/-- A dense table of a set. -/
structure DenI (w : World) (g : Nat) (l : List (List UInt8)) : Prop where
  ex : ∃ (cg nb W : Nat) (bs : List UInt8) (f : Nat → Nat), DenA w g cg nb (statesL l).length W bs f ∧ DOk l bs W f
  sts : Sts l (statesL l)
  few : (statesL l).length ≤ 241
theorem DenI.pure {w w' : World} {g : Nat} {l : List (List UInt8)} (h : DenI w g l) (hk : Pure' w w') : DenI w' g l := by
  obtain ⟨cg, nb, W, bs, f, h1, h2⟩ := h.ex
  exact ⟨⟨cg, nb, W, bs, f, h1.pure hk, h2⟩, h.sts, h.few⟩

set_option maxHeartbeats 1000000 in
theorem dlen_ (g : Nat) (l : List (List UInt8)) (w : World) (h : DenI w g l) : Calls Tryz.prog 160 #[.pointer (some ⟨g, 0, none⟩)] w fun e w' => e = .returned (.int .i64 ((statesL l).length : Int)) ∧ w' = w := by
  obtain ⟨cg, nb, W, bs, f, h1, _⟩ := h.ex
  have c3 := h1.box.cell 3
  clear h h1
  go_enter Tryz.func160, Tryz.ntmps160
  go_wp2
  go_ret
  exact ⟨rfl, rfl⟩
set_option maxHeartbeats 1000000 in
theorem dis_ (g : Nat) (l : List (List UInt8)) (k : Int) (w : World) (h : DenI w g l) : Calls Tryz.prog 134 #[.pointer (some ⟨g, 0, none⟩), .int .i64 k] w fun e w' => e = .returned (.bool (isB k (statesL l).length)) ∧ w' = w := by
  have HL := Lib.hid (dlen_ g l w h)
  clear h
  unfold isB
  by_cases hk : 0 ≤ k
  · go_enter Tryz.func134, Tryz.ntmps134
    go_wp2_with fail
    refine HL.out.mono ?_
    rintro e w1 ⟨rfl, rfl⟩
    go_wp2
    go_ret
    exact ⟨by simp [hk], rfl⟩
  · go_enter Tryz.func134, Tryz.ntmps134
    go_wp2
    go_ret
    exact ⟨by rw [show decide (0 ≤ k) = false by simp; omega]; rfl, rfl⟩

set_option maxHeartbeats 2000000 in
theorem dstep_ (g : Nat) (l : List (List UInt8)) (k : Int) (c : UInt8) (w : World) (h : DenI w g l) : Calls Tryz.prog 95 #[.pointer (some ⟨g, 0, none⟩), .int .i64 k, .int .u8 (c.toNat : Int)] w fun e w' => e = .returned (.int .i64 (stepZ l k c)) ∧ Pure' w w' := by
  have HI := Lib.hid (dis_ g l k w h)
  by_cases hk : 0 ≤ k ∧ k < ((statesL l).length : Int)
  · obtain ⟨s, rfl⟩ : ∃ s : Nat, k = (s : Int) := ⟨k.toNat, by omega⟩
    have hs : s < (statesL l).length := by omega
    rw [isB_in hs] at HI
    obtain ⟨p, hp⟩ : ∃ p, (statesL l)[s]? = some p := ⟨_, List.getElem?_eq_getElem hs⟩
    obtain ⟨cg, nb, W, bs, f, h1, h2⟩ := h.ex
    have hv := h2 s p c hp
    have hz := stepZ_in c hp
    have hlt := lsuf_lt h.sts (p ++ [c])
    have hfew := h.few
    rw [← hv] at hz hlt
    have HZ := Lib.hid hz
    have hW := h1.wid
    have hcb := h1.cls.few
    have hcfl := cf_le bs c
    have HR := Lib.hid (fun (X : World) (hX : Pure' w X) => drow_ g cg nb _ W bs f s X (h1.pure hX) hs hfew (by omega) (by omega))
    have HO := Lib.hid (fun (X : World) (hX : Pure' w X) => cof_ cg bs c X (h1.cls.pure hX))
    have hcW : cf bs c < W := by omega
    have hidx : s * W + cf bs c < (statesL l).length * W := row_lt hs hcW
    obtain ⟨q, hq⟩ : ∃ q, cf bs c = q := ⟨_, rfl⟩
    obtain ⟨so, hso⟩ : ∃ a, s * W = a := ⟨_, rfl⟩
    obtain ⟨v, hvv⟩ : ∃ v, f (s * W + cf bs c) = v := ⟨_, rfl⟩
    have HC := Lib.hid (fun (X : World) (hX : Pure' w X) => show X.cell? ⟨nb, so + q, none⟩ = some (.int .i32 (v : Int)) by
      rw [((h1.tab).keep hX (fun hf => hf)).cell, ← hso, ← hq, tabV_at f hidx, hvv])
    have HC0 := Lib.hid (fun (X : World) (hX : Pure' w X) => show X.cell? ⟨g, 0, none⟩ = some (.pointer (some ⟨cg, 0, none⟩)) by rw [((h1.box).keep hX (fun hf => hf)).cell]; rfl)
    rw [hq] at HO hcW
    rw [hso] at HR
    rw [hvv] at HZ hlt
    clear h h1 h2 hp hv hz hW hcb hcfl hidx hq hso hvv
    rw [HZ.out]
    clear HZ
    generalize (statesL l).length = n at *
    have hqi : (q : Int) < (W : Int) := by omega
    have hvw : IntKind.i64.wrap (v : Int) = (v : Int) := by rw [IntKind.wrap_i64]; omega
    clear hk hs
    go_enter Tryz.func95, Tryz.ntmps95
    go_wp2_with fail
    refine HI.out.mono ?_
    rintro e w1 ⟨rfl, rfl⟩
    go_upto_region 3 with fail
    refine wp_region_held_drew (S := (fun X => Pure' w1 X)) (by kernel_rfl) ((Keeps.refl _ w1).drew) (fun hHeld => ?_)
    have HH := Lib.hid hHeld
    clear hHeld
    refine wpAnyH_take (i := 0) (oi := ⟨some 11, .move (.tmp 0), _, _, _, _⟩) (v := ?vv1) rfl (by kernel_rfl) (by kernel_rfl) (by kernel_rfl) (fun _ _ _ h => h) (Or.inl ⟨by rfl, ?hy1⟩) HH.out ?rr1
    case hy1 => intro W hSw; go_simp; try with_reducible rfl
    try simp only [Act.put, List.setIfInBounds_toArray, List.set_cons_zero, List.set_cons_succ]
    refine wpAnyH_take (i := 1) (oi := ⟨some 12, .move (.tmp 1), _, _, _, _⟩) (v := ?vv2) rfl (by kernel_rfl) (by kernel_rfl) (by kernel_rfl) (fun _ _ _ h => h) (Or.inl ⟨by rfl, ?hy2⟩) HH.out ?rr2
    case hy2 => intro W hSw; go_simp; try with_reducible rfl
    try simp only [Act.put, List.setIfInBounds_toArray, List.set_cons_zero, List.set_cons_succ]
    refine wpAnyH_take (i := 3) (oi := ⟨some 14, .move (.tmp 0), _, _, _, _⟩) (v := ?vv3) rfl (by kernel_rfl) (by kernel_rfl) (by kernel_rfl) (fun _ _ _ h => h) (Or.inl ⟨by rfl, ?hy3⟩) HH.out ?rr3
    case hy3 => intro W hSw; go_simp; try with_reducible rfl
    try simp only [Act.put, List.setIfInBounds_toArray, List.set_cons_zero, List.set_cons_succ]
    refine wpAnyH_take (i := 4) (oi := ⟨some 15, .nilCheck (.tmp 14), _, _, _, _⟩) (v := ?vv4) rfl (by kernel_rfl) (by kernel_rfl) (by kernel_rfl) (fun _ _ _ h => h) (Or.inl ⟨by rfl, ?hy4⟩) HH.out ?rr4
    case hy4 => intro W hSw; go_simp; try with_reducible rfl
    try simp only [Act.put, List.setIfInBounds_toArray, List.set_cons_zero, List.set_cons_succ]
    refine wpAnyH_take (i := 5) (oi := ⟨some 16, .fieldAddr 169 (.tmp 15) 0, _, _, _, _⟩) (v := ?vv5) rfl (by kernel_rfl) (by kernel_rfl) (by kernel_rfl) (fun _ _ _ h => h) (Or.inl ⟨by rfl, ?hy5⟩) HH.out ?rr5
    case hy5 => intro W hSw; go_simp; try with_reducible rfl
    try simp only [Act.put, List.setIfInBounds_toArray, List.set_cons_zero, List.set_cons_succ]
    refine wpAnyH_take (i := 6) (oi := ⟨some 17, .load 165 (.tmp 16), _, _, _, _⟩) (v := ?vv6) rfl (by kernel_rfl) (by kernel_rfl) (by kernel_rfl) (fun _ _ _ h => h) (Or.inl ⟨by rfl, ?hy6⟩) HH.out ?rr6
    case hy6 => intro W hSw; have y := HC0.out W hSw; go_simp; try with_reducible rfl
    try simp only [Act.put, List.setIfInBounds_toArray, List.set_cons_zero, List.set_cons_succ]
    refine wpAnyH_take (i := 7) (oi := ⟨some 18, .move (.tmp 2), _, _, _, _⟩) (v := ?vv7) rfl (by kernel_rfl) (by kernel_rfl) (by kernel_rfl) (fun _ _ _ h => h) (Or.inl ⟨by rfl, ?hy7⟩) HH.out ?rr7
    case hy7 => intro W hSw; go_simp; try with_reducible rfl
    try simp only [Act.put, List.setIfInBounds_toArray, List.set_cons_zero, List.set_cons_succ]
    refine wpAnyH_ready (rs := [2]) (by kernel_rfl) (by simp) ?_
    refine AllReadyH.cons (o := ⟨some 13, .call { callee := .value (.func 127), args := #[.tmp 11, .tmp 12], argTypes := #[133, 3] }, _, _, _, _⟩) rfl (fun K hK => ?_) AllReadyH.nil
    go_simp
    go_at_call 127
    refine (HR.out _ HH.out).mono ?_
    rintro e wD ⟨rfl, hk2⟩
    have HK2 := Lib.hid (drewn_pure hk2)
    clear hk2
    go_wp2_with fail
    refine hK.out _ _ (HH.out.trans HK2.out (fun _ _ hf => hf)) (fun hHeld => ?_)
    have HH := Lib.hid hHeld
    clear hHeld hK K
    try simp only [Act.put, List.setIfInBounds_toArray, List.set_cons_zero, List.set_cons_succ]
    refine wpAnyH_ready (rs := [8]) (by kernel_rfl) (by simp) ?_
    refine AllReadyH.cons (o := ⟨some 19, .call { callee := .value (.func 131), args := #[.tmp 17, .tmp 18], argTypes := #[165, 5] }, _, _, _, _⟩) rfl (fun K hK => ?_) AllReadyH.nil
    go_simp
    go_at_call 131
    refine (HO.out _ HH.out).mono ?_
    rintro e wD ⟨rfl, rfl⟩
    go_wp2_with fail
    refine hK.out _ _ (HH.out) (fun hHeld => ?_)
    have HH := Lib.hid hHeld
    clear hHeld hK K
    try simp only [Act.put, List.setIfInBounds_toArray, List.set_cons_zero, List.set_cons_succ]
    refine wpAnyH_take (i := 9) (oi := ⟨some 20, .indexAddr 167 (.tmp 13) (.tmp 19), _, _, _, _⟩) (v := ?vv8) rfl (by kernel_rfl) (by kernel_rfl) (by kernel_rfl) (fun _ _ _ h => h) (Or.inl ⟨by rfl, ?hy8⟩) HH.out ?rr8
    case hy8 => intro W hSw; go_simp; try with_reducible rfl
    try simp only [Act.put, List.setIfInBounds_toArray, List.set_cons_zero, List.set_cons_succ]
    refine wpAnyH_take (i := 10) (oi := ⟨some 21, .load 21 (.tmp 20), _, _, _, _⟩) (v := ?vv9) rfl (by kernel_rfl) (by kernel_rfl) (by kernel_rfl) (fun _ _ _ h => h) (Or.inl ⟨by rfl, ?hy9⟩) HH.out ?rr9
    case hy9 => intro W hSw; have y := HC.out W hSw; go_simp; try with_reducible rfl
    try simp only [Act.put, List.setIfInBounds_toArray, List.set_cons_zero, List.set_cons_succ]
    refine wpAnyH_take (i := 11) (oi := ⟨some 22, .convert 21 3 (.tmp 21), _, _, _, _⟩) (v := ?vv10) rfl (by kernel_rfl) (by kernel_rfl) (by kernel_rfl) (fun _ _ _ h => h) (Or.inl ⟨by rfl, ?hy10⟩) HH.out ?rr10
    case hy10 => intro W hSw; go_simp; try with_reducible rfl
    try simp only [Act.put, List.setIfInBounds_toArray, List.set_cons_zero, List.set_cons_succ]
    refine wpAnyH_take (i := 12) (oi := ⟨some 6, .assign (.tmp 22), _, _, _, _⟩) (v := ?vv11) rfl (by kernel_rfl) (by kernel_rfl) (by kernel_rfl) (fun _ _ _ h => h) (Or.inl ⟨by rfl, ?hy11⟩) HH.out ?rr11
    case hy11 => intro W hSw; go_simp; try with_reducible rfl
    try simp only [Act.put, List.setIfInBounds_toArray, List.set_cons_zero, List.set_cons_succ]
    refine wpAnyH_done (by kernel_rfl) ?_ _
    go_wp2
    go_ret
    exact ⟨rfl, HH.out⟩
  · rw [isB_out hk] at HI
    rw [stepZ_out c hk]
    clear h
    go_enter Tryz.func95, Tryz.ntmps95
    go_wp2_with fail
    refine HI.out.mono ?_
    rintro e w1 ⟨rfl, rfl⟩
    go_wp2
    go_ret
    exact ⟨rfl, Keeps.refl _ _⟩

end Go.Proofs.YtkbdfnmeomkpjaaGreat
