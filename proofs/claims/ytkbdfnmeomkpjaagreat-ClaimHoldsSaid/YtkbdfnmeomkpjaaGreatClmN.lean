/- Whether a record holds, by the reference; no condition but the sizes. -/
import Derived.Test.YtkbdfnmeomkpjaaGreatClmM
namespace Go.Proofs.YtkbdfnmeomkpjaaGreat
open Go.RowKit
set_option linter.unusedVariables false
set_option linter.unusedSimpArgs false
set_option maxRecDepth 100000

theorem ho_bad {lp : List ByteArray} {u : List UInt8} {kind n : Int} {zs : List Int} (hu : u ≠ []) (hz : zs ≠ []) (hk : kind ≠ 4) : hoB lp u kind n zs = false := by
  unfold hoB
  rw [if_neg hu, if_pos ⟨hz, hk⟩]
theorem ho_not {lp : List ByteArray} {u : List UInt8} {kind n : Int} {zs : List Int} (h1 : kind ≠ 1) (h2 : kind ≠ 2) (h3 : kind ≠ 3) (h4 : kind ≠ 4) : hoB lp u kind n zs = false := by
  unfold hoB
  split
  · rfl
  · split
    · rfl
    · first | rfl | (rw [if_neg h1, if_neg h2, if_neg h3, if_neg h4])
theorem ho1 {lp : List ByteArray} {u : List UInt8} {n : Int} (hu : u ≠ []) : hoB lp u 1 n [] = skB lp u n := by
  unfold hoB
  rw [if_neg hu, if_neg (by simp), if_pos rfl]
theorem ho2 {lp : List ByteArray} {u : List UInt8} {n : Int} (hu : u ≠ []) : hoB lp u 2 n [] = leB lp u n := by
  unfold hoB
  rw [if_neg hu, if_neg (by simp), if_neg (by decide), if_pos rfl]
theorem ho3 {lp : List ByteArray} {u : List UInt8} {n : Int} (hu : u ≠ []) : hoB lp u 3 n [] = msB lp u n := by
  unfold hoB
  rw [if_neg hu, if_neg (by simp), if_neg (by decide), if_neg (by decide), if_pos rfl]
theorem ho1_first {lp : List ByteArray} {u : List UInt8} {c : UInt8} {f d : Nat} (hu : u ≠ []) (hc : u.reverse[0]? = some c) (hf : FirstP (bl lp) c (minL lp) f) (hd : 1 ≤ d) : hoB lp u 1 (d : Int) [] = decide (d ≤ f) := by
  rw [ho1 hu]
  unfold skB
  rw [hc]
  show skipB _ _ _ _ = _
  rw [skip_first hf, decide_eq_true hd, Bool.true_and]
theorem ho1_hi {lp : List ByteArray} {u : List UInt8} {d : Nat} (hu : u ≠ []) (hd : minL lp < d) : hoB lp u 1 (d : Int) [] = false := by
  rw [ho1 hu]
  unfold skB
  split
  · unfold skipB
    rw [decide_eq_false (show ¬ (d : Int) ≤ (minL lp : Int) by omega), Bool.and_false, Bool.false_and]
  · rfl
theorem ho1_lo {lp : List ByteArray} {u : List UInt8} {n : Int} (hu : u ≠ []) (hd : ¬ 1 ≤ n) : hoB lp u 1 n [] = false := by
  rw [ho1 hu]
  unfold skB
  split
  · unfold skipB
    rw [decide_eq_false hd, Bool.false_and, Bool.false_and]
  · rfl
theorem ho2_near {lp : List ByteArray} {u : List UInt8} {a b : UInt8} {f d : Nat} (hu : u ≠ []) (hb : u.reverse[0]? = some b) (ha : u.reverse[1]? = some a) (hf : NearP (bl lp) a b (minL lp - 1) f) (hd : 1 ≤ d) : hoB lp u 2 (d : Int) [] = decide (d ≤ f) := by
  rw [ho2 hu]
  unfold leB
  rw [hb, ha]
  show leapB _ _ _ _ _ = _
  rw [leap_near hf, decide_eq_true hd, Bool.true_and]
theorem ho2_hi {lp : List ByteArray} {u : List UInt8} {d : Nat} (hu : u ≠ []) (hd : ¬ (d : Int) ≤ (minL lp : Int) - 1) (hd1 : 1 ≤ d) : hoB lp u 2 (d : Int) [] = false := by
  rw [ho2 hu]
  unfold leB
  split
  · unfold leapB
    rw [decide_eq_false (show ¬ (d : Int) ≤ ((minL lp - 1 : Nat) : Int) by omega), Bool.and_false, Bool.false_and]
  · rfl
theorem ho2_lo {lp : List ByteArray} {u : List UInt8} {n : Int} (hu : u ≠ []) (hd : ¬ 1 ≤ n) : hoB lp u 2 n [] = false := by
  rw [ho2 hu]
  unfold leB
  split
  · unfold leapB
    rw [decide_eq_false hd, Bool.false_and, Bool.false_and]
  · rfl
theorem ho2_one {lp : List ByteArray} {u : List UInt8} {n : Int} (hu : u ≠ []) (h1 : u.length ≤ 1) : hoB lp u 2 n [] = false := by
  rw [ho2 hu]
  unfold leB
  have h : u.reverse[1]? = none := List.getElem?_eq_none (by simpa using h1)
  rw [h]
  split
  · next h2 => cases h2
  · rfl
theorem ho3_lo {lp : List ByteArray} {u : List UInt8} {n : Int} (hu : u ≠ []) (hd : ¬ 1 ≤ n) : hoB lp u 3 n [] = false := by
  rw [ho3 hu]
  unfold msB
  split
  · rw [decide_eq_false hd, Bool.false_and]
  · rfl
theorem ms_rm {lp : List ByteArray} {u : List UInt8} {d : Nat} (hne : ∀ x ∈ bl lp, x ≠ []) (hu : u ≠ []) (h : msB lp u (d : Int) = true) : rmB (bl lp) u d = true := by
  unfold rmB
  rw [List.all_eq_true]
  intro y hy
  by_cases hc : y.reverse[0]? = u.reverse[0]?
  · obtain ⟨i, hi, rfl⟩ := List.mem_iff_getElem.1 hy
    have hg : (bl lp).getD i [] = (bl lp)[i] := by rw [List.getD_eq_getElem?_getD, List.getElem?_eq_getElem hi]; rfl
    unfold msB at h
    cases hx : u.reverse[0]? with
    | none =>
      rw [List.getElem?_eq_none_iff] at hx
      simp at hx
      exact absurd hx hu
    | some c =>
      rw [hx] at h
      have h2 := (Bool.and_eq_true _ _ ▸ h).2
      rw [List.all_eq_true] at h2
      have h3 := h2 i (by
        unfold endK
        rw [List.mem_filter]
        refine ⟨List.mem_range.2 hi, ?_⟩
        rw [hg]
        rw [hx] at hc
        exact decide_eq_true (by rw [UInt8.ofNat_toNat]; exact hc))
      unfold refB at h3
      rw [hg, Int.toNat_natCast] at h3
      rw [h3, Bool.or_true]
  · rw [decide_eq_true hc, Bool.true_or]
theorem ho3_ms {lp : List ByteArray} {u : List UInt8} {d : Nat} (hu : u ≠ []) (hne : ∀ x ∈ bl lp, x ≠ []) (hd : 1 ≤ d) : hoB lp u 3 (d : Int) [] = rmB (bl lp) u d := by
  rw [ho3 hu, Bool.eq_iff_iff]
  exact ⟨ms_rm hne hu, rm_ms hd hu⟩
theorem ho4_at {lp : List ByteArray} {u : List UInt8} {zs : List Int} (hu : u ≠ []) (hne : ∀ x ∈ bl lp, x ≠ []) : hoB lp u 4 0 zs = decide (zs = (hitsL (bl lp) u).map (fun (i : Nat) => (i : Int))) := by
  unfold hoB
  rw [if_neg hu, if_neg (by simp), if_neg (by decide), if_neg (by decide), if_neg (by decide), if_pos rfl, idB_hits hne]
  simp
theorem ho4_no {lp : List ByteArray} {u : List UInt8} {n : Int} {zs : List Int} (hu : u ≠ []) (hn : n ≠ 0) : hoB lp u 4 n zs = false := by
  unfold hoB
  rw [if_neg hu, if_neg (by simp), if_neg (by decide), if_neg (by decide), if_neg (by decide), if_pos rfl, decide_eq_false hn, Bool.false_and]
set_option maxHeartbeats 1000000 in
theorem rbare_ (kind n r : Int) (A : Option Addr) (k c : Nat) (w : World) (b : Bool) (hb : decide (k = 0) = b) : Calls Tryz.prog 65 #[.agg #[.int .i64 kind, .int .i64 n, .int .i64 r, .slice A k c]] w fun e w' => e = .returned (.bool b) ∧ Pure' w w' := by
  have HK := Lib.hid (show Pure' w (w.alloc (.cells #[.int .i64 kind, .int .i64 n, .int .i64 r, .slice A k c] 25)) from (Keeps.refl _ w).alloc _)
  have hb2 : ((k : Int) == 0) = b := by
    rw [← hb, Bool.eq_iff_iff, beq_iff_eq, decide_eq_true_iff]
    omega
  have HB := Lib.hid hb2
  clear hb hb2
  by_cases h0 : k = 0
  · subst h0
    obtain rfl : b = true := by rw [← HB.out]; rfl
    go_enter Tryz.func65, Tryz.ntmps65
    go_wp2_with fail
    go_ret
    exact ⟨rfl, HK.out⟩
  · have h0i : ((k : Int) == 0) = false := by rw [beq_eq_false_iff_ne]; omega
    obtain rfl : b = false := by rw [← HB.out, h0i]
    clear h0
    go_enter Tryz.func65, Tryz.ntmps65
    go_wp2_with fail
    go_ret
    exact ⟨rfl, HK.out⟩
set_option maxHeartbeats 16000000 in
theorem rholds24_ (A : Option Addr) (k c B : Nat) (lp : List ByteArray) (s : List UInt8) (e : Nat) (kind n r : Int) (A4 : Option Addr) (m4 c4 B4 : Nat) (zs : List Int) (w : World) (h : Sees w B 1 A k (strVs (bl lp))) (hB : B ≤ w.heap.size) (hz : Sees w B4 1 A4 m4 (zs.map (Value.int .i64))) (hB4 : B4 ≤ w.heap.size) (hk : k ≤ 1000) (hm4 : m4 ≤ 1000) (hll : ∀ x ∈ bl lp, x.length ≤ 1000) (hne : ∀ x ∈ bl lp, x ≠ []) (hm2 : minL lp ≤ 1000) (hs : s.length ≤ 1000) (he : e ≤ s.length) (hn : n ≤ 9223372036854775807) :
    Calls Tryz.prog 21 #[.slice A k c, .string ⟨s.toArray⟩, .int .i64 (e : Int), .agg #[.int .i64 kind, .int .i64 n, .int .i64 r, .slice A4 m4 c4]] w fun e2 w' => e2 = .returned (.bool (hoB lp (s.take e) kind n zs)) ∧ Pure' w w' := by
  have hbs : (⟨s.toArray⟩ : ByteArray).size = s.length := Lib.size_eq _
  have HMISS := Lib.hid (fun (he1 : 1 ≤ e) (d : Nat) (hd : d ≤ 9223372036854775807) (W : World) (hW : Pure' w W) => rmissed_ A k c B (bl lp) s e d W (h.pure hW hB) hk hll hne hs he1 he hd)
  have HAT := Lib.hid (fun (W : World) (hW : Pure' w W) => rat15_ A k c B (bl lp) s e W (h.pure hW hB) (by have := hW.size; omega) hk hll hs he)
  have HFI := Lib.hid (fun (ch : UInt8) (W : World) (hW : Pure' w W) => rfirst_ A k c B (minL lp) ch (bl lp) W (h.pure hW hB) hk hll (fun n h => least_is h) hm2)
  have HNEA := Lib.hid (fun (a ch : UInt8) (W : World) (hW : Pure' w W) => rnear_ A k c B (minL lp) a ch (bl lp) W (h.pure hW hB) hk hll (fun n h => least_is h) hm2)
  have HLE := Lib.hid (fun (W : World) (hW : Pure' w W) => rleastE_ A k c B (bl lp) W (h.pure hW hB) hk hll)
  have HSA := Lib.hid (fun (L : List Nat) (aL : Option Addr) (cL : Nat) (W : World) (hW : Pure' w W) (hs : Sees W W.heap.size 1 aL L.length (idVs L)) (hl : L.length ≤ 1000) => lst_same A4 aL m4 L.length c4 cL B4 W.heap.size zs (L.map (fun (i : Nat) => (i : Int))) W (hz.pure hW hB4) (by
    rwa [show idVs L = (L.map (fun (i : Nat) => (i : Int))).map (Value.int .i64) by simp [idVs]] at hs) (by omega) (by omega))
  have HLN := Lib.hid (show (hitsL (bl lp) (s.take e)).length ≤ 1000 by
    unfold hitsL
    refine Nat.le_trans (List.length_filter_le _ _) ?_
    rw [List.length_range]
    have := h.1; rw [strVs_len] at this; omega)
  have HZL := Lib.hid (show zs.length = m4 by have := hz.1; simpa using this)
  have HNE := Lib.hid hne
  have HTR := Lib.hid (fun d (hd : d < e) => take_rev he hd)
  have HUL := Lib.hid (show (s.take e).length = e by rw [List.length_take]; omega)
  obtain ⟨sn, hsn⟩ : ∃ n, s.length = n := ⟨_, rfl⟩
  have HSN := Lib.hid hsn
  rw [hsn] at hbs hs he
  have HK0 := Lib.hid (show Pure' w (w.alloc (.cells #[.int .i64 kind, .int .i64 n, .int .i64 r, .slice A4 m4 c4] 25)) from (Keeps.refl _ w).alloc _)
  have HBR := Lib.hid (show Blk (w.alloc (.cells #[.int .i64 kind, .int .i64 n, .int .i64 r, .slice A4 m4 c4] 25)) w.heap.size 25 #[.int .i64 kind, .int .i64 n, .int .i64 r, .slice A4 m4 c4] from Blk.newAt rfl)
  generalize s.take e = u at *
  clear h hz hll hne hB hB4 hsn
  go_enter Tryz.func21, Tryz.ntmps21
  go_upto_region 1 with fail
  generalize (w.alloc (.cells #[.int .i64 kind, .int .i64 n, .int .i64 r, .slice A4 m4 c4] 25)) = W0 at *
  generalize w.heap.size = br at *
  have HRC := Lib.hid (fun (W : World) (hW : Pure' W0 W) => And.intro ((HBR.out.keep hW (fun hf => hf)).cell 0) (And.intro ((HBR.out.keep hW (fun hf => hf)).cell 1) (And.intro ((HBR.out.keep hW (fun hf => hf)).cell 2) ((HBR.out.keep hW (fun hf => hf)).cell 3))))
  by_cases he1 : 1 ≤ e
  case neg =>
    obtain rfl : e = 0 := by omega
    have HF := Lib.hid (show hoB lp u kind n zs = false by unfold hoB; rw [if_pos (List.eq_nil_of_length_eq_zero HUL.out)])
    go_wp2_with fail
    go_ret
    refine ⟨?_, HK0.out⟩
    rw [HF.out]
    rfl
  have he1i : ¬ (e : Int) < 1 := by omega
  have hesi : ¬ (sn : Int) < (e : Int) := by omega
  have HU := Lib.hid (show u ≠ [] from fun h0 => by have h1 := HUL.out; rw [h0] at h1; simp at h1; omega)
  obtain ⟨f, hf⟩ : ∃ f, f + 1 = e := ⟨e - 1, by omega⟩
  have hwe : IntKind.i64.wrap ((e : Int) - 1) = (f : Int) := by rw [IntKind.wrap_i64]; omega
  have hfs : (f : Int) < (sn : Int) := by omega
  obtain ⟨sb, _, hsb, hgs⟩ := at_c (show f < s.length by rw [HSN.out]; omega)
  have HUB := Lib.hid (show u.reverse[0]? = some sb by rw [HTR.out 0 (by omega), ← hsb]; congr 1; omega)
  have hsbl := sb.toNat_lt
  obtain ⟨r0, r1, r2, r3⟩ := HRC.out W0 (Keeps.refl _ _)
  clear hsb
  go_wp2_with fail
  refine (HLE.out W0 HK0.out).mono ?_
  rintro e2 w1 ⟨⟨m, rfl, hm⟩, hw1⟩
  subst w1
  obtain rfl := least_is hm
  obtain ⟨m, hmm⟩ : ∃ m, minL lp = m := ⟨_, rfl⟩
  have HM := Lib.hid hmm
  rw [hmm] at HFI HNEA hm2 ⊢
  clear hm hmm HLE
  by_cases k1 : kind = 1
  · subst k1
    by_cases hb : m4 = 0
    · subst hb
      obtain rfl : zs = [] := List.eq_nil_of_length_eq_zero HZL.out
      by_cases hn1 : 1 ≤ n
      · obtain ⟨d, rfl⟩ : ∃ d : Nat, n = (d : Int) := ⟨n.toNat, by omega⟩
        by_cases hnm : d ≤ m
        · have hnmi : (d : Int) ≤ (m : Int) := by omega
          go_wp2_with fail
          refine wp_region_held_drew (S := (fun X => Pure' W0 X)) (by kernel_rfl) ((Keeps.refl _ W0).drew) (fun hHeld => ?_)
          have HH := Lib.hid hHeld
          clear hHeld
          refine wpAnyH_take (i := 0) (oi := ⟨some 23, .load 25 (.tmp 7), _, _, _, _⟩) (v := ?vv1) rfl (by kernel_rfl) (by kernel_rfl) (by kernel_rfl) (fun _ _ _ h => h) (Or.inl ⟨by rfl, ?hy1⟩) HH.out ?rr1
          case hy1 => intro W hSw; obtain ⟨y0, y1, y2, y3⟩ := HRC.out W hSw; go_simp; try with_reducible rfl
          try simp only [Act.put, List.setIfInBounds_toArray, List.set_cons_zero, List.set_cons_succ]
          refine wpAnyH_ready (rs := [1]) (by kernel_rfl) (by simp) ?_
          refine AllReadyH.cons (o := ⟨some 24, .call { callee := .value (.func 65), args := #[.tmp 23], argTypes := #[25] }, _, _, _, _⟩) rfl (fun K hK => ?_) AllReadyH.nil
          go_simp
          refine (rbare_ _ _ _ _ 0 _ _ true rfl).mono ?_
          rintro e2 wB ⟨rfl, hkB⟩
          have HQ1 := Lib.hid (HH.out.trans hkB (fun _ _ hf => hf))
          clear hkB
          go_wp2_with fail
          refine hK.out _ _ (HQ1.out) (fun hHeld => ?_)
          have HH := Lib.hid hHeld
          clear hHeld hK K
          try simp only [Act.put, List.setIfInBounds_toArray, List.set_cons_zero, List.set_cons_succ]
          refine wpAnyH_take (i := 2) (oi := ⟨some 25, .move (.tmp 24), _, _, _, _⟩) (v := ?vv2) rfl (by kernel_rfl) (by kernel_rfl) (by kernel_rfl) (fun _ _ _ h => h) (Or.inl ⟨by rfl, ?hy2⟩) HH.out ?rr2
          case hy2 => intro W hSw; go_simp; try with_reducible rfl
          try simp only [Act.put, List.setIfInBounds_toArray, List.set_cons_zero, List.set_cons_succ]
          refine wpAnyH_take (i := 3) (oi := ⟨some 26, .fieldAddr 25 (.tmp 7) 1, _, _, _, _⟩) (v := ?vv3) rfl (by kernel_rfl) (by kernel_rfl) (by kernel_rfl) (fun _ _ _ h => h) (Or.inl ⟨by rfl, ?hy3⟩) HH.out ?rr3
          case hy3 => intro W hSw; go_simp; try with_reducible rfl
          try simp only [Act.put, List.setIfInBounds_toArray, List.set_cons_zero, List.set_cons_succ]
          refine wpAnyH_take (i := 4) (oi := ⟨some 27, .load 3 (.tmp 26), _, _, _, _⟩) (v := ?vv4) rfl (by kernel_rfl) (by kernel_rfl) (by kernel_rfl) (fun _ _ _ h => h) (Or.inl ⟨by rfl, ?hy4⟩) HH.out ?rr4
          case hy4 => intro W hSw; obtain ⟨y0, y1, y2, y3⟩ := HRC.out W hSw; go_simp; try with_reducible rfl
          try simp only [Act.put, List.setIfInBounds_toArray, List.set_cons_zero, List.set_cons_succ]
          refine wpAnyH_take (i := 5) (oi := ⟨some 28, .binOp .geq 3 (.tmp 27) (.const (.int .i64 1)) 3, _, _, _, _⟩) (v := ?vv5) rfl (by kernel_rfl) (by kernel_rfl) (by kernel_rfl) (fun _ _ _ h => h) (Or.inl ⟨by rfl, ?hy5⟩) HH.out ?rr5
          case hy5 => intro W hSw; go_simp; try with_reducible rfl
          try simp only [Act.put, List.setIfInBounds_toArray, List.set_cons_zero, List.set_cons_succ]
          refine wpAnyH_take (i := 6) (oi := ⟨some 29, .pick (.tmp 25) (.tmp 28) (.const (.bool false)), _, _, _, _⟩) (v := ?vv6) rfl (by kernel_rfl) (by kernel_rfl) (by kernel_rfl) (fun _ _ _ h => h) (Or.inl ⟨by rfl, ?hy6⟩) HH.out ?rr6
          case hy6 => intro W hSw; go_simp; try with_reducible rfl
          try simp only [Act.put, List.setIfInBounds_toArray, List.set_cons_zero, List.set_cons_succ]
          refine wpAnyH_take (i := 7) (oi := ⟨some 30, .move (.tmp 29), _, _, _, _⟩) (v := ?vv7) rfl (by kernel_rfl) (by kernel_rfl) (by kernel_rfl) (fun _ _ _ h => h) (Or.inl ⟨by rfl, ?hy7⟩) HH.out ?rr7
          case hy7 => intro W hSw; go_simp; try with_reducible rfl
          try simp only [Act.put, List.setIfInBounds_toArray, List.set_cons_zero, List.set_cons_succ]
          refine wpAnyH_take (i := 8) (oi := ⟨some 31, .fieldAddr 25 (.tmp 7) 1, _, _, _, _⟩) (v := ?vv8) rfl (by kernel_rfl) (by kernel_rfl) (by kernel_rfl) (fun _ _ _ h => h) (Or.inl ⟨by rfl, ?hy8⟩) HH.out ?rr8
          case hy8 => intro W hSw; go_simp; try with_reducible rfl
          try simp only [Act.put, List.setIfInBounds_toArray, List.set_cons_zero, List.set_cons_succ]
          refine wpAnyH_take (i := 9) (oi := ⟨some 32, .load 3 (.tmp 31), _, _, _, _⟩) (v := ?vv9) rfl (by kernel_rfl) (by kernel_rfl) (by kernel_rfl) (fun _ _ _ h => h) (Or.inl ⟨by rfl, ?hy9⟩) HH.out ?rr9
          case hy9 => intro W hSw; obtain ⟨y0, y1, y2, y3⟩ := HRC.out W hSw; go_simp; try with_reducible rfl
          try simp only [Act.put, List.setIfInBounds_toArray, List.set_cons_zero, List.set_cons_succ]
          refine wpAnyH_take (i := 10) (oi := ⟨some 33, .move (.tmp 9), _, _, _, _⟩) (v := ?vv10) rfl (by kernel_rfl) (by kernel_rfl) (by kernel_rfl) (fun _ _ _ h => h) (Or.inl ⟨by rfl, ?hy10⟩) HH.out ?rr10
          case hy10 => intro W hSw; go_simp; try with_reducible rfl
          try simp only [Act.put, List.setIfInBounds_toArray, List.set_cons_zero, List.set_cons_succ]
          refine wpAnyH_take (i := 11) (oi := ⟨some 34, .binOp .leq 3 (.tmp 32) (.tmp 33) 3, _, _, _, _⟩) (v := ?vv11) rfl (by kernel_rfl) (by kernel_rfl) (by kernel_rfl) (fun _ _ _ h => h) (Or.inl ⟨by rfl, ?hy11⟩) HH.out ?rr11
          case hy11 => intro W hSw; go_simp; try with_reducible rfl
          try simp only [Act.put, List.setIfInBounds_toArray, List.set_cons_zero, List.set_cons_succ]
          refine wpAnyH_take (i := 12) (oi := ⟨some 35, .pick (.tmp 30) (.tmp 34) (.const (.bool false)), _, _, _, _⟩) (v := ?vv12) rfl (by kernel_rfl) (by kernel_rfl) (by kernel_rfl) (fun _ _ _ h => h) (Or.inl ⟨by rfl, ?hy12⟩) HH.out ?rr12
          case hy12 => intro W hSw; go_simp; try with_reducible rfl
          try simp only [Act.put, List.setIfInBounds_toArray, List.set_cons_zero, List.set_cons_succ]
          refine wpAnyH_take (i := 13) (oi := ⟨some 36, .move (.tmp 35), _, _, _, _⟩) (v := ?vv13) rfl (by kernel_rfl) (by kernel_rfl) (by kernel_rfl) (fun _ _ _ h => h) (Or.inl ⟨by rfl, ?hy13⟩) HH.out ?rr13
          case hy13 => intro W hSw; go_simp; try with_reducible rfl
          try simp only [Act.put, List.setIfInBounds_toArray, List.set_cons_zero, List.set_cons_succ]
          refine wpAnyH_take (i := 14) (oi := ⟨some 37, .move (.tmp 0), _, _, _, _⟩) (v := ?vv14) rfl (by kernel_rfl) (by kernel_rfl) (by kernel_rfl) (fun _ _ _ h => h) (Or.inl ⟨by rfl, ?hy14⟩) HH.out ?rr14
          case hy14 => intro W hSw; go_simp; try with_reducible rfl
          try simp only [Act.put, List.setIfInBounds_toArray, List.set_cons_zero, List.set_cons_succ]
          refine wpAnyH_take (i := 15) (oi := ⟨some 38, .move (.tmp 1), _, _, _, _⟩) (v := ?vv15) rfl (by kernel_rfl) (by kernel_rfl) (by kernel_rfl) (fun _ _ _ h => h) (Or.inl ⟨by rfl, ?hy15⟩) HH.out ?rr15
          case hy15 => intro W hSw; go_simp; try with_reducible rfl
          try simp only [Act.put, List.setIfInBounds_toArray, List.set_cons_zero, List.set_cons_succ]
          refine wpAnyH_take (i := 16) (oi := ⟨some 39, .move (.tmp 2), _, _, _, _⟩) (v := ?vv16) rfl (by kernel_rfl) (by kernel_rfl) (by kernel_rfl) (fun _ _ _ h => h) (Or.inl ⟨by rfl, ?hy16⟩) HH.out ?rr16
          case hy16 => intro W hSw; go_simp; try with_reducible rfl
          try simp only [Act.put, List.setIfInBounds_toArray, List.set_cons_zero, List.set_cons_succ]
          refine wpAnyH_take (i := 17) (oi := ⟨some 40, .binOp .sub 3 (.tmp 39) (.const (.int .i64 1)) 3, _, _, _, _⟩) (v := ?vv17) rfl (by kernel_rfl) (by kernel_rfl) (by kernel_rfl) (fun _ _ _ h => h) (Or.inl ⟨by rfl, ?hy17⟩) HH.out ?rr17
          case hy17 => intro W hSw; go_simp; try with_reducible rfl
          try simp only [Act.put, List.setIfInBounds_toArray, List.set_cons_zero, List.set_cons_succ]
          refine wpAnyH_take (i := 18) (oi := ⟨some 41, .index 9 (.tmp 38) (.tmp 40), _, _, _, _⟩) (v := ?vv18) rfl (by kernel_rfl) (by kernel_rfl) (by kernel_rfl) (fun _ _ _ h => h) (Or.inl ⟨by rfl, ?hy18⟩) HH.out ?rr18
          case hy18 => intro W hSw; go_simp; try with_reducible rfl
          try simp only [Act.put, List.setIfInBounds_toArray, List.set_cons_zero, List.set_cons_succ]
          refine wpAnyH_take (i := 20) (oi := ⟨some 43, .fieldAddr 25 (.tmp 7) 1, _, _, _, _⟩) (v := ?vv19) rfl (by kernel_rfl) (by kernel_rfl) (by kernel_rfl) (fun _ _ _ h => h) (Or.inl ⟨by rfl, ?hy19⟩) HH.out ?rr19
          case hy19 => intro W hSw; go_simp; try with_reducible rfl
          try simp only [Act.put, List.setIfInBounds_toArray, List.set_cons_zero, List.set_cons_succ]
          refine wpAnyH_take (i := 21) (oi := ⟨some 44, .load 3 (.tmp 43), _, _, _, _⟩) (v := ?vv20) rfl (by kernel_rfl) (by kernel_rfl) (by kernel_rfl) (fun _ _ _ h => h) (Or.inl ⟨by rfl, ?hy20⟩) HH.out ?rr20
          case hy20 => intro W hSw; obtain ⟨y0, y1, y2, y3⟩ := HRC.out W hSw; go_simp; try with_reducible rfl
          try simp only [Act.put, List.setIfInBounds_toArray, List.set_cons_zero, List.set_cons_succ]
          refine wpAnyH_ready (rs := [19]) (by kernel_rfl) (by simp) ?_
          refine AllReadyH.cons (o := ⟨some 42, .call { callee := .value (.func 66), args := #[.tmp 37, .tmp 41], argTypes := #[22, 5] }, _, _, _, _⟩) rfl (fun K hK => ?_) AllReadyH.nil
          go_simp
          refine (HFI.out sb _ (HK0.out.trans HH.out (fun _ _ hf => hf))).mono ?_
          rintro e2 wB ⟨⟨f1, rfl, hf1⟩, hq2⟩
          have HQ19 := Lib.hid (HH.out.trans (lst_dn hq2) (fun _ _ hf => hf))
          have HF := Lib.hid (ho1_first HU.out HUB.out (HM.out.symm ▸ hf1) (by omega) : hoB lp u 1 (d : Int) [] = decide (d ≤ f1))
          clear hf1 hq2
          go_wp2_with fail
          refine hK.out _ _ (HQ19.out) (fun hHeld => ?_)
          have HH := Lib.hid hHeld
          clear hHeld hK K
          try simp only [Act.put, List.setIfInBounds_toArray, List.set_cons_zero, List.set_cons_succ]
          refine wpAnyH_take (i := 22) (oi := ⟨some 45, .binOp .geq 3 (.tmp 42) (.tmp 44) 3, _, _, _, _⟩) (v := ?vv21) rfl (by kernel_rfl) (by kernel_rfl) (by kernel_rfl) (fun _ _ _ h => h) (Or.inl ⟨by rfl, ?hy21⟩) HH.out ?rr21
          case hy21 => intro W hSw; go_simp; try with_reducible rfl
          try simp only [Act.put, List.setIfInBounds_toArray, List.set_cons_zero, List.set_cons_succ]
          refine wpAnyH_take (i := 23) (oi := ⟨some 46, .pick (.tmp 36) (.tmp 45) (.const (.bool false)), _, _, _, _⟩) (v := ?vv22) rfl (by kernel_rfl) (by kernel_rfl) (by kernel_rfl) (fun _ _ _ h => h) (Or.inl ⟨by rfl, ?hy22⟩) HH.out ?rr22
          case hy22 => intro W hSw; go_simp; try with_reducible rfl
          try simp only [Act.put, List.setIfInBounds_toArray, List.set_cons_zero, List.set_cons_succ]
          refine wpAnyH_take (i := 24) (oi := ⟨some 8, .assign (.tmp 46), _, _, _, _⟩) (v := ?vv23) rfl (by kernel_rfl) (by kernel_rfl) (by kernel_rfl) (fun _ _ _ h => h) (Or.inl ⟨by rfl, ?hy23⟩) HH.out ?rr23
          case hy23 => intro W hSw; go_simp; try with_reducible rfl
          try simp only [Act.put, List.setIfInBounds_toArray, List.set_cons_zero, List.set_cons_succ]
          refine wpAnyH_done (by kernel_rfl) ?_ _
          go_wp2_with fail
          go_ret
          refine ⟨?_, HK0.out.trans HQ19.out (fun _ _ hf => hf)⟩
          rw [HF.out]
          try rfl
        · have hnmi : ¬ (d : Int) ≤ (m : Int) := by omega
          have HF := Lib.hid (ho1_hi HU.out (by rw [HM.out]; omega) : hoB lp u 1 (d : Int) [] = false)
          go_wp2_with fail
          refine wp_region_held_drew (S := (fun X => Pure' W0 X)) (by kernel_rfl) ((Keeps.refl _ W0).drew) (fun hHeld => ?_)
          have HH := Lib.hid hHeld
          clear hHeld
          refine wpAnyH_take (i := 0) (oi := ⟨some 23, .load 25 (.tmp 7), _, _, _, _⟩) (v := ?vv24) rfl (by kernel_rfl) (by kernel_rfl) (by kernel_rfl) (fun _ _ _ h => h) (Or.inl ⟨by rfl, ?hy24⟩) HH.out ?rr24
          case hy24 => intro W hSw; obtain ⟨y0, y1, y2, y3⟩ := HRC.out W hSw; go_simp; try with_reducible rfl
          try simp only [Act.put, List.setIfInBounds_toArray, List.set_cons_zero, List.set_cons_succ]
          refine wpAnyH_ready (rs := [1]) (by kernel_rfl) (by simp) ?_
          refine AllReadyH.cons (o := ⟨some 24, .call { callee := .value (.func 65), args := #[.tmp 23], argTypes := #[25] }, _, _, _, _⟩) rfl (fun K hK => ?_) AllReadyH.nil
          go_simp
          refine (rbare_ _ _ _ _ 0 _ _ true rfl).mono ?_
          rintro e2 wB ⟨rfl, hkB⟩
          have HQ1 := Lib.hid (HH.out.trans hkB (fun _ _ hf => hf))
          clear hkB
          go_wp2_with fail
          refine hK.out _ _ (HQ1.out) (fun hHeld => ?_)
          have HH := Lib.hid hHeld
          clear hHeld hK K
          try simp only [Act.put, List.setIfInBounds_toArray, List.set_cons_zero, List.set_cons_succ]
          refine wpAnyH_take (i := 2) (oi := ⟨some 25, .move (.tmp 24), _, _, _, _⟩) (v := ?vv25) rfl (by kernel_rfl) (by kernel_rfl) (by kernel_rfl) (fun _ _ _ h => h) (Or.inl ⟨by rfl, ?hy25⟩) HH.out ?rr25
          case hy25 => intro W hSw; go_simp; try with_reducible rfl
          try simp only [Act.put, List.setIfInBounds_toArray, List.set_cons_zero, List.set_cons_succ]
          refine wpAnyH_take (i := 3) (oi := ⟨some 26, .fieldAddr 25 (.tmp 7) 1, _, _, _, _⟩) (v := ?vv26) rfl (by kernel_rfl) (by kernel_rfl) (by kernel_rfl) (fun _ _ _ h => h) (Or.inl ⟨by rfl, ?hy26⟩) HH.out ?rr26
          case hy26 => intro W hSw; go_simp; try with_reducible rfl
          try simp only [Act.put, List.setIfInBounds_toArray, List.set_cons_zero, List.set_cons_succ]
          refine wpAnyH_take (i := 4) (oi := ⟨some 27, .load 3 (.tmp 26), _, _, _, _⟩) (v := ?vv27) rfl (by kernel_rfl) (by kernel_rfl) (by kernel_rfl) (fun _ _ _ h => h) (Or.inl ⟨by rfl, ?hy27⟩) HH.out ?rr27
          case hy27 => intro W hSw; obtain ⟨y0, y1, y2, y3⟩ := HRC.out W hSw; go_simp; try with_reducible rfl
          try simp only [Act.put, List.setIfInBounds_toArray, List.set_cons_zero, List.set_cons_succ]
          refine wpAnyH_take (i := 5) (oi := ⟨some 28, .binOp .geq 3 (.tmp 27) (.const (.int .i64 1)) 3, _, _, _, _⟩) (v := ?vv28) rfl (by kernel_rfl) (by kernel_rfl) (by kernel_rfl) (fun _ _ _ h => h) (Or.inl ⟨by rfl, ?hy28⟩) HH.out ?rr28
          case hy28 => intro W hSw; go_simp; try with_reducible rfl
          try simp only [Act.put, List.setIfInBounds_toArray, List.set_cons_zero, List.set_cons_succ]
          refine wpAnyH_take (i := 6) (oi := ⟨some 29, .pick (.tmp 25) (.tmp 28) (.const (.bool false)), _, _, _, _⟩) (v := ?vv29) rfl (by kernel_rfl) (by kernel_rfl) (by kernel_rfl) (fun _ _ _ h => h) (Or.inl ⟨by rfl, ?hy29⟩) HH.out ?rr29
          case hy29 => intro W hSw; go_simp; try with_reducible rfl
          try simp only [Act.put, List.setIfInBounds_toArray, List.set_cons_zero, List.set_cons_succ]
          refine wpAnyH_take (i := 7) (oi := ⟨some 30, .move (.tmp 29), _, _, _, _⟩) (v := ?vv30) rfl (by kernel_rfl) (by kernel_rfl) (by kernel_rfl) (fun _ _ _ h => h) (Or.inl ⟨by rfl, ?hy30⟩) HH.out ?rr30
          case hy30 => intro W hSw; go_simp; try with_reducible rfl
          try simp only [Act.put, List.setIfInBounds_toArray, List.set_cons_zero, List.set_cons_succ]
          refine wpAnyH_take (i := 8) (oi := ⟨some 31, .fieldAddr 25 (.tmp 7) 1, _, _, _, _⟩) (v := ?vv31) rfl (by kernel_rfl) (by kernel_rfl) (by kernel_rfl) (fun _ _ _ h => h) (Or.inl ⟨by rfl, ?hy31⟩) HH.out ?rr31
          case hy31 => intro W hSw; go_simp; try with_reducible rfl
          try simp only [Act.put, List.setIfInBounds_toArray, List.set_cons_zero, List.set_cons_succ]
          refine wpAnyH_take (i := 9) (oi := ⟨some 32, .load 3 (.tmp 31), _, _, _, _⟩) (v := ?vv32) rfl (by kernel_rfl) (by kernel_rfl) (by kernel_rfl) (fun _ _ _ h => h) (Or.inl ⟨by rfl, ?hy32⟩) HH.out ?rr32
          case hy32 => intro W hSw; obtain ⟨y0, y1, y2, y3⟩ := HRC.out W hSw; go_simp; try with_reducible rfl
          try simp only [Act.put, List.setIfInBounds_toArray, List.set_cons_zero, List.set_cons_succ]
          refine wpAnyH_take (i := 10) (oi := ⟨some 33, .move (.tmp 9), _, _, _, _⟩) (v := ?vv33) rfl (by kernel_rfl) (by kernel_rfl) (by kernel_rfl) (fun _ _ _ h => h) (Or.inl ⟨by rfl, ?hy33⟩) HH.out ?rr33
          case hy33 => intro W hSw; go_simp; try with_reducible rfl
          try simp only [Act.put, List.setIfInBounds_toArray, List.set_cons_zero, List.set_cons_succ]
          refine wpAnyH_take (i := 11) (oi := ⟨some 34, .binOp .leq 3 (.tmp 32) (.tmp 33) 3, _, _, _, _⟩) (v := ?vv34) rfl (by kernel_rfl) (by kernel_rfl) (by kernel_rfl) (fun _ _ _ h => h) (Or.inl ⟨by rfl, ?hy34⟩) HH.out ?rr34
          case hy34 => intro W hSw; go_simp; try with_reducible rfl
          try simp only [Act.put, List.setIfInBounds_toArray, List.set_cons_zero, List.set_cons_succ]
          refine wpAnyH_take (i := 12) (oi := ⟨some 35, .pick (.tmp 30) (.tmp 34) (.const (.bool false)), _, _, _, _⟩) (v := ?vv35) rfl (by kernel_rfl) (by kernel_rfl) (by kernel_rfl) (fun _ _ _ h => h) (Or.inl ⟨by rfl, ?hy35⟩) HH.out ?rr35
          case hy35 => intro W hSw; go_simp; try with_reducible rfl
          try simp only [Act.put, List.setIfInBounds_toArray, List.set_cons_zero, List.set_cons_succ]
          refine wpAnyH_take (i := 13) (oi := ⟨some 36, .move (.tmp 35), _, _, _, _⟩) (v := ?vv36) rfl (by kernel_rfl) (by kernel_rfl) (by kernel_rfl) (fun _ _ _ h => h) (Or.inl ⟨by rfl, ?hy36⟩) HH.out ?rr36
          case hy36 => intro W hSw; go_simp; try with_reducible rfl
          try simp only [Act.put, List.setIfInBounds_toArray, List.set_cons_zero, List.set_cons_succ]
          refine wpAnyH_take (i := 14) (oi := ⟨some 37, .move (.tmp 0), _, _, _, _⟩) (v := undef) rfl (by kernel_rfl) (by kernel_rfl) (by kernel_rfl) (fun _ _ _ h => h) (Or.inr ⟨by rfl, rfl⟩) HH.out ?_
          try simp only [Act.put, List.setIfInBounds_toArray, List.set_cons_zero, List.set_cons_succ]
          refine wpAnyH_take (i := 15) (oi := ⟨some 38, .move (.tmp 1), _, _, _, _⟩) (v := undef) rfl (by kernel_rfl) (by kernel_rfl) (by kernel_rfl) (fun _ _ _ h => h) (Or.inr ⟨by rfl, rfl⟩) HH.out ?_
          try simp only [Act.put, List.setIfInBounds_toArray, List.set_cons_zero, List.set_cons_succ]
          refine wpAnyH_take (i := 16) (oi := ⟨some 39, .move (.tmp 2), _, _, _, _⟩) (v := undef) rfl (by kernel_rfl) (by kernel_rfl) (by kernel_rfl) (fun _ _ _ h => h) (Or.inr ⟨by rfl, rfl⟩) HH.out ?_
          try simp only [Act.put, List.setIfInBounds_toArray, List.set_cons_zero, List.set_cons_succ]
          refine wpAnyH_take (i := 17) (oi := ⟨some 40, .binOp .sub 3 (.tmp 39) (.const (.int .i64 1)) 3, _, _, _, _⟩) (v := undef) rfl (by kernel_rfl) (by kernel_rfl) (by kernel_rfl) (fun _ _ _ h => h) (Or.inr ⟨by rfl, rfl⟩) HH.out ?_
          try simp only [Act.put, List.setIfInBounds_toArray, List.set_cons_zero, List.set_cons_succ]
          refine wpAnyH_take (i := 18) (oi := ⟨some 41, .index 9 (.tmp 38) (.tmp 40), _, _, _, _⟩) (v := undef) rfl (by kernel_rfl) (by kernel_rfl) (by kernel_rfl) (fun _ _ _ h => h) (Or.inr ⟨by rfl, rfl⟩) HH.out ?_
          try simp only [Act.put, List.setIfInBounds_toArray, List.set_cons_zero, List.set_cons_succ]
          refine wpAnyH_take (i := 19) (oi := ⟨some 42, .call { callee := .value (.func 66), args := #[.tmp 37, .tmp 41], argTypes := #[22, 5] }, _, _, _, _⟩) (v := undef) rfl (by kernel_rfl) (by kernel_rfl) (by kernel_rfl) (fun _ _ _ h => h) (Or.inr ⟨by rfl, rfl⟩) HH.out ?_
          try simp only [Act.put, List.setIfInBounds_toArray, List.set_cons_zero, List.set_cons_succ]
          refine wpAnyH_take (i := 20) (oi := ⟨some 43, .fieldAddr 25 (.tmp 7) 1, _, _, _, _⟩) (v := undef) rfl (by kernel_rfl) (by kernel_rfl) (by kernel_rfl) (fun _ _ _ h => h) (Or.inr ⟨by rfl, rfl⟩) HH.out ?_
          try simp only [Act.put, List.setIfInBounds_toArray, List.set_cons_zero, List.set_cons_succ]
          refine wpAnyH_take (i := 21) (oi := ⟨some 44, .load 3 (.tmp 43), _, _, _, _⟩) (v := undef) rfl (by kernel_rfl) (by kernel_rfl) (by kernel_rfl) (fun _ _ _ h => h) (Or.inr ⟨by rfl, rfl⟩) HH.out ?_
          try simp only [Act.put, List.setIfInBounds_toArray, List.set_cons_zero, List.set_cons_succ]
          refine wpAnyH_take (i := 22) (oi := ⟨some 45, .binOp .geq 3 (.tmp 42) (.tmp 44) 3, _, _, _, _⟩) (v := undef) rfl (by kernel_rfl) (by kernel_rfl) (by kernel_rfl) (fun _ _ _ h => h) (Or.inr ⟨by rfl, rfl⟩) HH.out ?_
          try simp only [Act.put, List.setIfInBounds_toArray, List.set_cons_zero, List.set_cons_succ]
          refine wpAnyH_take (i := 23) (oi := ⟨some 46, .pick (.tmp 36) (.tmp 45) (.const (.bool false)), _, _, _, _⟩) (v := ?vv46) rfl (by kernel_rfl) (by kernel_rfl) (by kernel_rfl) (fun _ _ _ h => h) (Or.inl ⟨by rfl, ?hy46⟩) HH.out ?rr46
          case hy46 => intro W hSw; go_simp; try with_reducible rfl
          try simp only [Act.put, List.setIfInBounds_toArray, List.set_cons_zero, List.set_cons_succ]
          refine wpAnyH_take (i := 24) (oi := ⟨some 8, .assign (.tmp 46), _, _, _, _⟩) (v := ?vv47) rfl (by kernel_rfl) (by kernel_rfl) (by kernel_rfl) (fun _ _ _ h => h) (Or.inl ⟨by rfl, ?hy47⟩) HH.out ?rr47
          case hy47 => intro W hSw; go_simp; try with_reducible rfl
          try simp only [Act.put, List.setIfInBounds_toArray, List.set_cons_zero, List.set_cons_succ]
          refine wpAnyH_done (by kernel_rfl) ?_ _
          go_wp2_with fail
          go_ret
          refine ⟨?_, HK0.out.trans HQ1.out (fun _ _ hf => hf)⟩
          rw [HF.out]
          try rfl
      · have hn1d : decide (1 ≤ n) = false := decide_eq_false hn1
        have HF := Lib.hid (ho1_lo HU.out hn1 : hoB lp u 1 n [] = false)
        clear hn1
        go_wp2_with fail
        refine wp_region_held_drew (S := (fun X => Pure' W0 X)) (by kernel_rfl) ((Keeps.refl _ W0).drew) (fun hHeld => ?_)
        have HH := Lib.hid hHeld
        clear hHeld
        refine wpAnyH_take (i := 0) (oi := ⟨some 23, .load 25 (.tmp 7), _, _, _, _⟩) (v := ?vv48) rfl (by kernel_rfl) (by kernel_rfl) (by kernel_rfl) (fun _ _ _ h => h) (Or.inl ⟨by rfl, ?hy48⟩) HH.out ?rr48
        case hy48 => intro W hSw; obtain ⟨y0, y1, y2, y3⟩ := HRC.out W hSw; go_simp; try with_reducible rfl
        try simp only [Act.put, List.setIfInBounds_toArray, List.set_cons_zero, List.set_cons_succ]
        refine wpAnyH_ready (rs := [1]) (by kernel_rfl) (by simp) ?_
        refine AllReadyH.cons (o := ⟨some 24, .call { callee := .value (.func 65), args := #[.tmp 23], argTypes := #[25] }, _, _, _, _⟩) rfl (fun K hK => ?_) AllReadyH.nil
        go_simp
        refine (rbare_ _ _ _ _ 0 _ _ true rfl).mono ?_
        rintro e2 wB ⟨rfl, hkB⟩
        have HQ1 := Lib.hid (HH.out.trans hkB (fun _ _ hf => hf))
        clear hkB
        go_wp2_with fail
        refine hK.out _ _ (HQ1.out) (fun hHeld => ?_)
        have HH := Lib.hid hHeld
        clear hHeld hK K
        try simp only [Act.put, List.setIfInBounds_toArray, List.set_cons_zero, List.set_cons_succ]
        refine wpAnyH_take (i := 2) (oi := ⟨some 25, .move (.tmp 24), _, _, _, _⟩) (v := ?vv49) rfl (by kernel_rfl) (by kernel_rfl) (by kernel_rfl) (fun _ _ _ h => h) (Or.inl ⟨by rfl, ?hy49⟩) HH.out ?rr49
        case hy49 => intro W hSw; go_simp; try with_reducible rfl
        try simp only [Act.put, List.setIfInBounds_toArray, List.set_cons_zero, List.set_cons_succ]
        refine wpAnyH_take (i := 3) (oi := ⟨some 26, .fieldAddr 25 (.tmp 7) 1, _, _, _, _⟩) (v := ?vv50) rfl (by kernel_rfl) (by kernel_rfl) (by kernel_rfl) (fun _ _ _ h => h) (Or.inl ⟨by rfl, ?hy50⟩) HH.out ?rr50
        case hy50 => intro W hSw; go_simp; try with_reducible rfl
        try simp only [Act.put, List.setIfInBounds_toArray, List.set_cons_zero, List.set_cons_succ]
        refine wpAnyH_take (i := 4) (oi := ⟨some 27, .load 3 (.tmp 26), _, _, _, _⟩) (v := ?vv51) rfl (by kernel_rfl) (by kernel_rfl) (by kernel_rfl) (fun _ _ _ h => h) (Or.inl ⟨by rfl, ?hy51⟩) HH.out ?rr51
        case hy51 => intro W hSw; obtain ⟨y0, y1, y2, y3⟩ := HRC.out W hSw; go_simp; try with_reducible rfl
        try simp only [Act.put, List.setIfInBounds_toArray, List.set_cons_zero, List.set_cons_succ]
        refine wpAnyH_take (i := 5) (oi := ⟨some 28, .binOp .geq 3 (.tmp 27) (.const (.int .i64 1)) 3, _, _, _, _⟩) (v := ?vv52) rfl (by kernel_rfl) (by kernel_rfl) (by kernel_rfl) (fun _ _ _ h => h) (Or.inl ⟨by rfl, ?hy52⟩) HH.out ?rr52
        case hy52 => intro W hSw; go_simp; try with_reducible rfl
        try simp only [Act.put, List.setIfInBounds_toArray, List.set_cons_zero, List.set_cons_succ]
        refine wpAnyH_take (i := 6) (oi := ⟨some 29, .pick (.tmp 25) (.tmp 28) (.const (.bool false)), _, _, _, _⟩) (v := ?vv53) rfl (by kernel_rfl) (by kernel_rfl) (by kernel_rfl) (fun _ _ _ h => h) (Or.inl ⟨by rfl, ?hy53⟩) HH.out ?rr53
        case hy53 => intro W hSw; go_simp; try with_reducible rfl
        try simp only [Act.put, List.setIfInBounds_toArray, List.set_cons_zero, List.set_cons_succ]
        refine wpAnyH_take (i := 7) (oi := ⟨some 30, .move (.tmp 29), _, _, _, _⟩) (v := ?vv54) rfl (by kernel_rfl) (by kernel_rfl) (by kernel_rfl) (fun _ _ _ h => h) (Or.inl ⟨by rfl, ?hy54⟩) HH.out ?rr54
        case hy54 => intro W hSw; go_simp; try with_reducible rfl
        try simp only [Act.put, List.setIfInBounds_toArray, List.set_cons_zero, List.set_cons_succ]
        refine wpAnyH_take (i := 8) (oi := ⟨some 31, .fieldAddr 25 (.tmp 7) 1, _, _, _, _⟩) (v := undef) rfl (by kernel_rfl) (by kernel_rfl) (by kernel_rfl) (fun _ _ _ h => h) (Or.inr ⟨by rfl, rfl⟩) HH.out ?_
        try simp only [Act.put, List.setIfInBounds_toArray, List.set_cons_zero, List.set_cons_succ]
        refine wpAnyH_take (i := 9) (oi := ⟨some 32, .load 3 (.tmp 31), _, _, _, _⟩) (v := undef) rfl (by kernel_rfl) (by kernel_rfl) (by kernel_rfl) (fun _ _ _ h => h) (Or.inr ⟨by rfl, rfl⟩) HH.out ?_
        try simp only [Act.put, List.setIfInBounds_toArray, List.set_cons_zero, List.set_cons_succ]
        refine wpAnyH_take (i := 10) (oi := ⟨some 33, .move (.tmp 9), _, _, _, _⟩) (v := undef) rfl (by kernel_rfl) (by kernel_rfl) (by kernel_rfl) (fun _ _ _ h => h) (Or.inr ⟨by rfl, rfl⟩) HH.out ?_
        try simp only [Act.put, List.setIfInBounds_toArray, List.set_cons_zero, List.set_cons_succ]
        refine wpAnyH_take (i := 11) (oi := ⟨some 34, .binOp .leq 3 (.tmp 32) (.tmp 33) 3, _, _, _, _⟩) (v := undef) rfl (by kernel_rfl) (by kernel_rfl) (by kernel_rfl) (fun _ _ _ h => h) (Or.inr ⟨by rfl, rfl⟩) HH.out ?_
        try simp only [Act.put, List.setIfInBounds_toArray, List.set_cons_zero, List.set_cons_succ]
        refine wpAnyH_take (i := 12) (oi := ⟨some 35, .pick (.tmp 30) (.tmp 34) (.const (.bool false)), _, _, _, _⟩) (v := ?vv59) rfl (by kernel_rfl) (by kernel_rfl) (by kernel_rfl) (fun _ _ _ h => h) (Or.inl ⟨by rfl, ?hy59⟩) HH.out ?rr59
        case hy59 => intro W hSw; go_simp; try with_reducible rfl
        try simp only [Act.put, List.setIfInBounds_toArray, List.set_cons_zero, List.set_cons_succ]
        refine wpAnyH_take (i := 13) (oi := ⟨some 36, .move (.tmp 35), _, _, _, _⟩) (v := ?vv60) rfl (by kernel_rfl) (by kernel_rfl) (by kernel_rfl) (fun _ _ _ h => h) (Or.inl ⟨by rfl, ?hy60⟩) HH.out ?rr60
        case hy60 => intro W hSw; go_simp; try with_reducible rfl
        try simp only [Act.put, List.setIfInBounds_toArray, List.set_cons_zero, List.set_cons_succ]
        refine wpAnyH_take (i := 14) (oi := ⟨some 37, .move (.tmp 0), _, _, _, _⟩) (v := undef) rfl (by kernel_rfl) (by kernel_rfl) (by kernel_rfl) (fun _ _ _ h => h) (Or.inr ⟨by rfl, rfl⟩) HH.out ?_
        try simp only [Act.put, List.setIfInBounds_toArray, List.set_cons_zero, List.set_cons_succ]
        refine wpAnyH_take (i := 15) (oi := ⟨some 38, .move (.tmp 1), _, _, _, _⟩) (v := undef) rfl (by kernel_rfl) (by kernel_rfl) (by kernel_rfl) (fun _ _ _ h => h) (Or.inr ⟨by rfl, rfl⟩) HH.out ?_
        try simp only [Act.put, List.setIfInBounds_toArray, List.set_cons_zero, List.set_cons_succ]
        refine wpAnyH_take (i := 16) (oi := ⟨some 39, .move (.tmp 2), _, _, _, _⟩) (v := undef) rfl (by kernel_rfl) (by kernel_rfl) (by kernel_rfl) (fun _ _ _ h => h) (Or.inr ⟨by rfl, rfl⟩) HH.out ?_
        try simp only [Act.put, List.setIfInBounds_toArray, List.set_cons_zero, List.set_cons_succ]
        refine wpAnyH_take (i := 17) (oi := ⟨some 40, .binOp .sub 3 (.tmp 39) (.const (.int .i64 1)) 3, _, _, _, _⟩) (v := undef) rfl (by kernel_rfl) (by kernel_rfl) (by kernel_rfl) (fun _ _ _ h => h) (Or.inr ⟨by rfl, rfl⟩) HH.out ?_
        try simp only [Act.put, List.setIfInBounds_toArray, List.set_cons_zero, List.set_cons_succ]
        refine wpAnyH_take (i := 18) (oi := ⟨some 41, .index 9 (.tmp 38) (.tmp 40), _, _, _, _⟩) (v := undef) rfl (by kernel_rfl) (by kernel_rfl) (by kernel_rfl) (fun _ _ _ h => h) (Or.inr ⟨by rfl, rfl⟩) HH.out ?_
        try simp only [Act.put, List.setIfInBounds_toArray, List.set_cons_zero, List.set_cons_succ]
        refine wpAnyH_take (i := 19) (oi := ⟨some 42, .call { callee := .value (.func 66), args := #[.tmp 37, .tmp 41], argTypes := #[22, 5] }, _, _, _, _⟩) (v := undef) rfl (by kernel_rfl) (by kernel_rfl) (by kernel_rfl) (fun _ _ _ h => h) (Or.inr ⟨by rfl, rfl⟩) HH.out ?_
        try simp only [Act.put, List.setIfInBounds_toArray, List.set_cons_zero, List.set_cons_succ]
        refine wpAnyH_take (i := 20) (oi := ⟨some 43, .fieldAddr 25 (.tmp 7) 1, _, _, _, _⟩) (v := undef) rfl (by kernel_rfl) (by kernel_rfl) (by kernel_rfl) (fun _ _ _ h => h) (Or.inr ⟨by rfl, rfl⟩) HH.out ?_
        try simp only [Act.put, List.setIfInBounds_toArray, List.set_cons_zero, List.set_cons_succ]
        refine wpAnyH_take (i := 21) (oi := ⟨some 44, .load 3 (.tmp 43), _, _, _, _⟩) (v := undef) rfl (by kernel_rfl) (by kernel_rfl) (by kernel_rfl) (fun _ _ _ h => h) (Or.inr ⟨by rfl, rfl⟩) HH.out ?_
        try simp only [Act.put, List.setIfInBounds_toArray, List.set_cons_zero, List.set_cons_succ]
        refine wpAnyH_take (i := 22) (oi := ⟨some 45, .binOp .geq 3 (.tmp 42) (.tmp 44) 3, _, _, _, _⟩) (v := undef) rfl (by kernel_rfl) (by kernel_rfl) (by kernel_rfl) (fun _ _ _ h => h) (Or.inr ⟨by rfl, rfl⟩) HH.out ?_
        try simp only [Act.put, List.setIfInBounds_toArray, List.set_cons_zero, List.set_cons_succ]
        refine wpAnyH_take (i := 23) (oi := ⟨some 46, .pick (.tmp 36) (.tmp 45) (.const (.bool false)), _, _, _, _⟩) (v := ?vv70) rfl (by kernel_rfl) (by kernel_rfl) (by kernel_rfl) (fun _ _ _ h => h) (Or.inl ⟨by rfl, ?hy70⟩) HH.out ?rr70
        case hy70 => intro W hSw; go_simp; try with_reducible rfl
        try simp only [Act.put, List.setIfInBounds_toArray, List.set_cons_zero, List.set_cons_succ]
        refine wpAnyH_take (i := 24) (oi := ⟨some 8, .assign (.tmp 46), _, _, _, _⟩) (v := ?vv71) rfl (by kernel_rfl) (by kernel_rfl) (by kernel_rfl) (fun _ _ _ h => h) (Or.inl ⟨by rfl, ?hy71⟩) HH.out ?rr71
        case hy71 => intro W hSw; go_simp; try with_reducible rfl
        try simp only [Act.put, List.setIfInBounds_toArray, List.set_cons_zero, List.set_cons_succ]
        refine wpAnyH_done (by kernel_rfl) ?_ _
        go_wp2_with fail
        go_ret
        refine ⟨?_, HK0.out.trans HQ1.out (fun _ _ hf => hf)⟩
        rw [HF.out]
        try rfl
    · have HF := Lib.hid (ho_bad HU.out (fun e0 => hb (by rw [← HZL.out, e0]; rfl)) (by decide) : hoB lp u 1 n zs = false)
      go_wp2_with fail
      refine wp_region_held_drew (S := (fun X => Pure' W0 X)) (by kernel_rfl) ((Keeps.refl _ W0).drew) (fun hHeld => ?_)
      have HH := Lib.hid hHeld
      clear hHeld
      refine wpAnyH_take (i := 0) (oi := ⟨some 23, .load 25 (.tmp 7), _, _, _, _⟩) (v := ?vv72) rfl (by kernel_rfl) (by kernel_rfl) (by kernel_rfl) (fun _ _ _ h => h) (Or.inl ⟨by rfl, ?hy72⟩) HH.out ?rr72
      case hy72 => intro W hSw; obtain ⟨y0, y1, y2, y3⟩ := HRC.out W hSw; go_simp; try with_reducible rfl
      try simp only [Act.put, List.setIfInBounds_toArray, List.set_cons_zero, List.set_cons_succ]
      refine wpAnyH_ready (rs := [1]) (by kernel_rfl) (by simp) ?_
      refine AllReadyH.cons (o := ⟨some 24, .call { callee := .value (.func 65), args := #[.tmp 23], argTypes := #[25] }, _, _, _, _⟩) rfl (fun K hK => ?_) AllReadyH.nil
      go_simp
      refine (rbare_ _ _ _ _ m4 _ _ false (decide_eq_false hb)).mono ?_
      rintro e2 wB ⟨rfl, hkB⟩
      have HQ1 := Lib.hid (HH.out.trans hkB (fun _ _ hf => hf))
      clear hkB
      go_wp2_with fail
      refine hK.out _ _ (HQ1.out) (fun hHeld => ?_)
      have HH := Lib.hid hHeld
      clear hHeld hK K
      try simp only [Act.put, List.setIfInBounds_toArray, List.set_cons_zero, List.set_cons_succ]
      refine wpAnyH_take (i := 2) (oi := ⟨some 25, .move (.tmp 24), _, _, _, _⟩) (v := ?vv73) rfl (by kernel_rfl) (by kernel_rfl) (by kernel_rfl) (fun _ _ _ h => h) (Or.inl ⟨by rfl, ?hy73⟩) HH.out ?rr73
      case hy73 => intro W hSw; go_simp; try with_reducible rfl
      try simp only [Act.put, List.setIfInBounds_toArray, List.set_cons_zero, List.set_cons_succ]
      refine wpAnyH_take (i := 3) (oi := ⟨some 26, .fieldAddr 25 (.tmp 7) 1, _, _, _, _⟩) (v := undef) rfl (by kernel_rfl) (by kernel_rfl) (by kernel_rfl) (fun _ _ _ h => h) (Or.inr ⟨by rfl, rfl⟩) HH.out ?_
      try simp only [Act.put, List.setIfInBounds_toArray, List.set_cons_zero, List.set_cons_succ]
      refine wpAnyH_take (i := 4) (oi := ⟨some 27, .load 3 (.tmp 26), _, _, _, _⟩) (v := undef) rfl (by kernel_rfl) (by kernel_rfl) (by kernel_rfl) (fun _ _ _ h => h) (Or.inr ⟨by rfl, rfl⟩) HH.out ?_
      try simp only [Act.put, List.setIfInBounds_toArray, List.set_cons_zero, List.set_cons_succ]
      refine wpAnyH_take (i := 5) (oi := ⟨some 28, .binOp .geq 3 (.tmp 27) (.const (.int .i64 1)) 3, _, _, _, _⟩) (v := undef) rfl (by kernel_rfl) (by kernel_rfl) (by kernel_rfl) (fun _ _ _ h => h) (Or.inr ⟨by rfl, rfl⟩) HH.out ?_
      try simp only [Act.put, List.setIfInBounds_toArray, List.set_cons_zero, List.set_cons_succ]
      refine wpAnyH_take (i := 6) (oi := ⟨some 29, .pick (.tmp 25) (.tmp 28) (.const (.bool false)), _, _, _, _⟩) (v := ?vv77) rfl (by kernel_rfl) (by kernel_rfl) (by kernel_rfl) (fun _ _ _ h => h) (Or.inl ⟨by rfl, ?hy77⟩) HH.out ?rr77
      case hy77 => intro W hSw; go_simp; try with_reducible rfl
      try simp only [Act.put, List.setIfInBounds_toArray, List.set_cons_zero, List.set_cons_succ]
      refine wpAnyH_take (i := 7) (oi := ⟨some 30, .move (.tmp 29), _, _, _, _⟩) (v := ?vv78) rfl (by kernel_rfl) (by kernel_rfl) (by kernel_rfl) (fun _ _ _ h => h) (Or.inl ⟨by rfl, ?hy78⟩) HH.out ?rr78
      case hy78 => intro W hSw; go_simp; try with_reducible rfl
      try simp only [Act.put, List.setIfInBounds_toArray, List.set_cons_zero, List.set_cons_succ]
      refine wpAnyH_take (i := 8) (oi := ⟨some 31, .fieldAddr 25 (.tmp 7) 1, _, _, _, _⟩) (v := undef) rfl (by kernel_rfl) (by kernel_rfl) (by kernel_rfl) (fun _ _ _ h => h) (Or.inr ⟨by rfl, rfl⟩) HH.out ?_
      try simp only [Act.put, List.setIfInBounds_toArray, List.set_cons_zero, List.set_cons_succ]
      refine wpAnyH_take (i := 9) (oi := ⟨some 32, .load 3 (.tmp 31), _, _, _, _⟩) (v := undef) rfl (by kernel_rfl) (by kernel_rfl) (by kernel_rfl) (fun _ _ _ h => h) (Or.inr ⟨by rfl, rfl⟩) HH.out ?_
      try simp only [Act.put, List.setIfInBounds_toArray, List.set_cons_zero, List.set_cons_succ]
      refine wpAnyH_take (i := 10) (oi := ⟨some 33, .move (.tmp 9), _, _, _, _⟩) (v := undef) rfl (by kernel_rfl) (by kernel_rfl) (by kernel_rfl) (fun _ _ _ h => h) (Or.inr ⟨by rfl, rfl⟩) HH.out ?_
      try simp only [Act.put, List.setIfInBounds_toArray, List.set_cons_zero, List.set_cons_succ]
      refine wpAnyH_take (i := 11) (oi := ⟨some 34, .binOp .leq 3 (.tmp 32) (.tmp 33) 3, _, _, _, _⟩) (v := undef) rfl (by kernel_rfl) (by kernel_rfl) (by kernel_rfl) (fun _ _ _ h => h) (Or.inr ⟨by rfl, rfl⟩) HH.out ?_
      try simp only [Act.put, List.setIfInBounds_toArray, List.set_cons_zero, List.set_cons_succ]
      refine wpAnyH_take (i := 12) (oi := ⟨some 35, .pick (.tmp 30) (.tmp 34) (.const (.bool false)), _, _, _, _⟩) (v := ?vv83) rfl (by kernel_rfl) (by kernel_rfl) (by kernel_rfl) (fun _ _ _ h => h) (Or.inl ⟨by rfl, ?hy83⟩) HH.out ?rr83
      case hy83 => intro W hSw; go_simp; try with_reducible rfl
      try simp only [Act.put, List.setIfInBounds_toArray, List.set_cons_zero, List.set_cons_succ]
      refine wpAnyH_take (i := 13) (oi := ⟨some 36, .move (.tmp 35), _, _, _, _⟩) (v := ?vv84) rfl (by kernel_rfl) (by kernel_rfl) (by kernel_rfl) (fun _ _ _ h => h) (Or.inl ⟨by rfl, ?hy84⟩) HH.out ?rr84
      case hy84 => intro W hSw; go_simp; try with_reducible rfl
      try simp only [Act.put, List.setIfInBounds_toArray, List.set_cons_zero, List.set_cons_succ]
      refine wpAnyH_take (i := 14) (oi := ⟨some 37, .move (.tmp 0), _, _, _, _⟩) (v := undef) rfl (by kernel_rfl) (by kernel_rfl) (by kernel_rfl) (fun _ _ _ h => h) (Or.inr ⟨by rfl, rfl⟩) HH.out ?_
      try simp only [Act.put, List.setIfInBounds_toArray, List.set_cons_zero, List.set_cons_succ]
      refine wpAnyH_take (i := 15) (oi := ⟨some 38, .move (.tmp 1), _, _, _, _⟩) (v := undef) rfl (by kernel_rfl) (by kernel_rfl) (by kernel_rfl) (fun _ _ _ h => h) (Or.inr ⟨by rfl, rfl⟩) HH.out ?_
      try simp only [Act.put, List.setIfInBounds_toArray, List.set_cons_zero, List.set_cons_succ]
      refine wpAnyH_take (i := 16) (oi := ⟨some 39, .move (.tmp 2), _, _, _, _⟩) (v := undef) rfl (by kernel_rfl) (by kernel_rfl) (by kernel_rfl) (fun _ _ _ h => h) (Or.inr ⟨by rfl, rfl⟩) HH.out ?_
      try simp only [Act.put, List.setIfInBounds_toArray, List.set_cons_zero, List.set_cons_succ]
      refine wpAnyH_take (i := 17) (oi := ⟨some 40, .binOp .sub 3 (.tmp 39) (.const (.int .i64 1)) 3, _, _, _, _⟩) (v := undef) rfl (by kernel_rfl) (by kernel_rfl) (by kernel_rfl) (fun _ _ _ h => h) (Or.inr ⟨by rfl, rfl⟩) HH.out ?_
      try simp only [Act.put, List.setIfInBounds_toArray, List.set_cons_zero, List.set_cons_succ]
      refine wpAnyH_take (i := 18) (oi := ⟨some 41, .index 9 (.tmp 38) (.tmp 40), _, _, _, _⟩) (v := undef) rfl (by kernel_rfl) (by kernel_rfl) (by kernel_rfl) (fun _ _ _ h => h) (Or.inr ⟨by rfl, rfl⟩) HH.out ?_
      try simp only [Act.put, List.setIfInBounds_toArray, List.set_cons_zero, List.set_cons_succ]
      refine wpAnyH_take (i := 19) (oi := ⟨some 42, .call { callee := .value (.func 66), args := #[.tmp 37, .tmp 41], argTypes := #[22, 5] }, _, _, _, _⟩) (v := undef) rfl (by kernel_rfl) (by kernel_rfl) (by kernel_rfl) (fun _ _ _ h => h) (Or.inr ⟨by rfl, rfl⟩) HH.out ?_
      try simp only [Act.put, List.setIfInBounds_toArray, List.set_cons_zero, List.set_cons_succ]
      refine wpAnyH_take (i := 20) (oi := ⟨some 43, .fieldAddr 25 (.tmp 7) 1, _, _, _, _⟩) (v := undef) rfl (by kernel_rfl) (by kernel_rfl) (by kernel_rfl) (fun _ _ _ h => h) (Or.inr ⟨by rfl, rfl⟩) HH.out ?_
      try simp only [Act.put, List.setIfInBounds_toArray, List.set_cons_zero, List.set_cons_succ]
      refine wpAnyH_take (i := 21) (oi := ⟨some 44, .load 3 (.tmp 43), _, _, _, _⟩) (v := undef) rfl (by kernel_rfl) (by kernel_rfl) (by kernel_rfl) (fun _ _ _ h => h) (Or.inr ⟨by rfl, rfl⟩) HH.out ?_
      try simp only [Act.put, List.setIfInBounds_toArray, List.set_cons_zero, List.set_cons_succ]
      refine wpAnyH_take (i := 22) (oi := ⟨some 45, .binOp .geq 3 (.tmp 42) (.tmp 44) 3, _, _, _, _⟩) (v := undef) rfl (by kernel_rfl) (by kernel_rfl) (by kernel_rfl) (fun _ _ _ h => h) (Or.inr ⟨by rfl, rfl⟩) HH.out ?_
      try simp only [Act.put, List.setIfInBounds_toArray, List.set_cons_zero, List.set_cons_succ]
      refine wpAnyH_take (i := 23) (oi := ⟨some 46, .pick (.tmp 36) (.tmp 45) (.const (.bool false)), _, _, _, _⟩) (v := ?vv94) rfl (by kernel_rfl) (by kernel_rfl) (by kernel_rfl) (fun _ _ _ h => h) (Or.inl ⟨by rfl, ?hy94⟩) HH.out ?rr94
      case hy94 => intro W hSw; go_simp; try with_reducible rfl
      try simp only [Act.put, List.setIfInBounds_toArray, List.set_cons_zero, List.set_cons_succ]
      refine wpAnyH_take (i := 24) (oi := ⟨some 8, .assign (.tmp 46), _, _, _, _⟩) (v := ?vv95) rfl (by kernel_rfl) (by kernel_rfl) (by kernel_rfl) (fun _ _ _ h => h) (Or.inl ⟨by rfl, ?hy95⟩) HH.out ?rr95
      case hy95 => intro W hSw; go_simp; try with_reducible rfl
      try simp only [Act.put, List.setIfInBounds_toArray, List.set_cons_zero, List.set_cons_succ]
      refine wpAnyH_done (by kernel_rfl) ?_ _
      go_wp2_with fail
      go_ret
      refine ⟨?_, HK0.out.trans HQ1.out (fun _ _ hf => hf)⟩
      rw [HF.out]
      try rfl
  have k1i : (kind == 1) = false := by rw [beq_eq_false_iff_ne]; exact k1
  have K1 := Lib.hid k1
  clear k1
  by_cases k2 : kind = 2
  · subst k2
    by_cases hb : m4 = 0
    · subst hb
      obtain rfl : zs = [] := List.eq_nil_of_length_eq_zero HZL.out
      by_cases h2 : 2 ≤ e
      · have h2i : (2 : Int) ≤ (e : Int) := by omega
        obtain ⟨f2, hf2⟩ : ∃ f, f + 2 = e := ⟨e - 2, by omega⟩
        have hwe2 : IntKind.i64.wrap ((e : Int) - 2) = (f2 : Int) := by rw [IntKind.wrap_i64]; omega
        have hf2s : (f2 : Int) < (sn : Int) := by omega
        obtain ⟨sa, _, hsa, hga⟩ := at_c (show f2 < s.length by rw [HSN.out]; omega)
        have HUA := Lib.hid (show u.reverse[1]? = some sa by rw [HTR.out 1 (by omega), ← hsa]; congr 1; omega)
        have hsal := sa.toNat_lt
        have hwm : IntKind.i64.wrap ((m : Int) - 1) = (m : Int) - 1 := by rw [IntKind.wrap_i64]; omega
        clear hsa
        by_cases hn1 : 1 ≤ n
        · obtain ⟨d, rfl⟩ : ∃ d : Nat, n = (d : Int) := ⟨n.toNat, by omega⟩
          by_cases hnmi : (d : Int) ≤ (m : Int) - 1
          · go_wp2_with fail
            refine wp_region_held_drew (S := (fun X => Pure' W0 X)) (by kernel_rfl) ((Keeps.refl _ W0).drew) (fun hHeld => ?_)
            have HH := Lib.hid hHeld
            clear hHeld
            refine wpAnyH_take (i := 0) (oi := ⟨some 50, .load 25 (.tmp 7), _, _, _, _⟩) (v := ?vv96) rfl (by kernel_rfl) (by kernel_rfl) (by kernel_rfl) (fun _ _ _ h => h) (Or.inl ⟨by rfl, ?hy96⟩) HH.out ?rr96
            case hy96 => intro W hSw; obtain ⟨y0, y1, y2, y3⟩ := HRC.out W hSw; go_simp; try with_reducible rfl
            try simp only [Act.put, List.setIfInBounds_toArray, List.set_cons_zero, List.set_cons_succ]
            refine wpAnyH_ready (rs := [1]) (by kernel_rfl) (by simp) ?_
            refine AllReadyH.cons (o := ⟨some 51, .call { callee := .value (.func 65), args := #[.tmp 50], argTypes := #[25] }, _, _, _, _⟩) rfl (fun K hK => ?_) AllReadyH.nil
            go_simp
            refine (rbare_ _ _ _ _ 0 _ _ true rfl).mono ?_
            rintro e2 wB ⟨rfl, hkB⟩
            have HQ1 := Lib.hid (HH.out.trans hkB (fun _ _ hf => hf))
            clear hkB
            go_wp2_with fail
            refine hK.out _ _ (HQ1.out) (fun hHeld => ?_)
            have HH := Lib.hid hHeld
            clear hHeld hK K
            try simp only [Act.put, List.setIfInBounds_toArray, List.set_cons_zero, List.set_cons_succ]
            refine wpAnyH_take (i := 2) (oi := ⟨some 52, .move (.tmp 51), _, _, _, _⟩) (v := ?vv97) rfl (by kernel_rfl) (by kernel_rfl) (by kernel_rfl) (fun _ _ _ h => h) (Or.inl ⟨by rfl, ?hy97⟩) HH.out ?rr97
            case hy97 => intro W hSw; go_simp; try with_reducible rfl
            try simp only [Act.put, List.setIfInBounds_toArray, List.set_cons_zero, List.set_cons_succ]
            refine wpAnyH_take (i := 3) (oi := ⟨some 53, .move (.tmp 2), _, _, _, _⟩) (v := ?vv98) rfl (by kernel_rfl) (by kernel_rfl) (by kernel_rfl) (fun _ _ _ h => h) (Or.inl ⟨by rfl, ?hy98⟩) HH.out ?rr98
            case hy98 => intro W hSw; go_simp; try with_reducible rfl
            try simp only [Act.put, List.setIfInBounds_toArray, List.set_cons_zero, List.set_cons_succ]
            refine wpAnyH_take (i := 4) (oi := ⟨some 54, .binOp .geq 3 (.tmp 53) (.const (.int .i64 2)) 3, _, _, _, _⟩) (v := ?vv99) rfl (by kernel_rfl) (by kernel_rfl) (by kernel_rfl) (fun _ _ _ h => h) (Or.inl ⟨by rfl, ?hy99⟩) HH.out ?rr99
            case hy99 => intro W hSw; go_simp; try with_reducible rfl
            try simp only [Act.put, List.setIfInBounds_toArray, List.set_cons_zero, List.set_cons_succ]
            refine wpAnyH_take (i := 5) (oi := ⟨some 55, .pick (.tmp 52) (.tmp 54) (.const (.bool false)), _, _, _, _⟩) (v := ?vv100) rfl (by kernel_rfl) (by kernel_rfl) (by kernel_rfl) (fun _ _ _ h => h) (Or.inl ⟨by rfl, ?hy100⟩) HH.out ?rr100
            case hy100 => intro W hSw; go_simp; try with_reducible rfl
            try simp only [Act.put, List.setIfInBounds_toArray, List.set_cons_zero, List.set_cons_succ]
            refine wpAnyH_take (i := 6) (oi := ⟨some 56, .move (.tmp 55), _, _, _, _⟩) (v := ?vv101) rfl (by kernel_rfl) (by kernel_rfl) (by kernel_rfl) (fun _ _ _ h => h) (Or.inl ⟨by rfl, ?hy101⟩) HH.out ?rr101
            case hy101 => intro W hSw; go_simp; try with_reducible rfl
            try simp only [Act.put, List.setIfInBounds_toArray, List.set_cons_zero, List.set_cons_succ]
            refine wpAnyH_take (i := 7) (oi := ⟨some 57, .fieldAddr 25 (.tmp 7) 1, _, _, _, _⟩) (v := ?vv102) rfl (by kernel_rfl) (by kernel_rfl) (by kernel_rfl) (fun _ _ _ h => h) (Or.inl ⟨by rfl, ?hy102⟩) HH.out ?rr102
            case hy102 => intro W hSw; go_simp; try with_reducible rfl
            try simp only [Act.put, List.setIfInBounds_toArray, List.set_cons_zero, List.set_cons_succ]
            refine wpAnyH_take (i := 8) (oi := ⟨some 58, .load 3 (.tmp 57), _, _, _, _⟩) (v := ?vv103) rfl (by kernel_rfl) (by kernel_rfl) (by kernel_rfl) (fun _ _ _ h => h) (Or.inl ⟨by rfl, ?hy103⟩) HH.out ?rr103
            case hy103 => intro W hSw; obtain ⟨y0, y1, y2, y3⟩ := HRC.out W hSw; go_simp; try with_reducible rfl
            try simp only [Act.put, List.setIfInBounds_toArray, List.set_cons_zero, List.set_cons_succ]
            refine wpAnyH_take (i := 9) (oi := ⟨some 59, .binOp .geq 3 (.tmp 58) (.const (.int .i64 1)) 3, _, _, _, _⟩) (v := ?vv104) rfl (by kernel_rfl) (by kernel_rfl) (by kernel_rfl) (fun _ _ _ h => h) (Or.inl ⟨by rfl, ?hy104⟩) HH.out ?rr104
            case hy104 => intro W hSw; go_simp; try with_reducible rfl
            try simp only [Act.put, List.setIfInBounds_toArray, List.set_cons_zero, List.set_cons_succ]
            refine wpAnyH_take (i := 10) (oi := ⟨some 60, .pick (.tmp 56) (.tmp 59) (.const (.bool false)), _, _, _, _⟩) (v := ?vv105) rfl (by kernel_rfl) (by kernel_rfl) (by kernel_rfl) (fun _ _ _ h => h) (Or.inl ⟨by rfl, ?hy105⟩) HH.out ?rr105
            case hy105 => intro W hSw; go_simp; try with_reducible rfl
            try simp only [Act.put, List.setIfInBounds_toArray, List.set_cons_zero, List.set_cons_succ]
            refine wpAnyH_take (i := 11) (oi := ⟨some 61, .move (.tmp 60), _, _, _, _⟩) (v := ?vv106) rfl (by kernel_rfl) (by kernel_rfl) (by kernel_rfl) (fun _ _ _ h => h) (Or.inl ⟨by rfl, ?hy106⟩) HH.out ?rr106
            case hy106 => intro W hSw; go_simp; try with_reducible rfl
            try simp only [Act.put, List.setIfInBounds_toArray, List.set_cons_zero, List.set_cons_succ]
            refine wpAnyH_take (i := 12) (oi := ⟨some 62, .fieldAddr 25 (.tmp 7) 1, _, _, _, _⟩) (v := ?vv107) rfl (by kernel_rfl) (by kernel_rfl) (by kernel_rfl) (fun _ _ _ h => h) (Or.inl ⟨by rfl, ?hy107⟩) HH.out ?rr107
            case hy107 => intro W hSw; go_simp; try with_reducible rfl
            try simp only [Act.put, List.setIfInBounds_toArray, List.set_cons_zero, List.set_cons_succ]
            refine wpAnyH_take (i := 13) (oi := ⟨some 63, .load 3 (.tmp 62), _, _, _, _⟩) (v := ?vv108) rfl (by kernel_rfl) (by kernel_rfl) (by kernel_rfl) (fun _ _ _ h => h) (Or.inl ⟨by rfl, ?hy108⟩) HH.out ?rr108
            case hy108 => intro W hSw; obtain ⟨y0, y1, y2, y3⟩ := HRC.out W hSw; go_simp; try with_reducible rfl
            try simp only [Act.put, List.setIfInBounds_toArray, List.set_cons_zero, List.set_cons_succ]
            refine wpAnyH_take (i := 14) (oi := ⟨some 64, .move (.tmp 9), _, _, _, _⟩) (v := ?vv109) rfl (by kernel_rfl) (by kernel_rfl) (by kernel_rfl) (fun _ _ _ h => h) (Or.inl ⟨by rfl, ?hy109⟩) HH.out ?rr109
            case hy109 => intro W hSw; go_simp; try with_reducible rfl
            try simp only [Act.put, List.setIfInBounds_toArray, List.set_cons_zero, List.set_cons_succ]
            refine wpAnyH_take (i := 15) (oi := ⟨some 65, .binOp .sub 3 (.tmp 64) (.const (.int .i64 1)) 3, _, _, _, _⟩) (v := ?vv110) rfl (by kernel_rfl) (by kernel_rfl) (by kernel_rfl) (fun _ _ _ h => h) (Or.inl ⟨by rfl, ?hy110⟩) HH.out ?rr110
            case hy110 => intro W hSw; go_simp; try with_reducible rfl
            try simp only [Act.put, List.setIfInBounds_toArray, List.set_cons_zero, List.set_cons_succ]
            refine wpAnyH_take (i := 16) (oi := ⟨some 66, .binOp .leq 3 (.tmp 63) (.tmp 65) 3, _, _, _, _⟩) (v := ?vv111) rfl (by kernel_rfl) (by kernel_rfl) (by kernel_rfl) (fun _ _ _ h => h) (Or.inl ⟨by rfl, ?hy111⟩) HH.out ?rr111
            case hy111 => intro W hSw; go_simp; try with_reducible rfl
            try simp only [Act.put, List.setIfInBounds_toArray, List.set_cons_zero, List.set_cons_succ]
            refine wpAnyH_take (i := 17) (oi := ⟨some 67, .pick (.tmp 61) (.tmp 66) (.const (.bool false)), _, _, _, _⟩) (v := ?vv112) rfl (by kernel_rfl) (by kernel_rfl) (by kernel_rfl) (fun _ _ _ h => h) (Or.inl ⟨by rfl, ?hy112⟩) HH.out ?rr112
            case hy112 => intro W hSw; go_simp; try with_reducible rfl
            try simp only [Act.put, List.setIfInBounds_toArray, List.set_cons_zero, List.set_cons_succ]
            refine wpAnyH_take (i := 18) (oi := ⟨some 68, .move (.tmp 67), _, _, _, _⟩) (v := ?vv113) rfl (by kernel_rfl) (by kernel_rfl) (by kernel_rfl) (fun _ _ _ h => h) (Or.inl ⟨by rfl, ?hy113⟩) HH.out ?rr113
            case hy113 => intro W hSw; go_simp; try with_reducible rfl
            try simp only [Act.put, List.setIfInBounds_toArray, List.set_cons_zero, List.set_cons_succ]
            refine wpAnyH_take (i := 19) (oi := ⟨some 69, .move (.tmp 0), _, _, _, _⟩) (v := ?vv114) rfl (by kernel_rfl) (by kernel_rfl) (by kernel_rfl) (fun _ _ _ h => h) (Or.inl ⟨by rfl, ?hy114⟩) HH.out ?rr114
            case hy114 => intro W hSw; go_simp; try with_reducible rfl
            try simp only [Act.put, List.setIfInBounds_toArray, List.set_cons_zero, List.set_cons_succ]
            refine wpAnyH_take (i := 20) (oi := ⟨some 70, .move (.tmp 1), _, _, _, _⟩) (v := ?vv115) rfl (by kernel_rfl) (by kernel_rfl) (by kernel_rfl) (fun _ _ _ h => h) (Or.inl ⟨by rfl, ?hy115⟩) HH.out ?rr115
            case hy115 => intro W hSw; go_simp; try with_reducible rfl
            try simp only [Act.put, List.setIfInBounds_toArray, List.set_cons_zero, List.set_cons_succ]
            refine wpAnyH_take (i := 21) (oi := ⟨some 71, .move (.tmp 2), _, _, _, _⟩) (v := ?vv116) rfl (by kernel_rfl) (by kernel_rfl) (by kernel_rfl) (fun _ _ _ h => h) (Or.inl ⟨by rfl, ?hy116⟩) HH.out ?rr116
            case hy116 => intro W hSw; go_simp; try with_reducible rfl
            try simp only [Act.put, List.setIfInBounds_toArray, List.set_cons_zero, List.set_cons_succ]
            refine wpAnyH_take (i := 22) (oi := ⟨some 72, .binOp .sub 3 (.tmp 71) (.const (.int .i64 2)) 3, _, _, _, _⟩) (v := ?vv117) rfl (by kernel_rfl) (by kernel_rfl) (by kernel_rfl) (fun _ _ _ h => h) (Or.inl ⟨by rfl, ?hy117⟩) HH.out ?rr117
            case hy117 => intro W hSw; go_simp; try with_reducible rfl
            try simp only [Act.put, List.setIfInBounds_toArray, List.set_cons_zero, List.set_cons_succ]
            refine wpAnyH_take (i := 23) (oi := ⟨some 73, .index 9 (.tmp 70) (.tmp 72), _, _, _, _⟩) (v := ?vv118) rfl (by kernel_rfl) (by kernel_rfl) (by kernel_rfl) (fun _ _ _ h => h) (Or.inl ⟨by rfl, ?hy118⟩) HH.out ?rr118
            case hy118 => intro W hSw; go_simp; try with_reducible rfl
            try simp only [Act.put, List.setIfInBounds_toArray, List.set_cons_zero, List.set_cons_succ]
            refine wpAnyH_take (i := 24) (oi := ⟨some 74, .move (.tmp 1), _, _, _, _⟩) (v := ?vv119) rfl (by kernel_rfl) (by kernel_rfl) (by kernel_rfl) (fun _ _ _ h => h) (Or.inl ⟨by rfl, ?hy119⟩) HH.out ?rr119
            case hy119 => intro W hSw; go_simp; try with_reducible rfl
            try simp only [Act.put, List.setIfInBounds_toArray, List.set_cons_zero, List.set_cons_succ]
            refine wpAnyH_take (i := 25) (oi := ⟨some 75, .move (.tmp 2), _, _, _, _⟩) (v := ?vv120) rfl (by kernel_rfl) (by kernel_rfl) (by kernel_rfl) (fun _ _ _ h => h) (Or.inl ⟨by rfl, ?hy120⟩) HH.out ?rr120
            case hy120 => intro W hSw; go_simp; try with_reducible rfl
            try simp only [Act.put, List.setIfInBounds_toArray, List.set_cons_zero, List.set_cons_succ]
            refine wpAnyH_take (i := 26) (oi := ⟨some 76, .binOp .sub 3 (.tmp 75) (.const (.int .i64 1)) 3, _, _, _, _⟩) (v := ?vv121) rfl (by kernel_rfl) (by kernel_rfl) (by kernel_rfl) (fun _ _ _ h => h) (Or.inl ⟨by rfl, ?hy121⟩) HH.out ?rr121
            case hy121 => intro W hSw; go_simp; try with_reducible rfl
            try simp only [Act.put, List.setIfInBounds_toArray, List.set_cons_zero, List.set_cons_succ]
            refine wpAnyH_take (i := 27) (oi := ⟨some 77, .index 9 (.tmp 74) (.tmp 76), _, _, _, _⟩) (v := ?vv122) rfl (by kernel_rfl) (by kernel_rfl) (by kernel_rfl) (fun _ _ _ h => h) (Or.inl ⟨by rfl, ?hy122⟩) HH.out ?rr122
            case hy122 => intro W hSw; go_simp; try with_reducible rfl
            try simp only [Act.put, List.setIfInBounds_toArray, List.set_cons_zero, List.set_cons_succ]
            refine wpAnyH_take (i := 29) (oi := ⟨some 79, .fieldAddr 25 (.tmp 7) 1, _, _, _, _⟩) (v := ?vv123) rfl (by kernel_rfl) (by kernel_rfl) (by kernel_rfl) (fun _ _ _ h => h) (Or.inl ⟨by rfl, ?hy123⟩) HH.out ?rr123
            case hy123 => intro W hSw; go_simp; try with_reducible rfl
            try simp only [Act.put, List.setIfInBounds_toArray, List.set_cons_zero, List.set_cons_succ]
            refine wpAnyH_take (i := 30) (oi := ⟨some 80, .load 3 (.tmp 79), _, _, _, _⟩) (v := ?vv124) rfl (by kernel_rfl) (by kernel_rfl) (by kernel_rfl) (fun _ _ _ h => h) (Or.inl ⟨by rfl, ?hy124⟩) HH.out ?rr124
            case hy124 => intro W hSw; obtain ⟨y0, y1, y2, y3⟩ := HRC.out W hSw; go_simp; try with_reducible rfl
            try simp only [Act.put, List.setIfInBounds_toArray, List.set_cons_zero, List.set_cons_succ]
            refine wpAnyH_ready (rs := [28]) (by kernel_rfl) (by simp) ?_
            refine AllReadyH.cons (o := ⟨some 78, .call { callee := .value (.func 67), args := #[.tmp 69, .tmp 73, .tmp 77], argTypes := #[22, 5, 5] }, _, _, _, _⟩) rfl (fun K hK => ?_) AllReadyH.nil
            go_simp
            refine (HNEA.out sa sb _ (HK0.out.trans HH.out (fun _ _ hf => hf))).mono ?_
            rintro e2 wB ⟨⟨f1, rfl, hf1⟩, hq2⟩
            have HQ28 := Lib.hid (HH.out.trans (lst_dn hq2) (fun _ _ hf => hf))
            have HF := Lib.hid (ho2_near HU.out HUB.out HUA.out (HM.out.symm ▸ hf1) (by omega) : hoB lp u 2 (d : Int) [] = decide (d ≤ f1))
            clear hf1 hq2
            go_wp2_with fail
            refine hK.out _ _ (HQ28.out) (fun hHeld => ?_)
            have HH := Lib.hid hHeld
            clear hHeld hK K
            try simp only [Act.put, List.setIfInBounds_toArray, List.set_cons_zero, List.set_cons_succ]
            refine wpAnyH_take (i := 31) (oi := ⟨some 81, .binOp .geq 3 (.tmp 78) (.tmp 80) 3, _, _, _, _⟩) (v := ?vv125) rfl (by kernel_rfl) (by kernel_rfl) (by kernel_rfl) (fun _ _ _ h => h) (Or.inl ⟨by rfl, ?hy125⟩) HH.out ?rr125
            case hy125 => intro W hSw; go_simp; try with_reducible rfl
            try simp only [Act.put, List.setIfInBounds_toArray, List.set_cons_zero, List.set_cons_succ]
            refine wpAnyH_take (i := 32) (oi := ⟨some 82, .pick (.tmp 68) (.tmp 81) (.const (.bool false)), _, _, _, _⟩) (v := ?vv126) rfl (by kernel_rfl) (by kernel_rfl) (by kernel_rfl) (fun _ _ _ h => h) (Or.inl ⟨by rfl, ?hy126⟩) HH.out ?rr126
            case hy126 => intro W hSw; go_simp; try with_reducible rfl
            try simp only [Act.put, List.setIfInBounds_toArray, List.set_cons_zero, List.set_cons_succ]
            refine wpAnyH_take (i := 33) (oi := ⟨some 8, .assign (.tmp 82), _, _, _, _⟩) (v := ?vv127) rfl (by kernel_rfl) (by kernel_rfl) (by kernel_rfl) (fun _ _ _ h => h) (Or.inl ⟨by rfl, ?hy127⟩) HH.out ?rr127
            case hy127 => intro W hSw; go_simp; try with_reducible rfl
            try simp only [Act.put, List.setIfInBounds_toArray, List.set_cons_zero, List.set_cons_succ]
            refine wpAnyH_done (by kernel_rfl) ?_ _
            go_wp2_with fail
            go_ret
            refine ⟨?_, HK0.out.trans HQ28.out (fun _ _ hf => hf)⟩
            rw [HF.out]
            try rfl
          · have hnmd : decide ((d : Int) ≤ (m : Int) - 1) = false := decide_eq_false hnmi
            have HF := Lib.hid (ho2_hi HU.out (by rw [HM.out]; omega) (by omega) : hoB lp u 2 (d : Int) [] = false)
            clear hnmi
            go_wp2_with fail
            refine wp_region_held_drew (S := (fun X => Pure' W0 X)) (by kernel_rfl) ((Keeps.refl _ W0).drew) (fun hHeld => ?_)
            have HH := Lib.hid hHeld
            clear hHeld
            refine wpAnyH_take (i := 0) (oi := ⟨some 50, .load 25 (.tmp 7), _, _, _, _⟩) (v := ?vv128) rfl (by kernel_rfl) (by kernel_rfl) (by kernel_rfl) (fun _ _ _ h => h) (Or.inl ⟨by rfl, ?hy128⟩) HH.out ?rr128
            case hy128 => intro W hSw; obtain ⟨y0, y1, y2, y3⟩ := HRC.out W hSw; go_simp; try with_reducible rfl
            try simp only [Act.put, List.setIfInBounds_toArray, List.set_cons_zero, List.set_cons_succ]
            refine wpAnyH_ready (rs := [1]) (by kernel_rfl) (by simp) ?_
            refine AllReadyH.cons (o := ⟨some 51, .call { callee := .value (.func 65), args := #[.tmp 50], argTypes := #[25] }, _, _, _, _⟩) rfl (fun K hK => ?_) AllReadyH.nil
            go_simp
            refine (rbare_ _ _ _ _ 0 _ _ true rfl).mono ?_
            rintro e2 wB ⟨rfl, hkB⟩
            have HQ1 := Lib.hid (HH.out.trans hkB (fun _ _ hf => hf))
            clear hkB
            go_wp2_with fail
            refine hK.out _ _ (HQ1.out) (fun hHeld => ?_)
            have HH := Lib.hid hHeld
            clear hHeld hK K
            try simp only [Act.put, List.setIfInBounds_toArray, List.set_cons_zero, List.set_cons_succ]
            refine wpAnyH_take (i := 2) (oi := ⟨some 52, .move (.tmp 51), _, _, _, _⟩) (v := ?vv129) rfl (by kernel_rfl) (by kernel_rfl) (by kernel_rfl) (fun _ _ _ h => h) (Or.inl ⟨by rfl, ?hy129⟩) HH.out ?rr129
            case hy129 => intro W hSw; go_simp; try with_reducible rfl
            try simp only [Act.put, List.setIfInBounds_toArray, List.set_cons_zero, List.set_cons_succ]
            refine wpAnyH_take (i := 3) (oi := ⟨some 53, .move (.tmp 2), _, _, _, _⟩) (v := ?vv130) rfl (by kernel_rfl) (by kernel_rfl) (by kernel_rfl) (fun _ _ _ h => h) (Or.inl ⟨by rfl, ?hy130⟩) HH.out ?rr130
            case hy130 => intro W hSw; go_simp; try with_reducible rfl
            try simp only [Act.put, List.setIfInBounds_toArray, List.set_cons_zero, List.set_cons_succ]
            refine wpAnyH_take (i := 4) (oi := ⟨some 54, .binOp .geq 3 (.tmp 53) (.const (.int .i64 2)) 3, _, _, _, _⟩) (v := ?vv131) rfl (by kernel_rfl) (by kernel_rfl) (by kernel_rfl) (fun _ _ _ h => h) (Or.inl ⟨by rfl, ?hy131⟩) HH.out ?rr131
            case hy131 => intro W hSw; go_simp; try with_reducible rfl
            try simp only [Act.put, List.setIfInBounds_toArray, List.set_cons_zero, List.set_cons_succ]
            refine wpAnyH_take (i := 5) (oi := ⟨some 55, .pick (.tmp 52) (.tmp 54) (.const (.bool false)), _, _, _, _⟩) (v := ?vv132) rfl (by kernel_rfl) (by kernel_rfl) (by kernel_rfl) (fun _ _ _ h => h) (Or.inl ⟨by rfl, ?hy132⟩) HH.out ?rr132
            case hy132 => intro W hSw; go_simp; try with_reducible rfl
            try simp only [Act.put, List.setIfInBounds_toArray, List.set_cons_zero, List.set_cons_succ]
            refine wpAnyH_take (i := 6) (oi := ⟨some 56, .move (.tmp 55), _, _, _, _⟩) (v := ?vv133) rfl (by kernel_rfl) (by kernel_rfl) (by kernel_rfl) (fun _ _ _ h => h) (Or.inl ⟨by rfl, ?hy133⟩) HH.out ?rr133
            case hy133 => intro W hSw; go_simp; try with_reducible rfl
            try simp only [Act.put, List.setIfInBounds_toArray, List.set_cons_zero, List.set_cons_succ]
            refine wpAnyH_take (i := 7) (oi := ⟨some 57, .fieldAddr 25 (.tmp 7) 1, _, _, _, _⟩) (v := ?vv134) rfl (by kernel_rfl) (by kernel_rfl) (by kernel_rfl) (fun _ _ _ h => h) (Or.inl ⟨by rfl, ?hy134⟩) HH.out ?rr134
            case hy134 => intro W hSw; go_simp; try with_reducible rfl
            try simp only [Act.put, List.setIfInBounds_toArray, List.set_cons_zero, List.set_cons_succ]
            refine wpAnyH_take (i := 8) (oi := ⟨some 58, .load 3 (.tmp 57), _, _, _, _⟩) (v := ?vv135) rfl (by kernel_rfl) (by kernel_rfl) (by kernel_rfl) (fun _ _ _ h => h) (Or.inl ⟨by rfl, ?hy135⟩) HH.out ?rr135
            case hy135 => intro W hSw; obtain ⟨y0, y1, y2, y3⟩ := HRC.out W hSw; go_simp; try with_reducible rfl
            try simp only [Act.put, List.setIfInBounds_toArray, List.set_cons_zero, List.set_cons_succ]
            refine wpAnyH_take (i := 9) (oi := ⟨some 59, .binOp .geq 3 (.tmp 58) (.const (.int .i64 1)) 3, _, _, _, _⟩) (v := ?vv136) rfl (by kernel_rfl) (by kernel_rfl) (by kernel_rfl) (fun _ _ _ h => h) (Or.inl ⟨by rfl, ?hy136⟩) HH.out ?rr136
            case hy136 => intro W hSw; go_simp; try with_reducible rfl
            try simp only [Act.put, List.setIfInBounds_toArray, List.set_cons_zero, List.set_cons_succ]
            refine wpAnyH_take (i := 10) (oi := ⟨some 60, .pick (.tmp 56) (.tmp 59) (.const (.bool false)), _, _, _, _⟩) (v := ?vv137) rfl (by kernel_rfl) (by kernel_rfl) (by kernel_rfl) (fun _ _ _ h => h) (Or.inl ⟨by rfl, ?hy137⟩) HH.out ?rr137
            case hy137 => intro W hSw; go_simp; try with_reducible rfl
            try simp only [Act.put, List.setIfInBounds_toArray, List.set_cons_zero, List.set_cons_succ]
            refine wpAnyH_take (i := 11) (oi := ⟨some 61, .move (.tmp 60), _, _, _, _⟩) (v := ?vv138) rfl (by kernel_rfl) (by kernel_rfl) (by kernel_rfl) (fun _ _ _ h => h) (Or.inl ⟨by rfl, ?hy138⟩) HH.out ?rr138
            case hy138 => intro W hSw; go_simp; try with_reducible rfl
            try simp only [Act.put, List.setIfInBounds_toArray, List.set_cons_zero, List.set_cons_succ]
            refine wpAnyH_take (i := 12) (oi := ⟨some 62, .fieldAddr 25 (.tmp 7) 1, _, _, _, _⟩) (v := ?vv139) rfl (by kernel_rfl) (by kernel_rfl) (by kernel_rfl) (fun _ _ _ h => h) (Or.inl ⟨by rfl, ?hy139⟩) HH.out ?rr139
            case hy139 => intro W hSw; go_simp; try with_reducible rfl
            try simp only [Act.put, List.setIfInBounds_toArray, List.set_cons_zero, List.set_cons_succ]
            refine wpAnyH_take (i := 13) (oi := ⟨some 63, .load 3 (.tmp 62), _, _, _, _⟩) (v := ?vv140) rfl (by kernel_rfl) (by kernel_rfl) (by kernel_rfl) (fun _ _ _ h => h) (Or.inl ⟨by rfl, ?hy140⟩) HH.out ?rr140
            case hy140 => intro W hSw; obtain ⟨y0, y1, y2, y3⟩ := HRC.out W hSw; go_simp; try with_reducible rfl
            try simp only [Act.put, List.setIfInBounds_toArray, List.set_cons_zero, List.set_cons_succ]
            refine wpAnyH_take (i := 14) (oi := ⟨some 64, .move (.tmp 9), _, _, _, _⟩) (v := ?vv141) rfl (by kernel_rfl) (by kernel_rfl) (by kernel_rfl) (fun _ _ _ h => h) (Or.inl ⟨by rfl, ?hy141⟩) HH.out ?rr141
            case hy141 => intro W hSw; go_simp; try with_reducible rfl
            try simp only [Act.put, List.setIfInBounds_toArray, List.set_cons_zero, List.set_cons_succ]
            refine wpAnyH_take (i := 15) (oi := ⟨some 65, .binOp .sub 3 (.tmp 64) (.const (.int .i64 1)) 3, _, _, _, _⟩) (v := ?vv142) rfl (by kernel_rfl) (by kernel_rfl) (by kernel_rfl) (fun _ _ _ h => h) (Or.inl ⟨by rfl, ?hy142⟩) HH.out ?rr142
            case hy142 => intro W hSw; go_simp; try with_reducible rfl
            try simp only [Act.put, List.setIfInBounds_toArray, List.set_cons_zero, List.set_cons_succ]
            refine wpAnyH_take (i := 16) (oi := ⟨some 66, .binOp .leq 3 (.tmp 63) (.tmp 65) 3, _, _, _, _⟩) (v := ?vv143) rfl (by kernel_rfl) (by kernel_rfl) (by kernel_rfl) (fun _ _ _ h => h) (Or.inl ⟨by rfl, ?hy143⟩) HH.out ?rr143
            case hy143 => intro W hSw; go_simp; try with_reducible rfl
            try simp only [Act.put, List.setIfInBounds_toArray, List.set_cons_zero, List.set_cons_succ]
            refine wpAnyH_take (i := 17) (oi := ⟨some 67, .pick (.tmp 61) (.tmp 66) (.const (.bool false)), _, _, _, _⟩) (v := ?vv144) rfl (by kernel_rfl) (by kernel_rfl) (by kernel_rfl) (fun _ _ _ h => h) (Or.inl ⟨by rfl, ?hy144⟩) HH.out ?rr144
            case hy144 => intro W hSw; go_simp; try with_reducible rfl
            try simp only [Act.put, List.setIfInBounds_toArray, List.set_cons_zero, List.set_cons_succ]
            refine wpAnyH_take (i := 18) (oi := ⟨some 68, .move (.tmp 67), _, _, _, _⟩) (v := ?vv145) rfl (by kernel_rfl) (by kernel_rfl) (by kernel_rfl) (fun _ _ _ h => h) (Or.inl ⟨by rfl, ?hy145⟩) HH.out ?rr145
            case hy145 => intro W hSw; go_simp; try with_reducible rfl
            try simp only [Act.put, List.setIfInBounds_toArray, List.set_cons_zero, List.set_cons_succ]
            refine wpAnyH_take (i := 19) (oi := ⟨some 69, .move (.tmp 0), _, _, _, _⟩) (v := undef) rfl (by kernel_rfl) (by kernel_rfl) (by kernel_rfl) (fun _ _ _ h => h) (Or.inr ⟨by rfl, rfl⟩) HH.out ?_
            try simp only [Act.put, List.setIfInBounds_toArray, List.set_cons_zero, List.set_cons_succ]
            refine wpAnyH_take (i := 20) (oi := ⟨some 70, .move (.tmp 1), _, _, _, _⟩) (v := undef) rfl (by kernel_rfl) (by kernel_rfl) (by kernel_rfl) (fun _ _ _ h => h) (Or.inr ⟨by rfl, rfl⟩) HH.out ?_
            try simp only [Act.put, List.setIfInBounds_toArray, List.set_cons_zero, List.set_cons_succ]
            refine wpAnyH_take (i := 21) (oi := ⟨some 71, .move (.tmp 2), _, _, _, _⟩) (v := undef) rfl (by kernel_rfl) (by kernel_rfl) (by kernel_rfl) (fun _ _ _ h => h) (Or.inr ⟨by rfl, rfl⟩) HH.out ?_
            try simp only [Act.put, List.setIfInBounds_toArray, List.set_cons_zero, List.set_cons_succ]
            refine wpAnyH_take (i := 22) (oi := ⟨some 72, .binOp .sub 3 (.tmp 71) (.const (.int .i64 2)) 3, _, _, _, _⟩) (v := undef) rfl (by kernel_rfl) (by kernel_rfl) (by kernel_rfl) (fun _ _ _ h => h) (Or.inr ⟨by rfl, rfl⟩) HH.out ?_
            try simp only [Act.put, List.setIfInBounds_toArray, List.set_cons_zero, List.set_cons_succ]
            refine wpAnyH_take (i := 23) (oi := ⟨some 73, .index 9 (.tmp 70) (.tmp 72), _, _, _, _⟩) (v := undef) rfl (by kernel_rfl) (by kernel_rfl) (by kernel_rfl) (fun _ _ _ h => h) (Or.inr ⟨by rfl, rfl⟩) HH.out ?_
            try simp only [Act.put, List.setIfInBounds_toArray, List.set_cons_zero, List.set_cons_succ]
            refine wpAnyH_take (i := 24) (oi := ⟨some 74, .move (.tmp 1), _, _, _, _⟩) (v := undef) rfl (by kernel_rfl) (by kernel_rfl) (by kernel_rfl) (fun _ _ _ h => h) (Or.inr ⟨by rfl, rfl⟩) HH.out ?_
            try simp only [Act.put, List.setIfInBounds_toArray, List.set_cons_zero, List.set_cons_succ]
            refine wpAnyH_take (i := 25) (oi := ⟨some 75, .move (.tmp 2), _, _, _, _⟩) (v := undef) rfl (by kernel_rfl) (by kernel_rfl) (by kernel_rfl) (fun _ _ _ h => h) (Or.inr ⟨by rfl, rfl⟩) HH.out ?_
            try simp only [Act.put, List.setIfInBounds_toArray, List.set_cons_zero, List.set_cons_succ]
            refine wpAnyH_take (i := 26) (oi := ⟨some 76, .binOp .sub 3 (.tmp 75) (.const (.int .i64 1)) 3, _, _, _, _⟩) (v := undef) rfl (by kernel_rfl) (by kernel_rfl) (by kernel_rfl) (fun _ _ _ h => h) (Or.inr ⟨by rfl, rfl⟩) HH.out ?_
            try simp only [Act.put, List.setIfInBounds_toArray, List.set_cons_zero, List.set_cons_succ]
            refine wpAnyH_take (i := 27) (oi := ⟨some 77, .index 9 (.tmp 74) (.tmp 76), _, _, _, _⟩) (v := undef) rfl (by kernel_rfl) (by kernel_rfl) (by kernel_rfl) (fun _ _ _ h => h) (Or.inr ⟨by rfl, rfl⟩) HH.out ?_
            try simp only [Act.put, List.setIfInBounds_toArray, List.set_cons_zero, List.set_cons_succ]
            refine wpAnyH_take (i := 28) (oi := ⟨some 78, .call { callee := .value (.func 67), args := #[.tmp 69, .tmp 73, .tmp 77], argTypes := #[22, 5, 5] }, _, _, _, _⟩) (v := undef) rfl (by kernel_rfl) (by kernel_rfl) (by kernel_rfl) (fun _ _ _ h => h) (Or.inr ⟨by rfl, rfl⟩) HH.out ?_
            try simp only [Act.put, List.setIfInBounds_toArray, List.set_cons_zero, List.set_cons_succ]
            refine wpAnyH_take (i := 29) (oi := ⟨some 79, .fieldAddr 25 (.tmp 7) 1, _, _, _, _⟩) (v := undef) rfl (by kernel_rfl) (by kernel_rfl) (by kernel_rfl) (fun _ _ _ h => h) (Or.inr ⟨by rfl, rfl⟩) HH.out ?_
            try simp only [Act.put, List.setIfInBounds_toArray, List.set_cons_zero, List.set_cons_succ]
            refine wpAnyH_take (i := 30) (oi := ⟨some 80, .load 3 (.tmp 79), _, _, _, _⟩) (v := undef) rfl (by kernel_rfl) (by kernel_rfl) (by kernel_rfl) (fun _ _ _ h => h) (Or.inr ⟨by rfl, rfl⟩) HH.out ?_
            try simp only [Act.put, List.setIfInBounds_toArray, List.set_cons_zero, List.set_cons_succ]
            refine wpAnyH_take (i := 31) (oi := ⟨some 81, .binOp .geq 3 (.tmp 78) (.tmp 80) 3, _, _, _, _⟩) (v := undef) rfl (by kernel_rfl) (by kernel_rfl) (by kernel_rfl) (fun _ _ _ h => h) (Or.inr ⟨by rfl, rfl⟩) HH.out ?_
            try simp only [Act.put, List.setIfInBounds_toArray, List.set_cons_zero, List.set_cons_succ]
            refine wpAnyH_take (i := 32) (oi := ⟨some 82, .pick (.tmp 68) (.tmp 81) (.const (.bool false)), _, _, _, _⟩) (v := ?vv159) rfl (by kernel_rfl) (by kernel_rfl) (by kernel_rfl) (fun _ _ _ h => h) (Or.inl ⟨by rfl, ?hy159⟩) HH.out ?rr159
            case hy159 => intro W hSw; go_simp; try with_reducible rfl
            try simp only [Act.put, List.setIfInBounds_toArray, List.set_cons_zero, List.set_cons_succ]
            refine wpAnyH_take (i := 33) (oi := ⟨some 8, .assign (.tmp 82), _, _, _, _⟩) (v := ?vv160) rfl (by kernel_rfl) (by kernel_rfl) (by kernel_rfl) (fun _ _ _ h => h) (Or.inl ⟨by rfl, ?hy160⟩) HH.out ?rr160
            case hy160 => intro W hSw; go_simp; try with_reducible rfl
            try simp only [Act.put, List.setIfInBounds_toArray, List.set_cons_zero, List.set_cons_succ]
            refine wpAnyH_done (by kernel_rfl) ?_ _
            go_wp2_with fail
            go_ret
            refine ⟨?_, HK0.out.trans HQ1.out (fun _ _ hf => hf)⟩
            rw [HF.out]
            try rfl
        · have hn1d : decide (1 ≤ n) = false := decide_eq_false hn1
          have HF := Lib.hid (ho2_lo HU.out hn1 : hoB lp u 2 n [] = false)
          clear hn1
          go_wp2_with fail
          refine wp_region_held_drew (S := (fun X => Pure' W0 X)) (by kernel_rfl) ((Keeps.refl _ W0).drew) (fun hHeld => ?_)
          have HH := Lib.hid hHeld
          clear hHeld
          refine wpAnyH_take (i := 0) (oi := ⟨some 50, .load 25 (.tmp 7), _, _, _, _⟩) (v := ?vv161) rfl (by kernel_rfl) (by kernel_rfl) (by kernel_rfl) (fun _ _ _ h => h) (Or.inl ⟨by rfl, ?hy161⟩) HH.out ?rr161
          case hy161 => intro W hSw; obtain ⟨y0, y1, y2, y3⟩ := HRC.out W hSw; go_simp; try with_reducible rfl
          try simp only [Act.put, List.setIfInBounds_toArray, List.set_cons_zero, List.set_cons_succ]
          refine wpAnyH_ready (rs := [1]) (by kernel_rfl) (by simp) ?_
          refine AllReadyH.cons (o := ⟨some 51, .call { callee := .value (.func 65), args := #[.tmp 50], argTypes := #[25] }, _, _, _, _⟩) rfl (fun K hK => ?_) AllReadyH.nil
          go_simp
          refine (rbare_ _ _ _ _ 0 _ _ true rfl).mono ?_
          rintro e2 wB ⟨rfl, hkB⟩
          have HQ1 := Lib.hid (HH.out.trans hkB (fun _ _ hf => hf))
          clear hkB
          go_wp2_with fail
          refine hK.out _ _ (HQ1.out) (fun hHeld => ?_)
          have HH := Lib.hid hHeld
          clear hHeld hK K
          try simp only [Act.put, List.setIfInBounds_toArray, List.set_cons_zero, List.set_cons_succ]
          refine wpAnyH_take (i := 2) (oi := ⟨some 52, .move (.tmp 51), _, _, _, _⟩) (v := ?vv162) rfl (by kernel_rfl) (by kernel_rfl) (by kernel_rfl) (fun _ _ _ h => h) (Or.inl ⟨by rfl, ?hy162⟩) HH.out ?rr162
          case hy162 => intro W hSw; go_simp; try with_reducible rfl
          try simp only [Act.put, List.setIfInBounds_toArray, List.set_cons_zero, List.set_cons_succ]
          refine wpAnyH_take (i := 3) (oi := ⟨some 53, .move (.tmp 2), _, _, _, _⟩) (v := ?vv163) rfl (by kernel_rfl) (by kernel_rfl) (by kernel_rfl) (fun _ _ _ h => h) (Or.inl ⟨by rfl, ?hy163⟩) HH.out ?rr163
          case hy163 => intro W hSw; go_simp; try with_reducible rfl
          try simp only [Act.put, List.setIfInBounds_toArray, List.set_cons_zero, List.set_cons_succ]
          refine wpAnyH_take (i := 4) (oi := ⟨some 54, .binOp .geq 3 (.tmp 53) (.const (.int .i64 2)) 3, _, _, _, _⟩) (v := ?vv164) rfl (by kernel_rfl) (by kernel_rfl) (by kernel_rfl) (fun _ _ _ h => h) (Or.inl ⟨by rfl, ?hy164⟩) HH.out ?rr164
          case hy164 => intro W hSw; go_simp; try with_reducible rfl
          try simp only [Act.put, List.setIfInBounds_toArray, List.set_cons_zero, List.set_cons_succ]
          refine wpAnyH_take (i := 5) (oi := ⟨some 55, .pick (.tmp 52) (.tmp 54) (.const (.bool false)), _, _, _, _⟩) (v := ?vv165) rfl (by kernel_rfl) (by kernel_rfl) (by kernel_rfl) (fun _ _ _ h => h) (Or.inl ⟨by rfl, ?hy165⟩) HH.out ?rr165
          case hy165 => intro W hSw; go_simp; try with_reducible rfl
          try simp only [Act.put, List.setIfInBounds_toArray, List.set_cons_zero, List.set_cons_succ]
          refine wpAnyH_take (i := 6) (oi := ⟨some 56, .move (.tmp 55), _, _, _, _⟩) (v := ?vv166) rfl (by kernel_rfl) (by kernel_rfl) (by kernel_rfl) (fun _ _ _ h => h) (Or.inl ⟨by rfl, ?hy166⟩) HH.out ?rr166
          case hy166 => intro W hSw; go_simp; try with_reducible rfl
          try simp only [Act.put, List.setIfInBounds_toArray, List.set_cons_zero, List.set_cons_succ]
          refine wpAnyH_take (i := 7) (oi := ⟨some 57, .fieldAddr 25 (.tmp 7) 1, _, _, _, _⟩) (v := ?vv167) rfl (by kernel_rfl) (by kernel_rfl) (by kernel_rfl) (fun _ _ _ h => h) (Or.inl ⟨by rfl, ?hy167⟩) HH.out ?rr167
          case hy167 => intro W hSw; go_simp; try with_reducible rfl
          try simp only [Act.put, List.setIfInBounds_toArray, List.set_cons_zero, List.set_cons_succ]
          refine wpAnyH_take (i := 8) (oi := ⟨some 58, .load 3 (.tmp 57), _, _, _, _⟩) (v := ?vv168) rfl (by kernel_rfl) (by kernel_rfl) (by kernel_rfl) (fun _ _ _ h => h) (Or.inl ⟨by rfl, ?hy168⟩) HH.out ?rr168
          case hy168 => intro W hSw; obtain ⟨y0, y1, y2, y3⟩ := HRC.out W hSw; go_simp; try with_reducible rfl
          try simp only [Act.put, List.setIfInBounds_toArray, List.set_cons_zero, List.set_cons_succ]
          refine wpAnyH_take (i := 9) (oi := ⟨some 59, .binOp .geq 3 (.tmp 58) (.const (.int .i64 1)) 3, _, _, _, _⟩) (v := ?vv169) rfl (by kernel_rfl) (by kernel_rfl) (by kernel_rfl) (fun _ _ _ h => h) (Or.inl ⟨by rfl, ?hy169⟩) HH.out ?rr169
          case hy169 => intro W hSw; go_simp; try with_reducible rfl
          try simp only [Act.put, List.setIfInBounds_toArray, List.set_cons_zero, List.set_cons_succ]
          refine wpAnyH_take (i := 10) (oi := ⟨some 60, .pick (.tmp 56) (.tmp 59) (.const (.bool false)), _, _, _, _⟩) (v := ?vv170) rfl (by kernel_rfl) (by kernel_rfl) (by kernel_rfl) (fun _ _ _ h => h) (Or.inl ⟨by rfl, ?hy170⟩) HH.out ?rr170
          case hy170 => intro W hSw; go_simp; try with_reducible rfl
          try simp only [Act.put, List.setIfInBounds_toArray, List.set_cons_zero, List.set_cons_succ]
          refine wpAnyH_take (i := 11) (oi := ⟨some 61, .move (.tmp 60), _, _, _, _⟩) (v := ?vv171) rfl (by kernel_rfl) (by kernel_rfl) (by kernel_rfl) (fun _ _ _ h => h) (Or.inl ⟨by rfl, ?hy171⟩) HH.out ?rr171
          case hy171 => intro W hSw; go_simp; try with_reducible rfl
          try simp only [Act.put, List.setIfInBounds_toArray, List.set_cons_zero, List.set_cons_succ]
          refine wpAnyH_take (i := 12) (oi := ⟨some 62, .fieldAddr 25 (.tmp 7) 1, _, _, _, _⟩) (v := undef) rfl (by kernel_rfl) (by kernel_rfl) (by kernel_rfl) (fun _ _ _ h => h) (Or.inr ⟨by rfl, rfl⟩) HH.out ?_
          try simp only [Act.put, List.setIfInBounds_toArray, List.set_cons_zero, List.set_cons_succ]
          refine wpAnyH_take (i := 13) (oi := ⟨some 63, .load 3 (.tmp 62), _, _, _, _⟩) (v := undef) rfl (by kernel_rfl) (by kernel_rfl) (by kernel_rfl) (fun _ _ _ h => h) (Or.inr ⟨by rfl, rfl⟩) HH.out ?_
          try simp only [Act.put, List.setIfInBounds_toArray, List.set_cons_zero, List.set_cons_succ]
          refine wpAnyH_take (i := 14) (oi := ⟨some 64, .move (.tmp 9), _, _, _, _⟩) (v := undef) rfl (by kernel_rfl) (by kernel_rfl) (by kernel_rfl) (fun _ _ _ h => h) (Or.inr ⟨by rfl, rfl⟩) HH.out ?_
          try simp only [Act.put, List.setIfInBounds_toArray, List.set_cons_zero, List.set_cons_succ]
          refine wpAnyH_take (i := 15) (oi := ⟨some 65, .binOp .sub 3 (.tmp 64) (.const (.int .i64 1)) 3, _, _, _, _⟩) (v := undef) rfl (by kernel_rfl) (by kernel_rfl) (by kernel_rfl) (fun _ _ _ h => h) (Or.inr ⟨by rfl, rfl⟩) HH.out ?_
          try simp only [Act.put, List.setIfInBounds_toArray, List.set_cons_zero, List.set_cons_succ]
          refine wpAnyH_take (i := 16) (oi := ⟨some 66, .binOp .leq 3 (.tmp 63) (.tmp 65) 3, _, _, _, _⟩) (v := undef) rfl (by kernel_rfl) (by kernel_rfl) (by kernel_rfl) (fun _ _ _ h => h) (Or.inr ⟨by rfl, rfl⟩) HH.out ?_
          try simp only [Act.put, List.setIfInBounds_toArray, List.set_cons_zero, List.set_cons_succ]
          refine wpAnyH_take (i := 17) (oi := ⟨some 67, .pick (.tmp 61) (.tmp 66) (.const (.bool false)), _, _, _, _⟩) (v := ?vv177) rfl (by kernel_rfl) (by kernel_rfl) (by kernel_rfl) (fun _ _ _ h => h) (Or.inl ⟨by rfl, ?hy177⟩) HH.out ?rr177
          case hy177 => intro W hSw; go_simp; try with_reducible rfl
          try simp only [Act.put, List.setIfInBounds_toArray, List.set_cons_zero, List.set_cons_succ]
          refine wpAnyH_take (i := 18) (oi := ⟨some 68, .move (.tmp 67), _, _, _, _⟩) (v := ?vv178) rfl (by kernel_rfl) (by kernel_rfl) (by kernel_rfl) (fun _ _ _ h => h) (Or.inl ⟨by rfl, ?hy178⟩) HH.out ?rr178
          case hy178 => intro W hSw; go_simp; try with_reducible rfl
          try simp only [Act.put, List.setIfInBounds_toArray, List.set_cons_zero, List.set_cons_succ]
          refine wpAnyH_take (i := 19) (oi := ⟨some 69, .move (.tmp 0), _, _, _, _⟩) (v := undef) rfl (by kernel_rfl) (by kernel_rfl) (by kernel_rfl) (fun _ _ _ h => h) (Or.inr ⟨by rfl, rfl⟩) HH.out ?_
          try simp only [Act.put, List.setIfInBounds_toArray, List.set_cons_zero, List.set_cons_succ]
          refine wpAnyH_take (i := 20) (oi := ⟨some 70, .move (.tmp 1), _, _, _, _⟩) (v := undef) rfl (by kernel_rfl) (by kernel_rfl) (by kernel_rfl) (fun _ _ _ h => h) (Or.inr ⟨by rfl, rfl⟩) HH.out ?_
          try simp only [Act.put, List.setIfInBounds_toArray, List.set_cons_zero, List.set_cons_succ]
          refine wpAnyH_take (i := 21) (oi := ⟨some 71, .move (.tmp 2), _, _, _, _⟩) (v := undef) rfl (by kernel_rfl) (by kernel_rfl) (by kernel_rfl) (fun _ _ _ h => h) (Or.inr ⟨by rfl, rfl⟩) HH.out ?_
          try simp only [Act.put, List.setIfInBounds_toArray, List.set_cons_zero, List.set_cons_succ]
          refine wpAnyH_take (i := 22) (oi := ⟨some 72, .binOp .sub 3 (.tmp 71) (.const (.int .i64 2)) 3, _, _, _, _⟩) (v := undef) rfl (by kernel_rfl) (by kernel_rfl) (by kernel_rfl) (fun _ _ _ h => h) (Or.inr ⟨by rfl, rfl⟩) HH.out ?_
          try simp only [Act.put, List.setIfInBounds_toArray, List.set_cons_zero, List.set_cons_succ]
          refine wpAnyH_take (i := 23) (oi := ⟨some 73, .index 9 (.tmp 70) (.tmp 72), _, _, _, _⟩) (v := undef) rfl (by kernel_rfl) (by kernel_rfl) (by kernel_rfl) (fun _ _ _ h => h) (Or.inr ⟨by rfl, rfl⟩) HH.out ?_
          try simp only [Act.put, List.setIfInBounds_toArray, List.set_cons_zero, List.set_cons_succ]
          refine wpAnyH_take (i := 24) (oi := ⟨some 74, .move (.tmp 1), _, _, _, _⟩) (v := undef) rfl (by kernel_rfl) (by kernel_rfl) (by kernel_rfl) (fun _ _ _ h => h) (Or.inr ⟨by rfl, rfl⟩) HH.out ?_
          try simp only [Act.put, List.setIfInBounds_toArray, List.set_cons_zero, List.set_cons_succ]
          refine wpAnyH_take (i := 25) (oi := ⟨some 75, .move (.tmp 2), _, _, _, _⟩) (v := undef) rfl (by kernel_rfl) (by kernel_rfl) (by kernel_rfl) (fun _ _ _ h => h) (Or.inr ⟨by rfl, rfl⟩) HH.out ?_
          try simp only [Act.put, List.setIfInBounds_toArray, List.set_cons_zero, List.set_cons_succ]
          refine wpAnyH_take (i := 26) (oi := ⟨some 76, .binOp .sub 3 (.tmp 75) (.const (.int .i64 1)) 3, _, _, _, _⟩) (v := undef) rfl (by kernel_rfl) (by kernel_rfl) (by kernel_rfl) (fun _ _ _ h => h) (Or.inr ⟨by rfl, rfl⟩) HH.out ?_
          try simp only [Act.put, List.setIfInBounds_toArray, List.set_cons_zero, List.set_cons_succ]
          refine wpAnyH_take (i := 27) (oi := ⟨some 77, .index 9 (.tmp 74) (.tmp 76), _, _, _, _⟩) (v := undef) rfl (by kernel_rfl) (by kernel_rfl) (by kernel_rfl) (fun _ _ _ h => h) (Or.inr ⟨by rfl, rfl⟩) HH.out ?_
          try simp only [Act.put, List.setIfInBounds_toArray, List.set_cons_zero, List.set_cons_succ]
          refine wpAnyH_take (i := 28) (oi := ⟨some 78, .call { callee := .value (.func 67), args := #[.tmp 69, .tmp 73, .tmp 77], argTypes := #[22, 5, 5] }, _, _, _, _⟩) (v := undef) rfl (by kernel_rfl) (by kernel_rfl) (by kernel_rfl) (fun _ _ _ h => h) (Or.inr ⟨by rfl, rfl⟩) HH.out ?_
          try simp only [Act.put, List.setIfInBounds_toArray, List.set_cons_zero, List.set_cons_succ]
          refine wpAnyH_take (i := 29) (oi := ⟨some 79, .fieldAddr 25 (.tmp 7) 1, _, _, _, _⟩) (v := undef) rfl (by kernel_rfl) (by kernel_rfl) (by kernel_rfl) (fun _ _ _ h => h) (Or.inr ⟨by rfl, rfl⟩) HH.out ?_
          try simp only [Act.put, List.setIfInBounds_toArray, List.set_cons_zero, List.set_cons_succ]
          refine wpAnyH_take (i := 30) (oi := ⟨some 80, .load 3 (.tmp 79), _, _, _, _⟩) (v := undef) rfl (by kernel_rfl) (by kernel_rfl) (by kernel_rfl) (fun _ _ _ h => h) (Or.inr ⟨by rfl, rfl⟩) HH.out ?_
          try simp only [Act.put, List.setIfInBounds_toArray, List.set_cons_zero, List.set_cons_succ]
          refine wpAnyH_take (i := 31) (oi := ⟨some 81, .binOp .geq 3 (.tmp 78) (.tmp 80) 3, _, _, _, _⟩) (v := undef) rfl (by kernel_rfl) (by kernel_rfl) (by kernel_rfl) (fun _ _ _ h => h) (Or.inr ⟨by rfl, rfl⟩) HH.out ?_
          try simp only [Act.put, List.setIfInBounds_toArray, List.set_cons_zero, List.set_cons_succ]
          refine wpAnyH_take (i := 32) (oi := ⟨some 82, .pick (.tmp 68) (.tmp 81) (.const (.bool false)), _, _, _, _⟩) (v := ?vv192) rfl (by kernel_rfl) (by kernel_rfl) (by kernel_rfl) (fun _ _ _ h => h) (Or.inl ⟨by rfl, ?hy192⟩) HH.out ?rr192
          case hy192 => intro W hSw; go_simp; try with_reducible rfl
          try simp only [Act.put, List.setIfInBounds_toArray, List.set_cons_zero, List.set_cons_succ]
          refine wpAnyH_take (i := 33) (oi := ⟨some 8, .assign (.tmp 82), _, _, _, _⟩) (v := ?vv193) rfl (by kernel_rfl) (by kernel_rfl) (by kernel_rfl) (fun _ _ _ h => h) (Or.inl ⟨by rfl, ?hy193⟩) HH.out ?rr193
          case hy193 => intro W hSw; go_simp; try with_reducible rfl
          try simp only [Act.put, List.setIfInBounds_toArray, List.set_cons_zero, List.set_cons_succ]
          refine wpAnyH_done (by kernel_rfl) ?_ _
          go_wp2_with fail
          go_ret
          refine ⟨?_, HK0.out.trans HQ1.out (fun _ _ hf => hf)⟩
          rw [HF.out]
          try rfl
      · have h2d : decide ((2 : Int) ≤ (e : Int)) = false := decide_eq_false (by omega)
        have HF := Lib.hid (ho2_one HU.out (by rw [HUL.out]; omega) : hoB lp u 2 n [] = false)
        clear h2
        go_wp2_with fail
        refine wp_region_held_drew (S := (fun X => Pure' W0 X)) (by kernel_rfl) ((Keeps.refl _ W0).drew) (fun hHeld => ?_)
        have HH := Lib.hid hHeld
        clear hHeld
        refine wpAnyH_take (i := 0) (oi := ⟨some 50, .load 25 (.tmp 7), _, _, _, _⟩) (v := ?vv194) rfl (by kernel_rfl) (by kernel_rfl) (by kernel_rfl) (fun _ _ _ h => h) (Or.inl ⟨by rfl, ?hy194⟩) HH.out ?rr194
        case hy194 => intro W hSw; obtain ⟨y0, y1, y2, y3⟩ := HRC.out W hSw; go_simp; try with_reducible rfl
        try simp only [Act.put, List.setIfInBounds_toArray, List.set_cons_zero, List.set_cons_succ]
        refine wpAnyH_ready (rs := [1]) (by kernel_rfl) (by simp) ?_
        refine AllReadyH.cons (o := ⟨some 51, .call { callee := .value (.func 65), args := #[.tmp 50], argTypes := #[25] }, _, _, _, _⟩) rfl (fun K hK => ?_) AllReadyH.nil
        go_simp
        refine (rbare_ _ _ _ _ 0 _ _ true rfl).mono ?_
        rintro e2 wB ⟨rfl, hkB⟩
        have HQ1 := Lib.hid (HH.out.trans hkB (fun _ _ hf => hf))
        clear hkB
        go_wp2_with fail
        refine hK.out _ _ (HQ1.out) (fun hHeld => ?_)
        have HH := Lib.hid hHeld
        clear hHeld hK K
        try simp only [Act.put, List.setIfInBounds_toArray, List.set_cons_zero, List.set_cons_succ]
        refine wpAnyH_take (i := 2) (oi := ⟨some 52, .move (.tmp 51), _, _, _, _⟩) (v := ?vv195) rfl (by kernel_rfl) (by kernel_rfl) (by kernel_rfl) (fun _ _ _ h => h) (Or.inl ⟨by rfl, ?hy195⟩) HH.out ?rr195
        case hy195 => intro W hSw; go_simp; try with_reducible rfl
        try simp only [Act.put, List.setIfInBounds_toArray, List.set_cons_zero, List.set_cons_succ]
        refine wpAnyH_take (i := 3) (oi := ⟨some 53, .move (.tmp 2), _, _, _, _⟩) (v := ?vv196) rfl (by kernel_rfl) (by kernel_rfl) (by kernel_rfl) (fun _ _ _ h => h) (Or.inl ⟨by rfl, ?hy196⟩) HH.out ?rr196
        case hy196 => intro W hSw; go_simp; try with_reducible rfl
        try simp only [Act.put, List.setIfInBounds_toArray, List.set_cons_zero, List.set_cons_succ]
        refine wpAnyH_take (i := 4) (oi := ⟨some 54, .binOp .geq 3 (.tmp 53) (.const (.int .i64 2)) 3, _, _, _, _⟩) (v := ?vv197) rfl (by kernel_rfl) (by kernel_rfl) (by kernel_rfl) (fun _ _ _ h => h) (Or.inl ⟨by rfl, ?hy197⟩) HH.out ?rr197
        case hy197 => intro W hSw; go_simp; try with_reducible rfl
        try simp only [Act.put, List.setIfInBounds_toArray, List.set_cons_zero, List.set_cons_succ]
        refine wpAnyH_take (i := 5) (oi := ⟨some 55, .pick (.tmp 52) (.tmp 54) (.const (.bool false)), _, _, _, _⟩) (v := ?vv198) rfl (by kernel_rfl) (by kernel_rfl) (by kernel_rfl) (fun _ _ _ h => h) (Or.inl ⟨by rfl, ?hy198⟩) HH.out ?rr198
        case hy198 => intro W hSw; go_simp; try with_reducible rfl
        try simp only [Act.put, List.setIfInBounds_toArray, List.set_cons_zero, List.set_cons_succ]
        refine wpAnyH_take (i := 6) (oi := ⟨some 56, .move (.tmp 55), _, _, _, _⟩) (v := ?vv199) rfl (by kernel_rfl) (by kernel_rfl) (by kernel_rfl) (fun _ _ _ h => h) (Or.inl ⟨by rfl, ?hy199⟩) HH.out ?rr199
        case hy199 => intro W hSw; go_simp; try with_reducible rfl
        try simp only [Act.put, List.setIfInBounds_toArray, List.set_cons_zero, List.set_cons_succ]
        refine wpAnyH_take (i := 7) (oi := ⟨some 57, .fieldAddr 25 (.tmp 7) 1, _, _, _, _⟩) (v := undef) rfl (by kernel_rfl) (by kernel_rfl) (by kernel_rfl) (fun _ _ _ h => h) (Or.inr ⟨by rfl, rfl⟩) HH.out ?_
        try simp only [Act.put, List.setIfInBounds_toArray, List.set_cons_zero, List.set_cons_succ]
        refine wpAnyH_take (i := 8) (oi := ⟨some 58, .load 3 (.tmp 57), _, _, _, _⟩) (v := undef) rfl (by kernel_rfl) (by kernel_rfl) (by kernel_rfl) (fun _ _ _ h => h) (Or.inr ⟨by rfl, rfl⟩) HH.out ?_
        try simp only [Act.put, List.setIfInBounds_toArray, List.set_cons_zero, List.set_cons_succ]
        refine wpAnyH_take (i := 9) (oi := ⟨some 59, .binOp .geq 3 (.tmp 58) (.const (.int .i64 1)) 3, _, _, _, _⟩) (v := undef) rfl (by kernel_rfl) (by kernel_rfl) (by kernel_rfl) (fun _ _ _ h => h) (Or.inr ⟨by rfl, rfl⟩) HH.out ?_
        try simp only [Act.put, List.setIfInBounds_toArray, List.set_cons_zero, List.set_cons_succ]
        refine wpAnyH_take (i := 10) (oi := ⟨some 60, .pick (.tmp 56) (.tmp 59) (.const (.bool false)), _, _, _, _⟩) (v := ?vv203) rfl (by kernel_rfl) (by kernel_rfl) (by kernel_rfl) (fun _ _ _ h => h) (Or.inl ⟨by rfl, ?hy203⟩) HH.out ?rr203
        case hy203 => intro W hSw; go_simp; try with_reducible rfl
        try simp only [Act.put, List.setIfInBounds_toArray, List.set_cons_zero, List.set_cons_succ]
        refine wpAnyH_take (i := 11) (oi := ⟨some 61, .move (.tmp 60), _, _, _, _⟩) (v := ?vv204) rfl (by kernel_rfl) (by kernel_rfl) (by kernel_rfl) (fun _ _ _ h => h) (Or.inl ⟨by rfl, ?hy204⟩) HH.out ?rr204
        case hy204 => intro W hSw; go_simp; try with_reducible rfl
        try simp only [Act.put, List.setIfInBounds_toArray, List.set_cons_zero, List.set_cons_succ]
        refine wpAnyH_take (i := 12) (oi := ⟨some 62, .fieldAddr 25 (.tmp 7) 1, _, _, _, _⟩) (v := undef) rfl (by kernel_rfl) (by kernel_rfl) (by kernel_rfl) (fun _ _ _ h => h) (Or.inr ⟨by rfl, rfl⟩) HH.out ?_
        try simp only [Act.put, List.setIfInBounds_toArray, List.set_cons_zero, List.set_cons_succ]
        refine wpAnyH_take (i := 13) (oi := ⟨some 63, .load 3 (.tmp 62), _, _, _, _⟩) (v := undef) rfl (by kernel_rfl) (by kernel_rfl) (by kernel_rfl) (fun _ _ _ h => h) (Or.inr ⟨by rfl, rfl⟩) HH.out ?_
        try simp only [Act.put, List.setIfInBounds_toArray, List.set_cons_zero, List.set_cons_succ]
        refine wpAnyH_take (i := 14) (oi := ⟨some 64, .move (.tmp 9), _, _, _, _⟩) (v := undef) rfl (by kernel_rfl) (by kernel_rfl) (by kernel_rfl) (fun _ _ _ h => h) (Or.inr ⟨by rfl, rfl⟩) HH.out ?_
        try simp only [Act.put, List.setIfInBounds_toArray, List.set_cons_zero, List.set_cons_succ]
        refine wpAnyH_take (i := 15) (oi := ⟨some 65, .binOp .sub 3 (.tmp 64) (.const (.int .i64 1)) 3, _, _, _, _⟩) (v := undef) rfl (by kernel_rfl) (by kernel_rfl) (by kernel_rfl) (fun _ _ _ h => h) (Or.inr ⟨by rfl, rfl⟩) HH.out ?_
        try simp only [Act.put, List.setIfInBounds_toArray, List.set_cons_zero, List.set_cons_succ]
        refine wpAnyH_take (i := 16) (oi := ⟨some 66, .binOp .leq 3 (.tmp 63) (.tmp 65) 3, _, _, _, _⟩) (v := undef) rfl (by kernel_rfl) (by kernel_rfl) (by kernel_rfl) (fun _ _ _ h => h) (Or.inr ⟨by rfl, rfl⟩) HH.out ?_
        try simp only [Act.put, List.setIfInBounds_toArray, List.set_cons_zero, List.set_cons_succ]
        refine wpAnyH_take (i := 17) (oi := ⟨some 67, .pick (.tmp 61) (.tmp 66) (.const (.bool false)), _, _, _, _⟩) (v := ?vv210) rfl (by kernel_rfl) (by kernel_rfl) (by kernel_rfl) (fun _ _ _ h => h) (Or.inl ⟨by rfl, ?hy210⟩) HH.out ?rr210
        case hy210 => intro W hSw; go_simp; try with_reducible rfl
        try simp only [Act.put, List.setIfInBounds_toArray, List.set_cons_zero, List.set_cons_succ]
        refine wpAnyH_take (i := 18) (oi := ⟨some 68, .move (.tmp 67), _, _, _, _⟩) (v := ?vv211) rfl (by kernel_rfl) (by kernel_rfl) (by kernel_rfl) (fun _ _ _ h => h) (Or.inl ⟨by rfl, ?hy211⟩) HH.out ?rr211
        case hy211 => intro W hSw; go_simp; try with_reducible rfl
        try simp only [Act.put, List.setIfInBounds_toArray, List.set_cons_zero, List.set_cons_succ]
        refine wpAnyH_take (i := 19) (oi := ⟨some 69, .move (.tmp 0), _, _, _, _⟩) (v := undef) rfl (by kernel_rfl) (by kernel_rfl) (by kernel_rfl) (fun _ _ _ h => h) (Or.inr ⟨by rfl, rfl⟩) HH.out ?_
        try simp only [Act.put, List.setIfInBounds_toArray, List.set_cons_zero, List.set_cons_succ]
        refine wpAnyH_take (i := 20) (oi := ⟨some 70, .move (.tmp 1), _, _, _, _⟩) (v := undef) rfl (by kernel_rfl) (by kernel_rfl) (by kernel_rfl) (fun _ _ _ h => h) (Or.inr ⟨by rfl, rfl⟩) HH.out ?_
        try simp only [Act.put, List.setIfInBounds_toArray, List.set_cons_zero, List.set_cons_succ]
        refine wpAnyH_take (i := 21) (oi := ⟨some 71, .move (.tmp 2), _, _, _, _⟩) (v := undef) rfl (by kernel_rfl) (by kernel_rfl) (by kernel_rfl) (fun _ _ _ h => h) (Or.inr ⟨by rfl, rfl⟩) HH.out ?_
        try simp only [Act.put, List.setIfInBounds_toArray, List.set_cons_zero, List.set_cons_succ]
        refine wpAnyH_take (i := 22) (oi := ⟨some 72, .binOp .sub 3 (.tmp 71) (.const (.int .i64 2)) 3, _, _, _, _⟩) (v := undef) rfl (by kernel_rfl) (by kernel_rfl) (by kernel_rfl) (fun _ _ _ h => h) (Or.inr ⟨by rfl, rfl⟩) HH.out ?_
        try simp only [Act.put, List.setIfInBounds_toArray, List.set_cons_zero, List.set_cons_succ]
        refine wpAnyH_take (i := 23) (oi := ⟨some 73, .index 9 (.tmp 70) (.tmp 72), _, _, _, _⟩) (v := undef) rfl (by kernel_rfl) (by kernel_rfl) (by kernel_rfl) (fun _ _ _ h => h) (Or.inr ⟨by rfl, rfl⟩) HH.out ?_
        try simp only [Act.put, List.setIfInBounds_toArray, List.set_cons_zero, List.set_cons_succ]
        refine wpAnyH_take (i := 24) (oi := ⟨some 74, .move (.tmp 1), _, _, _, _⟩) (v := undef) rfl (by kernel_rfl) (by kernel_rfl) (by kernel_rfl) (fun _ _ _ h => h) (Or.inr ⟨by rfl, rfl⟩) HH.out ?_
        try simp only [Act.put, List.setIfInBounds_toArray, List.set_cons_zero, List.set_cons_succ]
        refine wpAnyH_take (i := 25) (oi := ⟨some 75, .move (.tmp 2), _, _, _, _⟩) (v := undef) rfl (by kernel_rfl) (by kernel_rfl) (by kernel_rfl) (fun _ _ _ h => h) (Or.inr ⟨by rfl, rfl⟩) HH.out ?_
        try simp only [Act.put, List.setIfInBounds_toArray, List.set_cons_zero, List.set_cons_succ]
        refine wpAnyH_take (i := 26) (oi := ⟨some 76, .binOp .sub 3 (.tmp 75) (.const (.int .i64 1)) 3, _, _, _, _⟩) (v := undef) rfl (by kernel_rfl) (by kernel_rfl) (by kernel_rfl) (fun _ _ _ h => h) (Or.inr ⟨by rfl, rfl⟩) HH.out ?_
        try simp only [Act.put, List.setIfInBounds_toArray, List.set_cons_zero, List.set_cons_succ]
        refine wpAnyH_take (i := 27) (oi := ⟨some 77, .index 9 (.tmp 74) (.tmp 76), _, _, _, _⟩) (v := undef) rfl (by kernel_rfl) (by kernel_rfl) (by kernel_rfl) (fun _ _ _ h => h) (Or.inr ⟨by rfl, rfl⟩) HH.out ?_
        try simp only [Act.put, List.setIfInBounds_toArray, List.set_cons_zero, List.set_cons_succ]
        refine wpAnyH_take (i := 28) (oi := ⟨some 78, .call { callee := .value (.func 67), args := #[.tmp 69, .tmp 73, .tmp 77], argTypes := #[22, 5, 5] }, _, _, _, _⟩) (v := undef) rfl (by kernel_rfl) (by kernel_rfl) (by kernel_rfl) (fun _ _ _ h => h) (Or.inr ⟨by rfl, rfl⟩) HH.out ?_
        try simp only [Act.put, List.setIfInBounds_toArray, List.set_cons_zero, List.set_cons_succ]
        refine wpAnyH_take (i := 29) (oi := ⟨some 79, .fieldAddr 25 (.tmp 7) 1, _, _, _, _⟩) (v := undef) rfl (by kernel_rfl) (by kernel_rfl) (by kernel_rfl) (fun _ _ _ h => h) (Or.inr ⟨by rfl, rfl⟩) HH.out ?_
        try simp only [Act.put, List.setIfInBounds_toArray, List.set_cons_zero, List.set_cons_succ]
        refine wpAnyH_take (i := 30) (oi := ⟨some 80, .load 3 (.tmp 79), _, _, _, _⟩) (v := undef) rfl (by kernel_rfl) (by kernel_rfl) (by kernel_rfl) (fun _ _ _ h => h) (Or.inr ⟨by rfl, rfl⟩) HH.out ?_
        try simp only [Act.put, List.setIfInBounds_toArray, List.set_cons_zero, List.set_cons_succ]
        refine wpAnyH_take (i := 31) (oi := ⟨some 81, .binOp .geq 3 (.tmp 78) (.tmp 80) 3, _, _, _, _⟩) (v := undef) rfl (by kernel_rfl) (by kernel_rfl) (by kernel_rfl) (fun _ _ _ h => h) (Or.inr ⟨by rfl, rfl⟩) HH.out ?_
        try simp only [Act.put, List.setIfInBounds_toArray, List.set_cons_zero, List.set_cons_succ]
        refine wpAnyH_take (i := 32) (oi := ⟨some 82, .pick (.tmp 68) (.tmp 81) (.const (.bool false)), _, _, _, _⟩) (v := ?vv225) rfl (by kernel_rfl) (by kernel_rfl) (by kernel_rfl) (fun _ _ _ h => h) (Or.inl ⟨by rfl, ?hy225⟩) HH.out ?rr225
        case hy225 => intro W hSw; go_simp; try with_reducible rfl
        try simp only [Act.put, List.setIfInBounds_toArray, List.set_cons_zero, List.set_cons_succ]
        refine wpAnyH_take (i := 33) (oi := ⟨some 8, .assign (.tmp 82), _, _, _, _⟩) (v := ?vv226) rfl (by kernel_rfl) (by kernel_rfl) (by kernel_rfl) (fun _ _ _ h => h) (Or.inl ⟨by rfl, ?hy226⟩) HH.out ?rr226
        case hy226 => intro W hSw; go_simp; try with_reducible rfl
        try simp only [Act.put, List.setIfInBounds_toArray, List.set_cons_zero, List.set_cons_succ]
        refine wpAnyH_done (by kernel_rfl) ?_ _
        go_wp2_with fail
        go_ret
        refine ⟨?_, HK0.out.trans HQ1.out (fun _ _ hf => hf)⟩
        rw [HF.out]
        try rfl
    · have HF := Lib.hid (ho_bad HU.out (fun e0 => hb (by rw [← HZL.out, e0]; rfl)) (by decide) : hoB lp u 2 n zs = false)
      go_wp2_with fail
      refine wp_region_held_drew (S := (fun X => Pure' W0 X)) (by kernel_rfl) ((Keeps.refl _ W0).drew) (fun hHeld => ?_)
      have HH := Lib.hid hHeld
      clear hHeld
      refine wpAnyH_take (i := 0) (oi := ⟨some 50, .load 25 (.tmp 7), _, _, _, _⟩) (v := ?vv227) rfl (by kernel_rfl) (by kernel_rfl) (by kernel_rfl) (fun _ _ _ h => h) (Or.inl ⟨by rfl, ?hy227⟩) HH.out ?rr227
      case hy227 => intro W hSw; obtain ⟨y0, y1, y2, y3⟩ := HRC.out W hSw; go_simp; try with_reducible rfl
      try simp only [Act.put, List.setIfInBounds_toArray, List.set_cons_zero, List.set_cons_succ]
      refine wpAnyH_ready (rs := [1]) (by kernel_rfl) (by simp) ?_
      refine AllReadyH.cons (o := ⟨some 51, .call { callee := .value (.func 65), args := #[.tmp 50], argTypes := #[25] }, _, _, _, _⟩) rfl (fun K hK => ?_) AllReadyH.nil
      go_simp
      refine (rbare_ _ _ _ _ m4 _ _ false (decide_eq_false hb)).mono ?_
      rintro e2 wB ⟨rfl, hkB⟩
      have HQ1 := Lib.hid (HH.out.trans hkB (fun _ _ hf => hf))
      clear hkB
      go_wp2_with fail
      refine hK.out _ _ (HQ1.out) (fun hHeld => ?_)
      have HH := Lib.hid hHeld
      clear hHeld hK K
      try simp only [Act.put, List.setIfInBounds_toArray, List.set_cons_zero, List.set_cons_succ]
      refine wpAnyH_take (i := 2) (oi := ⟨some 52, .move (.tmp 51), _, _, _, _⟩) (v := ?vv228) rfl (by kernel_rfl) (by kernel_rfl) (by kernel_rfl) (fun _ _ _ h => h) (Or.inl ⟨by rfl, ?hy228⟩) HH.out ?rr228
      case hy228 => intro W hSw; go_simp; try with_reducible rfl
      try simp only [Act.put, List.setIfInBounds_toArray, List.set_cons_zero, List.set_cons_succ]
      refine wpAnyH_take (i := 3) (oi := ⟨some 53, .move (.tmp 2), _, _, _, _⟩) (v := undef) rfl (by kernel_rfl) (by kernel_rfl) (by kernel_rfl) (fun _ _ _ h => h) (Or.inr ⟨by rfl, rfl⟩) HH.out ?_
      try simp only [Act.put, List.setIfInBounds_toArray, List.set_cons_zero, List.set_cons_succ]
      refine wpAnyH_take (i := 4) (oi := ⟨some 54, .binOp .geq 3 (.tmp 53) (.const (.int .i64 2)) 3, _, _, _, _⟩) (v := undef) rfl (by kernel_rfl) (by kernel_rfl) (by kernel_rfl) (fun _ _ _ h => h) (Or.inr ⟨by rfl, rfl⟩) HH.out ?_
      try simp only [Act.put, List.setIfInBounds_toArray, List.set_cons_zero, List.set_cons_succ]
      refine wpAnyH_take (i := 5) (oi := ⟨some 55, .pick (.tmp 52) (.tmp 54) (.const (.bool false)), _, _, _, _⟩) (v := ?vv231) rfl (by kernel_rfl) (by kernel_rfl) (by kernel_rfl) (fun _ _ _ h => h) (Or.inl ⟨by rfl, ?hy231⟩) HH.out ?rr231
      case hy231 => intro W hSw; go_simp; try with_reducible rfl
      try simp only [Act.put, List.setIfInBounds_toArray, List.set_cons_zero, List.set_cons_succ]
      refine wpAnyH_take (i := 6) (oi := ⟨some 56, .move (.tmp 55), _, _, _, _⟩) (v := ?vv232) rfl (by kernel_rfl) (by kernel_rfl) (by kernel_rfl) (fun _ _ _ h => h) (Or.inl ⟨by rfl, ?hy232⟩) HH.out ?rr232
      case hy232 => intro W hSw; go_simp; try with_reducible rfl
      try simp only [Act.put, List.setIfInBounds_toArray, List.set_cons_zero, List.set_cons_succ]
      refine wpAnyH_take (i := 7) (oi := ⟨some 57, .fieldAddr 25 (.tmp 7) 1, _, _, _, _⟩) (v := undef) rfl (by kernel_rfl) (by kernel_rfl) (by kernel_rfl) (fun _ _ _ h => h) (Or.inr ⟨by rfl, rfl⟩) HH.out ?_
      try simp only [Act.put, List.setIfInBounds_toArray, List.set_cons_zero, List.set_cons_succ]
      refine wpAnyH_take (i := 8) (oi := ⟨some 58, .load 3 (.tmp 57), _, _, _, _⟩) (v := undef) rfl (by kernel_rfl) (by kernel_rfl) (by kernel_rfl) (fun _ _ _ h => h) (Or.inr ⟨by rfl, rfl⟩) HH.out ?_
      try simp only [Act.put, List.setIfInBounds_toArray, List.set_cons_zero, List.set_cons_succ]
      refine wpAnyH_take (i := 9) (oi := ⟨some 59, .binOp .geq 3 (.tmp 58) (.const (.int .i64 1)) 3, _, _, _, _⟩) (v := undef) rfl (by kernel_rfl) (by kernel_rfl) (by kernel_rfl) (fun _ _ _ h => h) (Or.inr ⟨by rfl, rfl⟩) HH.out ?_
      try simp only [Act.put, List.setIfInBounds_toArray, List.set_cons_zero, List.set_cons_succ]
      refine wpAnyH_take (i := 10) (oi := ⟨some 60, .pick (.tmp 56) (.tmp 59) (.const (.bool false)), _, _, _, _⟩) (v := ?vv236) rfl (by kernel_rfl) (by kernel_rfl) (by kernel_rfl) (fun _ _ _ h => h) (Or.inl ⟨by rfl, ?hy236⟩) HH.out ?rr236
      case hy236 => intro W hSw; go_simp; try with_reducible rfl
      try simp only [Act.put, List.setIfInBounds_toArray, List.set_cons_zero, List.set_cons_succ]
      refine wpAnyH_take (i := 11) (oi := ⟨some 61, .move (.tmp 60), _, _, _, _⟩) (v := ?vv237) rfl (by kernel_rfl) (by kernel_rfl) (by kernel_rfl) (fun _ _ _ h => h) (Or.inl ⟨by rfl, ?hy237⟩) HH.out ?rr237
      case hy237 => intro W hSw; go_simp; try with_reducible rfl
      try simp only [Act.put, List.setIfInBounds_toArray, List.set_cons_zero, List.set_cons_succ]
      refine wpAnyH_take (i := 12) (oi := ⟨some 62, .fieldAddr 25 (.tmp 7) 1, _, _, _, _⟩) (v := undef) rfl (by kernel_rfl) (by kernel_rfl) (by kernel_rfl) (fun _ _ _ h => h) (Or.inr ⟨by rfl, rfl⟩) HH.out ?_
      try simp only [Act.put, List.setIfInBounds_toArray, List.set_cons_zero, List.set_cons_succ]
      refine wpAnyH_take (i := 13) (oi := ⟨some 63, .load 3 (.tmp 62), _, _, _, _⟩) (v := undef) rfl (by kernel_rfl) (by kernel_rfl) (by kernel_rfl) (fun _ _ _ h => h) (Or.inr ⟨by rfl, rfl⟩) HH.out ?_
      try simp only [Act.put, List.setIfInBounds_toArray, List.set_cons_zero, List.set_cons_succ]
      refine wpAnyH_take (i := 14) (oi := ⟨some 64, .move (.tmp 9), _, _, _, _⟩) (v := undef) rfl (by kernel_rfl) (by kernel_rfl) (by kernel_rfl) (fun _ _ _ h => h) (Or.inr ⟨by rfl, rfl⟩) HH.out ?_
      try simp only [Act.put, List.setIfInBounds_toArray, List.set_cons_zero, List.set_cons_succ]
      refine wpAnyH_take (i := 15) (oi := ⟨some 65, .binOp .sub 3 (.tmp 64) (.const (.int .i64 1)) 3, _, _, _, _⟩) (v := undef) rfl (by kernel_rfl) (by kernel_rfl) (by kernel_rfl) (fun _ _ _ h => h) (Or.inr ⟨by rfl, rfl⟩) HH.out ?_
      try simp only [Act.put, List.setIfInBounds_toArray, List.set_cons_zero, List.set_cons_succ]
      refine wpAnyH_take (i := 16) (oi := ⟨some 66, .binOp .leq 3 (.tmp 63) (.tmp 65) 3, _, _, _, _⟩) (v := undef) rfl (by kernel_rfl) (by kernel_rfl) (by kernel_rfl) (fun _ _ _ h => h) (Or.inr ⟨by rfl, rfl⟩) HH.out ?_
      try simp only [Act.put, List.setIfInBounds_toArray, List.set_cons_zero, List.set_cons_succ]
      refine wpAnyH_take (i := 17) (oi := ⟨some 67, .pick (.tmp 61) (.tmp 66) (.const (.bool false)), _, _, _, _⟩) (v := ?vv243) rfl (by kernel_rfl) (by kernel_rfl) (by kernel_rfl) (fun _ _ _ h => h) (Or.inl ⟨by rfl, ?hy243⟩) HH.out ?rr243
      case hy243 => intro W hSw; go_simp; try with_reducible rfl
      try simp only [Act.put, List.setIfInBounds_toArray, List.set_cons_zero, List.set_cons_succ]
      refine wpAnyH_take (i := 18) (oi := ⟨some 68, .move (.tmp 67), _, _, _, _⟩) (v := ?vv244) rfl (by kernel_rfl) (by kernel_rfl) (by kernel_rfl) (fun _ _ _ h => h) (Or.inl ⟨by rfl, ?hy244⟩) HH.out ?rr244
      case hy244 => intro W hSw; go_simp; try with_reducible rfl
      try simp only [Act.put, List.setIfInBounds_toArray, List.set_cons_zero, List.set_cons_succ]
      refine wpAnyH_take (i := 19) (oi := ⟨some 69, .move (.tmp 0), _, _, _, _⟩) (v := undef) rfl (by kernel_rfl) (by kernel_rfl) (by kernel_rfl) (fun _ _ _ h => h) (Or.inr ⟨by rfl, rfl⟩) HH.out ?_
      try simp only [Act.put, List.setIfInBounds_toArray, List.set_cons_zero, List.set_cons_succ]
      refine wpAnyH_take (i := 20) (oi := ⟨some 70, .move (.tmp 1), _, _, _, _⟩) (v := undef) rfl (by kernel_rfl) (by kernel_rfl) (by kernel_rfl) (fun _ _ _ h => h) (Or.inr ⟨by rfl, rfl⟩) HH.out ?_
      try simp only [Act.put, List.setIfInBounds_toArray, List.set_cons_zero, List.set_cons_succ]
      refine wpAnyH_take (i := 21) (oi := ⟨some 71, .move (.tmp 2), _, _, _, _⟩) (v := undef) rfl (by kernel_rfl) (by kernel_rfl) (by kernel_rfl) (fun _ _ _ h => h) (Or.inr ⟨by rfl, rfl⟩) HH.out ?_
      try simp only [Act.put, List.setIfInBounds_toArray, List.set_cons_zero, List.set_cons_succ]
      refine wpAnyH_take (i := 22) (oi := ⟨some 72, .binOp .sub 3 (.tmp 71) (.const (.int .i64 2)) 3, _, _, _, _⟩) (v := undef) rfl (by kernel_rfl) (by kernel_rfl) (by kernel_rfl) (fun _ _ _ h => h) (Or.inr ⟨by rfl, rfl⟩) HH.out ?_
      try simp only [Act.put, List.setIfInBounds_toArray, List.set_cons_zero, List.set_cons_succ]
      refine wpAnyH_take (i := 23) (oi := ⟨some 73, .index 9 (.tmp 70) (.tmp 72), _, _, _, _⟩) (v := undef) rfl (by kernel_rfl) (by kernel_rfl) (by kernel_rfl) (fun _ _ _ h => h) (Or.inr ⟨by rfl, rfl⟩) HH.out ?_
      try simp only [Act.put, List.setIfInBounds_toArray, List.set_cons_zero, List.set_cons_succ]
      refine wpAnyH_take (i := 24) (oi := ⟨some 74, .move (.tmp 1), _, _, _, _⟩) (v := undef) rfl (by kernel_rfl) (by kernel_rfl) (by kernel_rfl) (fun _ _ _ h => h) (Or.inr ⟨by rfl, rfl⟩) HH.out ?_
      try simp only [Act.put, List.setIfInBounds_toArray, List.set_cons_zero, List.set_cons_succ]
      refine wpAnyH_take (i := 25) (oi := ⟨some 75, .move (.tmp 2), _, _, _, _⟩) (v := undef) rfl (by kernel_rfl) (by kernel_rfl) (by kernel_rfl) (fun _ _ _ h => h) (Or.inr ⟨by rfl, rfl⟩) HH.out ?_
      try simp only [Act.put, List.setIfInBounds_toArray, List.set_cons_zero, List.set_cons_succ]
      refine wpAnyH_take (i := 26) (oi := ⟨some 76, .binOp .sub 3 (.tmp 75) (.const (.int .i64 1)) 3, _, _, _, _⟩) (v := undef) rfl (by kernel_rfl) (by kernel_rfl) (by kernel_rfl) (fun _ _ _ h => h) (Or.inr ⟨by rfl, rfl⟩) HH.out ?_
      try simp only [Act.put, List.setIfInBounds_toArray, List.set_cons_zero, List.set_cons_succ]
      refine wpAnyH_take (i := 27) (oi := ⟨some 77, .index 9 (.tmp 74) (.tmp 76), _, _, _, _⟩) (v := undef) rfl (by kernel_rfl) (by kernel_rfl) (by kernel_rfl) (fun _ _ _ h => h) (Or.inr ⟨by rfl, rfl⟩) HH.out ?_
      try simp only [Act.put, List.setIfInBounds_toArray, List.set_cons_zero, List.set_cons_succ]
      refine wpAnyH_take (i := 28) (oi := ⟨some 78, .call { callee := .value (.func 67), args := #[.tmp 69, .tmp 73, .tmp 77], argTypes := #[22, 5, 5] }, _, _, _, _⟩) (v := undef) rfl (by kernel_rfl) (by kernel_rfl) (by kernel_rfl) (fun _ _ _ h => h) (Or.inr ⟨by rfl, rfl⟩) HH.out ?_
      try simp only [Act.put, List.setIfInBounds_toArray, List.set_cons_zero, List.set_cons_succ]
      refine wpAnyH_take (i := 29) (oi := ⟨some 79, .fieldAddr 25 (.tmp 7) 1, _, _, _, _⟩) (v := undef) rfl (by kernel_rfl) (by kernel_rfl) (by kernel_rfl) (fun _ _ _ h => h) (Or.inr ⟨by rfl, rfl⟩) HH.out ?_
      try simp only [Act.put, List.setIfInBounds_toArray, List.set_cons_zero, List.set_cons_succ]
      refine wpAnyH_take (i := 30) (oi := ⟨some 80, .load 3 (.tmp 79), _, _, _, _⟩) (v := undef) rfl (by kernel_rfl) (by kernel_rfl) (by kernel_rfl) (fun _ _ _ h => h) (Or.inr ⟨by rfl, rfl⟩) HH.out ?_
      try simp only [Act.put, List.setIfInBounds_toArray, List.set_cons_zero, List.set_cons_succ]
      refine wpAnyH_take (i := 31) (oi := ⟨some 81, .binOp .geq 3 (.tmp 78) (.tmp 80) 3, _, _, _, _⟩) (v := undef) rfl (by kernel_rfl) (by kernel_rfl) (by kernel_rfl) (fun _ _ _ h => h) (Or.inr ⟨by rfl, rfl⟩) HH.out ?_
      try simp only [Act.put, List.setIfInBounds_toArray, List.set_cons_zero, List.set_cons_succ]
      refine wpAnyH_take (i := 32) (oi := ⟨some 82, .pick (.tmp 68) (.tmp 81) (.const (.bool false)), _, _, _, _⟩) (v := ?vv258) rfl (by kernel_rfl) (by kernel_rfl) (by kernel_rfl) (fun _ _ _ h => h) (Or.inl ⟨by rfl, ?hy258⟩) HH.out ?rr258
      case hy258 => intro W hSw; go_simp; try with_reducible rfl
      try simp only [Act.put, List.setIfInBounds_toArray, List.set_cons_zero, List.set_cons_succ]
      refine wpAnyH_take (i := 33) (oi := ⟨some 8, .assign (.tmp 82), _, _, _, _⟩) (v := ?vv259) rfl (by kernel_rfl) (by kernel_rfl) (by kernel_rfl) (fun _ _ _ h => h) (Or.inl ⟨by rfl, ?hy259⟩) HH.out ?rr259
      case hy259 => intro W hSw; go_simp; try with_reducible rfl
      try simp only [Act.put, List.setIfInBounds_toArray, List.set_cons_zero, List.set_cons_succ]
      refine wpAnyH_done (by kernel_rfl) ?_ _
      go_wp2_with fail
      go_ret
      refine ⟨?_, HK0.out.trans HQ1.out (fun _ _ hf => hf)⟩
      rw [HF.out]
      try rfl
  have k2i : (kind == 2) = false := by rw [beq_eq_false_iff_ne]; exact k2
  have K2 := Lib.hid k2
  clear k2
  by_cases k3 : kind = 3
  · subst k3
    by_cases hb : m4 = 0
    · subst hb
      obtain rfl : zs = [] := List.eq_nil_of_length_eq_zero HZL.out
      by_cases hn1 : 1 ≤ n
      · obtain ⟨d, rfl⟩ : ∃ d : Nat, n = (d : Int) := ⟨n.toNat, by omega⟩
        have HF := Lib.hid (ho3_ms HU.out HNE.out (by omega) : hoB lp u 3 (d : Int) [] = rmB (bl lp) u d)
        have HMI := Lib.hid (fun (W : World) (hW : Pure' w W) => HMISS.out he1 d (by omega) W hW)
        go_wp2_with fail
        refine (rbare_ _ _ _ _ 0 _ _ true rfl).mono ?_
        rintro e2 w1 ⟨rfl, hkB⟩
        have HQ1 := Lib.hid hkB
        obtain ⟨z0, z1, z2, z3⟩ := HRC.out w1 hkB
        clear hkB r0 r1 r2 r3
        go_wp2_with fail
        refine (HMI.out w1 (HK0.out.trans HQ1.out (fun _ _ hf => hf))).mono ?_
        rintro e2 w2 ⟨rfl, hq2⟩
        have HQ2 := Lib.hid (HQ1.out.trans (lst_dn hq2) (fun _ _ hf => hf))
        clear hq2 z0 z1 z2 z3
        generalize rmB (bl lp) u d = rr at *
        go_wp2_with fail
        go_ret
        refine ⟨?_, HK0.out.trans HQ2.out (fun _ _ hf => hf)⟩
        rw [HF.out]
        try rfl
      · have HF := Lib.hid (ho3_lo HU.out hn1 : hoB lp u 3 n [] = false)
        go_wp2_with fail
        refine (rbare_ _ _ _ _ 0 _ _ true rfl).mono ?_
        rintro e2 w1 ⟨rfl, hkB⟩
        have HQ1 := Lib.hid hkB
        obtain ⟨z0, z1, z2, z3⟩ := HRC.out w1 hkB
        clear hkB r0 r1 r2 r3
        go_wp2_with fail
        go_ret
        refine ⟨?_, HK0.out.trans HQ1.out (fun _ _ hf => hf)⟩
        rw [HF.out]
        try rfl
    · have HF := Lib.hid (ho_bad HU.out (fun e0 => hb (by rw [← HZL.out, e0]; rfl)) (by decide) : hoB lp u 3 n zs = false)
      go_wp2_with fail
      refine (rbare_ _ _ _ _ m4 _ _ false (decide_eq_false hb)).mono ?_
      rintro e2 w1 ⟨rfl, hkB⟩
      have HQ1 := Lib.hid hkB
      obtain ⟨z0, z1, z2, z3⟩ := HRC.out w1 hkB
      clear hkB r0 r1 r2 r3
      go_wp2_with fail
      go_ret
      refine ⟨?_, HK0.out.trans HQ1.out (fun _ _ hf => hf)⟩
      rw [HF.out]
      try rfl
  have k3i : (kind == 3) = false := by rw [beq_eq_false_iff_ne]; exact k3
  have K3 := Lib.hid k3
  clear k3
  by_cases k4 : kind = 4
  · subst k4
    by_cases hn0 : n = 0
    · subst hn0
      go_wp2_with fail
      refine wp_region_held_drew (S := (fun X => Pure' W0 X)) (by kernel_rfl) ((Keeps.refl _ W0).drew) (fun hHeld => ?_)
      have HH := Lib.hid hHeld
      clear hHeld
      refine wpAnyH_take (i := 0) (oi := ⟨some 101, .fieldAddr 25 (.tmp 7) 0, _, _, _, _⟩) (v := ?vv260) rfl (by kernel_rfl) (by kernel_rfl) (by kernel_rfl) (fun _ _ _ h => h) (Or.inl ⟨by rfl, ?hy260⟩) HH.out ?rr260
      case hy260 => intro W hSw; go_simp; try with_reducible rfl
      try simp only [Act.put, List.setIfInBounds_toArray, List.set_cons_zero, List.set_cons_succ]
      refine wpAnyH_take (i := 1) (oi := ⟨some 102, .load 3 (.tmp 101), _, _, _, _⟩) (v := ?vv261) rfl (by kernel_rfl) (by kernel_rfl) (by kernel_rfl) (fun _ _ _ h => h) (Or.inl ⟨by rfl, ?hy261⟩) HH.out ?rr261
      case hy261 => intro W hSw; obtain ⟨y0, y1, y2, y3⟩ := HRC.out W hSw; go_simp; try with_reducible rfl
      try simp only [Act.put, List.setIfInBounds_toArray, List.set_cons_zero, List.set_cons_succ]
      refine wpAnyH_take (i := 2) (oi := ⟨some 103, .binOp .eql 3 (.tmp 102) (.const (.int .i64 4)) 3, _, _, _, _⟩) (v := ?vv262) rfl (by kernel_rfl) (by kernel_rfl) (by kernel_rfl) (fun _ _ _ h => h) (Or.inl ⟨by rfl, ?hy262⟩) HH.out ?rr262
      case hy262 => intro W hSw; go_simp; try with_reducible rfl
      try simp only [Act.put, List.setIfInBounds_toArray, List.set_cons_zero, List.set_cons_succ]
      refine wpAnyH_take (i := 3) (oi := ⟨some 104, .move (.tmp 103), _, _, _, _⟩) (v := ?vv263) rfl (by kernel_rfl) (by kernel_rfl) (by kernel_rfl) (fun _ _ _ h => h) (Or.inl ⟨by rfl, ?hy263⟩) HH.out ?rr263
      case hy263 => intro W hSw; go_simp; try with_reducible rfl
      try simp only [Act.put, List.setIfInBounds_toArray, List.set_cons_zero, List.set_cons_succ]
      refine wpAnyH_take (i := 4) (oi := ⟨some 105, .fieldAddr 25 (.tmp 7) 1, _, _, _, _⟩) (v := ?vv264) rfl (by kernel_rfl) (by kernel_rfl) (by kernel_rfl) (fun _ _ _ h => h) (Or.inl ⟨by rfl, ?hy264⟩) HH.out ?rr264
      case hy264 => intro W hSw; go_simp; try with_reducible rfl
      try simp only [Act.put, List.setIfInBounds_toArray, List.set_cons_zero, List.set_cons_succ]
      refine wpAnyH_take (i := 5) (oi := ⟨some 106, .load 3 (.tmp 105), _, _, _, _⟩) (v := ?vv265) rfl (by kernel_rfl) (by kernel_rfl) (by kernel_rfl) (fun _ _ _ h => h) (Or.inl ⟨by rfl, ?hy265⟩) HH.out ?rr265
      case hy265 => intro W hSw; obtain ⟨y0, y1, y2, y3⟩ := HRC.out W hSw; go_simp; try with_reducible rfl
      try simp only [Act.put, List.setIfInBounds_toArray, List.set_cons_zero, List.set_cons_succ]
      refine wpAnyH_take (i := 6) (oi := ⟨some 107, .binOp .eql 3 (.tmp 106) (.const (.int .i64 0)) 3, _, _, _, _⟩) (v := ?vv266) rfl (by kernel_rfl) (by kernel_rfl) (by kernel_rfl) (fun _ _ _ h => h) (Or.inl ⟨by rfl, ?hy266⟩) HH.out ?rr266
      case hy266 => intro W hSw; go_simp; try with_reducible rfl
      try simp only [Act.put, List.setIfInBounds_toArray, List.set_cons_zero, List.set_cons_succ]
      refine wpAnyH_take (i := 7) (oi := ⟨some 108, .pick (.tmp 104) (.tmp 107) (.const (.bool false)), _, _, _, _⟩) (v := ?vv267) rfl (by kernel_rfl) (by kernel_rfl) (by kernel_rfl) (fun _ _ _ h => h) (Or.inl ⟨by rfl, ?hy267⟩) HH.out ?rr267
      case hy267 => intro W hSw; go_simp; try with_reducible rfl
      try simp only [Act.put, List.setIfInBounds_toArray, List.set_cons_zero, List.set_cons_succ]
      refine wpAnyH_take (i := 8) (oi := ⟨some 109, .move (.tmp 108), _, _, _, _⟩) (v := ?vv268) rfl (by kernel_rfl) (by kernel_rfl) (by kernel_rfl) (fun _ _ _ h => h) (Or.inl ⟨by rfl, ?hy268⟩) HH.out ?rr268
      case hy268 => intro W hSw; go_simp; try with_reducible rfl
      try simp only [Act.put, List.setIfInBounds_toArray, List.set_cons_zero, List.set_cons_succ]
      refine wpAnyH_take (i := 9) (oi := ⟨some 110, .fieldAddr 25 (.tmp 7) 3, _, _, _, _⟩) (v := ?vv269) rfl (by kernel_rfl) (by kernel_rfl) (by kernel_rfl) (fun _ _ _ h => h) (Or.inl ⟨by rfl, ?hy269⟩) HH.out ?rr269
      case hy269 => intro W hSw; go_simp; try with_reducible rfl
      try simp only [Act.put, List.setIfInBounds_toArray, List.set_cons_zero, List.set_cons_succ]
      refine wpAnyH_take (i := 10) (oi := ⟨some 111, .load 23 (.tmp 110), _, _, _, _⟩) (v := ?vv270) rfl (by kernel_rfl) (by kernel_rfl) (by kernel_rfl) (fun _ _ _ h => h) (Or.inl ⟨by rfl, ?hy270⟩) HH.out ?rr270
      case hy270 => intro W hSw; obtain ⟨y0, y1, y2, y3⟩ := HRC.out W hSw; go_simp; try with_reducible rfl
      try simp only [Act.put, List.setIfInBounds_toArray, List.set_cons_zero, List.set_cons_succ]
      refine wpAnyH_take (i := 11) (oi := ⟨some 112, .move (.tmp 0), _, _, _, _⟩) (v := ?vv271) rfl (by kernel_rfl) (by kernel_rfl) (by kernel_rfl) (fun _ _ _ h => h) (Or.inl ⟨by rfl, ?hy271⟩) HH.out ?rr271
      case hy271 => intro W hSw; go_simp; try with_reducible rfl
      try simp only [Act.put, List.setIfInBounds_toArray, List.set_cons_zero, List.set_cons_succ]
      refine wpAnyH_take (i := 12) (oi := ⟨some 113, .move (.tmp 1), _, _, _, _⟩) (v := ?vv272) rfl (by kernel_rfl) (by kernel_rfl) (by kernel_rfl) (fun _ _ _ h => h) (Or.inl ⟨by rfl, ?hy272⟩) HH.out ?rr272
      case hy272 => intro W hSw; go_simp; try with_reducible rfl
      try simp only [Act.put, List.setIfInBounds_toArray, List.set_cons_zero, List.set_cons_succ]
      refine wpAnyH_take (i := 13) (oi := ⟨some 114, .move (.tmp 2), _, _, _, _⟩) (v := ?vv273) rfl (by kernel_rfl) (by kernel_rfl) (by kernel_rfl) (fun _ _ _ h => h) (Or.inl ⟨by rfl, ?hy273⟩) HH.out ?rr273
      case hy273 => intro W hSw; go_simp; try with_reducible rfl
      try simp only [Act.put, List.setIfInBounds_toArray, List.set_cons_zero, List.set_cons_succ]
      refine wpAnyH_ready (rs := [14]) (by kernel_rfl) (by simp) ?_
      refine AllReadyH.cons (o := ⟨some 115, .call { callee := .value (.func 20), args := #[.tmp 112, .tmp 113, .tmp 114], argTypes := #[22, 9, 3] }, _, _, _, _⟩) rfl (fun K hK => ?_) AllReadyH.nil
      go_simp
      refine (HAT.out _ (HK0.out.trans HH.out (fun _ _ hf => hf))).mono ?_
      rintro e2 wB ⟨aL, cL, rfl, hr, _, hkB⟩
      have HQ14 := Lib.hid (HH.out.trans hkB (fun _ _ hf => hf))
      have HSL := Lib.hid (HSA.out (hitsL (bl lp) u) aL cL wB (HK0.out.trans HQ14.out (fun _ _ hf => hf)) hr.sees HLN.out)
      have HF := Lib.hid (ho4_at HU.out HNE.out : hoB lp u 4 0 zs = decide (zs = (hitsL (bl lp) u).map (fun (i : Nat) => (i : Int))))
      generalize decide (zs = (hitsL (bl lp) u).map (fun (i : Nat) => (i : Int))) = rr at *
      generalize (hitsL (bl lp) u).length = ln at *
      clear hr hkB
      go_wp2_with fail
      refine hK.out _ _ (HQ14.out) (fun hHeld => ?_)
      have HH := Lib.hid hHeld
      clear hHeld hK K
      try simp only [Act.put, List.setIfInBounds_toArray, List.set_cons_zero, List.set_cons_succ]
      refine wpAnyH_ready (rs := [15]) (by kernel_rfl) (by simp) ?_
      refine AllReadyH.cons (o := ⟨some 116, .call { callee := .value (.func 22), args := #[.tmp 111, .tmp 115], argTypes := #[23, 23] }, _, _, _, _⟩) rfl (fun K hK => ?_) AllReadyH.nil
      go_simp
      refine (HSL.out).mono ?_
      rintro e2 wB ⟨rfl, hq2⟩
      have HQ15 := Lib.hid (HH.out.trans (lst_dn hq2) (fun _ _ hf => hf))
      clear hq2
      go_wp2_with fail
      refine hK.out _ _ (HQ15.out) (fun hHeld => ?_)
      have HH := Lib.hid hHeld
      clear hHeld hK K
      try simp only [Act.put, List.setIfInBounds_toArray, List.set_cons_zero, List.set_cons_succ]
      refine wpAnyH_take (i := 16) (oi := ⟨some 117, .pick (.tmp 109) (.tmp 116) (.const (.bool false)), _, _, _, _⟩) (v := ?vv274) rfl (by kernel_rfl) (by kernel_rfl) (by kernel_rfl) (fun _ _ _ h => h) (Or.inl ⟨by rfl, ?hy274⟩) HH.out ?rr274
      case hy274 => intro W hSw; go_simp; try with_reducible rfl
      try simp only [Act.put, List.setIfInBounds_toArray, List.set_cons_zero, List.set_cons_succ]
      refine wpAnyH_take (i := 17) (oi := ⟨some 8, .assign (.tmp 117), _, _, _, _⟩) (v := ?vv275) rfl (by kernel_rfl) (by kernel_rfl) (by kernel_rfl) (fun _ _ _ h => h) (Or.inl ⟨by rfl, ?hy275⟩) HH.out ?rr275
      case hy275 => intro W hSw; go_simp; try with_reducible rfl
      try simp only [Act.put, List.setIfInBounds_toArray, List.set_cons_zero, List.set_cons_succ]
      refine wpAnyH_done (by kernel_rfl) ?_ _
      go_wp2_with fail
      go_ret
      refine ⟨?_, HK0.out.trans HQ15.out (fun _ _ hf => hf)⟩
      rw [HF.out]
      try rfl
    · have hn0i : (n == 0) = false := by rw [beq_eq_false_iff_ne]; exact hn0
      have HF := Lib.hid (ho4_no HU.out hn0 : hoB lp u 4 n zs = false)
      clear hn0
      go_wp2_with fail
      refine wp_region_held_drew (S := (fun X => Pure' W0 X)) (by kernel_rfl) ((Keeps.refl _ W0).drew) (fun hHeld => ?_)
      have HH := Lib.hid hHeld
      clear hHeld
      refine wpAnyH_take (i := 0) (oi := ⟨some 101, .fieldAddr 25 (.tmp 7) 0, _, _, _, _⟩) (v := ?vv276) rfl (by kernel_rfl) (by kernel_rfl) (by kernel_rfl) (fun _ _ _ h => h) (Or.inl ⟨by rfl, ?hy276⟩) HH.out ?rr276
      case hy276 => intro W hSw; go_simp; try with_reducible rfl
      try simp only [Act.put, List.setIfInBounds_toArray, List.set_cons_zero, List.set_cons_succ]
      refine wpAnyH_take (i := 1) (oi := ⟨some 102, .load 3 (.tmp 101), _, _, _, _⟩) (v := ?vv277) rfl (by kernel_rfl) (by kernel_rfl) (by kernel_rfl) (fun _ _ _ h => h) (Or.inl ⟨by rfl, ?hy277⟩) HH.out ?rr277
      case hy277 => intro W hSw; obtain ⟨y0, y1, y2, y3⟩ := HRC.out W hSw; go_simp; try with_reducible rfl
      try simp only [Act.put, List.setIfInBounds_toArray, List.set_cons_zero, List.set_cons_succ]
      refine wpAnyH_take (i := 2) (oi := ⟨some 103, .binOp .eql 3 (.tmp 102) (.const (.int .i64 4)) 3, _, _, _, _⟩) (v := ?vv278) rfl (by kernel_rfl) (by kernel_rfl) (by kernel_rfl) (fun _ _ _ h => h) (Or.inl ⟨by rfl, ?hy278⟩) HH.out ?rr278
      case hy278 => intro W hSw; go_simp; try with_reducible rfl
      try simp only [Act.put, List.setIfInBounds_toArray, List.set_cons_zero, List.set_cons_succ]
      refine wpAnyH_take (i := 3) (oi := ⟨some 104, .move (.tmp 103), _, _, _, _⟩) (v := ?vv279) rfl (by kernel_rfl) (by kernel_rfl) (by kernel_rfl) (fun _ _ _ h => h) (Or.inl ⟨by rfl, ?hy279⟩) HH.out ?rr279
      case hy279 => intro W hSw; go_simp; try with_reducible rfl
      try simp only [Act.put, List.setIfInBounds_toArray, List.set_cons_zero, List.set_cons_succ]
      refine wpAnyH_take (i := 4) (oi := ⟨some 105, .fieldAddr 25 (.tmp 7) 1, _, _, _, _⟩) (v := ?vv280) rfl (by kernel_rfl) (by kernel_rfl) (by kernel_rfl) (fun _ _ _ h => h) (Or.inl ⟨by rfl, ?hy280⟩) HH.out ?rr280
      case hy280 => intro W hSw; go_simp; try with_reducible rfl
      try simp only [Act.put, List.setIfInBounds_toArray, List.set_cons_zero, List.set_cons_succ]
      refine wpAnyH_take (i := 5) (oi := ⟨some 106, .load 3 (.tmp 105), _, _, _, _⟩) (v := ?vv281) rfl (by kernel_rfl) (by kernel_rfl) (by kernel_rfl) (fun _ _ _ h => h) (Or.inl ⟨by rfl, ?hy281⟩) HH.out ?rr281
      case hy281 => intro W hSw; obtain ⟨y0, y1, y2, y3⟩ := HRC.out W hSw; go_simp; try with_reducible rfl
      try simp only [Act.put, List.setIfInBounds_toArray, List.set_cons_zero, List.set_cons_succ]
      refine wpAnyH_take (i := 6) (oi := ⟨some 107, .binOp .eql 3 (.tmp 106) (.const (.int .i64 0)) 3, _, _, _, _⟩) (v := ?vv282) rfl (by kernel_rfl) (by kernel_rfl) (by kernel_rfl) (fun _ _ _ h => h) (Or.inl ⟨by rfl, ?hy282⟩) HH.out ?rr282
      case hy282 => intro W hSw; go_simp; try with_reducible rfl
      try simp only [Act.put, List.setIfInBounds_toArray, List.set_cons_zero, List.set_cons_succ]
      refine wpAnyH_take (i := 7) (oi := ⟨some 108, .pick (.tmp 104) (.tmp 107) (.const (.bool false)), _, _, _, _⟩) (v := ?vv283) rfl (by kernel_rfl) (by kernel_rfl) (by kernel_rfl) (fun _ _ _ h => h) (Or.inl ⟨by rfl, ?hy283⟩) HH.out ?rr283
      case hy283 => intro W hSw; go_simp; try with_reducible rfl
      try simp only [Act.put, List.setIfInBounds_toArray, List.set_cons_zero, List.set_cons_succ]
      refine wpAnyH_take (i := 8) (oi := ⟨some 109, .move (.tmp 108), _, _, _, _⟩) (v := ?vv284) rfl (by kernel_rfl) (by kernel_rfl) (by kernel_rfl) (fun _ _ _ h => h) (Or.inl ⟨by rfl, ?hy284⟩) HH.out ?rr284
      case hy284 => intro W hSw; go_simp; try with_reducible rfl
      try simp only [Act.put, List.setIfInBounds_toArray, List.set_cons_zero, List.set_cons_succ]
      refine wpAnyH_take (i := 9) (oi := ⟨some 110, .fieldAddr 25 (.tmp 7) 3, _, _, _, _⟩) (v := undef) rfl (by kernel_rfl) (by kernel_rfl) (by kernel_rfl) (fun _ _ _ h => h) (Or.inr ⟨by rfl, rfl⟩) HH.out ?_
      try simp only [Act.put, List.setIfInBounds_toArray, List.set_cons_zero, List.set_cons_succ]
      refine wpAnyH_take (i := 10) (oi := ⟨some 111, .load 23 (.tmp 110), _, _, _, _⟩) (v := undef) rfl (by kernel_rfl) (by kernel_rfl) (by kernel_rfl) (fun _ _ _ h => h) (Or.inr ⟨by rfl, rfl⟩) HH.out ?_
      try simp only [Act.put, List.setIfInBounds_toArray, List.set_cons_zero, List.set_cons_succ]
      refine wpAnyH_take (i := 11) (oi := ⟨some 112, .move (.tmp 0), _, _, _, _⟩) (v := undef) rfl (by kernel_rfl) (by kernel_rfl) (by kernel_rfl) (fun _ _ _ h => h) (Or.inr ⟨by rfl, rfl⟩) HH.out ?_
      try simp only [Act.put, List.setIfInBounds_toArray, List.set_cons_zero, List.set_cons_succ]
      refine wpAnyH_take (i := 12) (oi := ⟨some 113, .move (.tmp 1), _, _, _, _⟩) (v := undef) rfl (by kernel_rfl) (by kernel_rfl) (by kernel_rfl) (fun _ _ _ h => h) (Or.inr ⟨by rfl, rfl⟩) HH.out ?_
      try simp only [Act.put, List.setIfInBounds_toArray, List.set_cons_zero, List.set_cons_succ]
      refine wpAnyH_take (i := 13) (oi := ⟨some 114, .move (.tmp 2), _, _, _, _⟩) (v := undef) rfl (by kernel_rfl) (by kernel_rfl) (by kernel_rfl) (fun _ _ _ h => h) (Or.inr ⟨by rfl, rfl⟩) HH.out ?_
      try simp only [Act.put, List.setIfInBounds_toArray, List.set_cons_zero, List.set_cons_succ]
      refine wpAnyH_take (i := 14) (oi := ⟨some 115, .call { callee := .value (.func 20), args := #[.tmp 112, .tmp 113, .tmp 114], argTypes := #[22, 9, 3] }, _, _, _, _⟩) (v := undef) rfl (by kernel_rfl) (by kernel_rfl) (by kernel_rfl) (fun _ _ _ h => h) (Or.inr ⟨by rfl, rfl⟩) HH.out ?_
      try simp only [Act.put, List.setIfInBounds_toArray, List.set_cons_zero, List.set_cons_succ]
      refine wpAnyH_take (i := 15) (oi := ⟨some 116, .call { callee := .value (.func 22), args := #[.tmp 111, .tmp 115], argTypes := #[23, 23] }, _, _, _, _⟩) (v := undef) rfl (by kernel_rfl) (by kernel_rfl) (by kernel_rfl) (fun _ _ _ h => h) (Or.inr ⟨by rfl, rfl⟩) HH.out ?_
      try simp only [Act.put, List.setIfInBounds_toArray, List.set_cons_zero, List.set_cons_succ]
      refine wpAnyH_take (i := 16) (oi := ⟨some 117, .pick (.tmp 109) (.tmp 116) (.const (.bool false)), _, _, _, _⟩) (v := ?vv292) rfl (by kernel_rfl) (by kernel_rfl) (by kernel_rfl) (fun _ _ _ h => h) (Or.inl ⟨by rfl, ?hy292⟩) HH.out ?rr292
      case hy292 => intro W hSw; go_simp; try with_reducible rfl
      try simp only [Act.put, List.setIfInBounds_toArray, List.set_cons_zero, List.set_cons_succ]
      refine wpAnyH_take (i := 17) (oi := ⟨some 8, .assign (.tmp 117), _, _, _, _⟩) (v := ?vv293) rfl (by kernel_rfl) (by kernel_rfl) (by kernel_rfl) (fun _ _ _ h => h) (Or.inl ⟨by rfl, ?hy293⟩) HH.out ?rr293
      case hy293 => intro W hSw; go_simp; try with_reducible rfl
      try simp only [Act.put, List.setIfInBounds_toArray, List.set_cons_zero, List.set_cons_succ]
      refine wpAnyH_done (by kernel_rfl) ?_ _
      go_wp2_with fail
      go_ret
      refine ⟨?_, HK0.out.trans HH.out (fun _ _ hf => hf)⟩
      rw [HF.out]
      try rfl
  · have k4i : (kind == 4) = false := by rw [beq_eq_false_iff_ne]; exact k4
    have HF := Lib.hid (ho_not K1.out K2.out K3.out k4 : hoB lp u kind n zs = false)
    clear k4
    go_wp2_with fail
    refine wp_region_held_drew (S := (fun X => Pure' W0 X)) (by kernel_rfl) ((Keeps.refl _ W0).drew) (fun hHeld => ?_)
    have HH := Lib.hid hHeld
    clear hHeld
    refine wpAnyH_take (i := 0) (oi := ⟨some 101, .fieldAddr 25 (.tmp 7) 0, _, _, _, _⟩) (v := ?vv294) rfl (by kernel_rfl) (by kernel_rfl) (by kernel_rfl) (fun _ _ _ h => h) (Or.inl ⟨by rfl, ?hy294⟩) HH.out ?rr294
    case hy294 => intro W hSw; go_simp; try with_reducible rfl
    try simp only [Act.put, List.setIfInBounds_toArray, List.set_cons_zero, List.set_cons_succ]
    refine wpAnyH_take (i := 1) (oi := ⟨some 102, .load 3 (.tmp 101), _, _, _, _⟩) (v := ?vv295) rfl (by kernel_rfl) (by kernel_rfl) (by kernel_rfl) (fun _ _ _ h => h) (Or.inl ⟨by rfl, ?hy295⟩) HH.out ?rr295
    case hy295 => intro W hSw; obtain ⟨y0, y1, y2, y3⟩ := HRC.out W hSw; go_simp; try with_reducible rfl
    try simp only [Act.put, List.setIfInBounds_toArray, List.set_cons_zero, List.set_cons_succ]
    refine wpAnyH_take (i := 2) (oi := ⟨some 103, .binOp .eql 3 (.tmp 102) (.const (.int .i64 4)) 3, _, _, _, _⟩) (v := ?vv296) rfl (by kernel_rfl) (by kernel_rfl) (by kernel_rfl) (fun _ _ _ h => h) (Or.inl ⟨by rfl, ?hy296⟩) HH.out ?rr296
    case hy296 => intro W hSw; go_simp; try with_reducible rfl
    try simp only [Act.put, List.setIfInBounds_toArray, List.set_cons_zero, List.set_cons_succ]
    refine wpAnyH_take (i := 3) (oi := ⟨some 104, .move (.tmp 103), _, _, _, _⟩) (v := ?vv297) rfl (by kernel_rfl) (by kernel_rfl) (by kernel_rfl) (fun _ _ _ h => h) (Or.inl ⟨by rfl, ?hy297⟩) HH.out ?rr297
    case hy297 => intro W hSw; go_simp; try with_reducible rfl
    try simp only [Act.put, List.setIfInBounds_toArray, List.set_cons_zero, List.set_cons_succ]
    refine wpAnyH_take (i := 4) (oi := ⟨some 105, .fieldAddr 25 (.tmp 7) 1, _, _, _, _⟩) (v := undef) rfl (by kernel_rfl) (by kernel_rfl) (by kernel_rfl) (fun _ _ _ h => h) (Or.inr ⟨by rfl, rfl⟩) HH.out ?_
    try simp only [Act.put, List.setIfInBounds_toArray, List.set_cons_zero, List.set_cons_succ]
    refine wpAnyH_take (i := 5) (oi := ⟨some 106, .load 3 (.tmp 105), _, _, _, _⟩) (v := undef) rfl (by kernel_rfl) (by kernel_rfl) (by kernel_rfl) (fun _ _ _ h => h) (Or.inr ⟨by rfl, rfl⟩) HH.out ?_
    try simp only [Act.put, List.setIfInBounds_toArray, List.set_cons_zero, List.set_cons_succ]
    refine wpAnyH_take (i := 6) (oi := ⟨some 107, .binOp .eql 3 (.tmp 106) (.const (.int .i64 0)) 3, _, _, _, _⟩) (v := undef) rfl (by kernel_rfl) (by kernel_rfl) (by kernel_rfl) (fun _ _ _ h => h) (Or.inr ⟨by rfl, rfl⟩) HH.out ?_
    try simp only [Act.put, List.setIfInBounds_toArray, List.set_cons_zero, List.set_cons_succ]
    refine wpAnyH_take (i := 7) (oi := ⟨some 108, .pick (.tmp 104) (.tmp 107) (.const (.bool false)), _, _, _, _⟩) (v := ?vv301) rfl (by kernel_rfl) (by kernel_rfl) (by kernel_rfl) (fun _ _ _ h => h) (Or.inl ⟨by rfl, ?hy301⟩) HH.out ?rr301
    case hy301 => intro W hSw; go_simp; try with_reducible rfl
    try simp only [Act.put, List.setIfInBounds_toArray, List.set_cons_zero, List.set_cons_succ]
    refine wpAnyH_take (i := 8) (oi := ⟨some 109, .move (.tmp 108), _, _, _, _⟩) (v := ?vv302) rfl (by kernel_rfl) (by kernel_rfl) (by kernel_rfl) (fun _ _ _ h => h) (Or.inl ⟨by rfl, ?hy302⟩) HH.out ?rr302
    case hy302 => intro W hSw; go_simp; try with_reducible rfl
    try simp only [Act.put, List.setIfInBounds_toArray, List.set_cons_zero, List.set_cons_succ]
    refine wpAnyH_take (i := 9) (oi := ⟨some 110, .fieldAddr 25 (.tmp 7) 3, _, _, _, _⟩) (v := undef) rfl (by kernel_rfl) (by kernel_rfl) (by kernel_rfl) (fun _ _ _ h => h) (Or.inr ⟨by rfl, rfl⟩) HH.out ?_
    try simp only [Act.put, List.setIfInBounds_toArray, List.set_cons_zero, List.set_cons_succ]
    refine wpAnyH_take (i := 10) (oi := ⟨some 111, .load 23 (.tmp 110), _, _, _, _⟩) (v := undef) rfl (by kernel_rfl) (by kernel_rfl) (by kernel_rfl) (fun _ _ _ h => h) (Or.inr ⟨by rfl, rfl⟩) HH.out ?_
    try simp only [Act.put, List.setIfInBounds_toArray, List.set_cons_zero, List.set_cons_succ]
    refine wpAnyH_take (i := 11) (oi := ⟨some 112, .move (.tmp 0), _, _, _, _⟩) (v := undef) rfl (by kernel_rfl) (by kernel_rfl) (by kernel_rfl) (fun _ _ _ h => h) (Or.inr ⟨by rfl, rfl⟩) HH.out ?_
    try simp only [Act.put, List.setIfInBounds_toArray, List.set_cons_zero, List.set_cons_succ]
    refine wpAnyH_take (i := 12) (oi := ⟨some 113, .move (.tmp 1), _, _, _, _⟩) (v := undef) rfl (by kernel_rfl) (by kernel_rfl) (by kernel_rfl) (fun _ _ _ h => h) (Or.inr ⟨by rfl, rfl⟩) HH.out ?_
    try simp only [Act.put, List.setIfInBounds_toArray, List.set_cons_zero, List.set_cons_succ]
    refine wpAnyH_take (i := 13) (oi := ⟨some 114, .move (.tmp 2), _, _, _, _⟩) (v := undef) rfl (by kernel_rfl) (by kernel_rfl) (by kernel_rfl) (fun _ _ _ h => h) (Or.inr ⟨by rfl, rfl⟩) HH.out ?_
    try simp only [Act.put, List.setIfInBounds_toArray, List.set_cons_zero, List.set_cons_succ]
    refine wpAnyH_take (i := 14) (oi := ⟨some 115, .call { callee := .value (.func 20), args := #[.tmp 112, .tmp 113, .tmp 114], argTypes := #[22, 9, 3] }, _, _, _, _⟩) (v := undef) rfl (by kernel_rfl) (by kernel_rfl) (by kernel_rfl) (fun _ _ _ h => h) (Or.inr ⟨by rfl, rfl⟩) HH.out ?_
    try simp only [Act.put, List.setIfInBounds_toArray, List.set_cons_zero, List.set_cons_succ]
    refine wpAnyH_take (i := 15) (oi := ⟨some 116, .call { callee := .value (.func 22), args := #[.tmp 111, .tmp 115], argTypes := #[23, 23] }, _, _, _, _⟩) (v := undef) rfl (by kernel_rfl) (by kernel_rfl) (by kernel_rfl) (fun _ _ _ h => h) (Or.inr ⟨by rfl, rfl⟩) HH.out ?_
    try simp only [Act.put, List.setIfInBounds_toArray, List.set_cons_zero, List.set_cons_succ]
    refine wpAnyH_take (i := 16) (oi := ⟨some 117, .pick (.tmp 109) (.tmp 116) (.const (.bool false)), _, _, _, _⟩) (v := ?vv310) rfl (by kernel_rfl) (by kernel_rfl) (by kernel_rfl) (fun _ _ _ h => h) (Or.inl ⟨by rfl, ?hy310⟩) HH.out ?rr310
    case hy310 => intro W hSw; go_simp; try with_reducible rfl
    try simp only [Act.put, List.setIfInBounds_toArray, List.set_cons_zero, List.set_cons_succ]
    refine wpAnyH_take (i := 17) (oi := ⟨some 8, .assign (.tmp 117), _, _, _, _⟩) (v := ?vv311) rfl (by kernel_rfl) (by kernel_rfl) (by kernel_rfl) (fun _ _ _ h => h) (Or.inl ⟨by rfl, ?hy311⟩) HH.out ?rr311
    case hy311 => intro W hSw; go_simp; try with_reducible rfl
    try simp only [Act.put, List.setIfInBounds_toArray, List.set_cons_zero, List.set_cons_succ]
    refine wpAnyH_done (by kernel_rfl) ?_ _
    go_wp2_with fail
    go_ret
    refine ⟨?_, HK0.out.trans HH.out (fun _ _ hf => hf)⟩
    rw [HF.out]
    try rfl
end Go.Proofs.YtkbdfnmeomkpjaaGreat
