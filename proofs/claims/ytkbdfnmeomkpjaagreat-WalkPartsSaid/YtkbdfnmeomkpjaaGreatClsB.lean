/- With which bytes a trie's state goes on; a byte's class; no condition but the sizes. -/
import Derived.Test.YtkbdfnmeomkpjaaGreatWbT
namespace Go.Proofs.YtkbdfnmeomkpjaaGreat
open Go.RowKit
set_option linter.unusedVariables false
set_option linter.unusedSimpArgs false
set_option maxRecDepth 100000

theorem TI.keep {w w' : World} {g b cap : Nat} {l : List (List UInt8)} {S : List TSt} {K : Nat → Prop} (h : TI w g b cap l S) (hk : Keeps K w w') (hg : ¬ K g) (hb : ¬ K b) : TI w' g b cap l S := ⟨h.tr.keep hk hg hb, h.ok, h.srt, h.few, h.ne⟩
theorem TI.gl {w : World} {g b cap : Nat} {l : List (List UInt8)} {S : List TSt} (h : TI w g b cap l S) : g < w.heap.size ∧ b < w.heap.size := ⟨h.tr.box.lt, h.tr.row.lt b rfl⟩
/-- The bytes of a state's children. -/
def kids (S : List TSt) (F M : Nat) : List UInt8 := (List.range M).map fun j => (S.getD (F + j) tst0).by_
theorem kids_len (S : List TSt) (F M : Nat) : (kids S F M).length = M := by simp [kids]
theorem kids_succ {S : List TSt} {F M : Nat} {s : TSt} (h : S[F + M]? = some s) : kids S F (M + 1) = kids S F M ++ [s.by_] := by
  unfold kids
  rw [List.range_succ, List.map_append]
  simp [List.getD_eq_getElem?_getD, h]
def BytesPost (l : List (List UInt8)) (p : List UInt8) (w : World) (e : Ending) (w' : World) : Prop :=
  ∃ bs : List UInt8, e = .returned (.string ⟨bs.toArray⟩) ∧ (∀ c, c ∈ bs ↔ p ++ [c] ∈ statesL l) ∧ bs.Nodup ∧ bs.length ≤ 241 ∧ Pure' w w'
theorem kids_ok {w : World} {g b cap : Nat} {l : List (List UInt8)} {S : List TSt} (h : TI w g b cap l S) {t : Nat} {p : List UInt8} {s : TSt} (hp : (statesL l)[t]? = some p) (hs : S[t]? = some s) :
    (∀ c, c ∈ kids S s.first s.many ↔ p ++ [c] ∈ statesL l) ∧ (kids S s.first s.many).Nodup ∧ s.first + s.many ≤ S.length := by
  obtain ⟨h1, h2, h3⟩ := h.ok.span t p s hp hs
  rw [← h.ok.len] at h1
  have hat : ∀ j, j < s.many → ∃ s', S[s.first + j]? = some s' ∧ (statesL l)[s.first + j]? = some (p ++ [s'.by_]) := fun j hj => by
    have hm := List.getElem?_eq_getElem (l := S) (i := s.first + j) (by omega)
    exact ⟨_, hm, h2 _ _ (by omega) (by omega) hm⟩
  refine ⟨fun c => ⟨fun hc => ?_, fun hc => ?_⟩, ?_, h1⟩
  · unfold kids at hc
    obtain ⟨j, hj, rfl⟩ := List.mem_map.1 hc
    obtain ⟨s', e1, e2⟩ := hat j (List.mem_range.1 hj)
    rw [List.getD_eq_getElem?_getD, e1]
    exact List.mem_of_getElem? e2
  · obtain ⟨m, m1, m2, m3⟩ := h3 c hc
    obtain ⟨s', e1, e2⟩ := hat (m - s.first) (by omega)
    rw [show s.first + (m - s.first) = m by omega] at e1 e2
    rw [m3] at e2
    have e3 : c = s'.by_ := by have := List.append_cancel_left (Option.some.inj e2); simpa using this
    refine List.mem_map.2 ⟨m - s.first, List.mem_range.2 (by omega), ?_⟩
    rw [show s.first + (m - s.first) = m by omega, List.getD_eq_getElem?_getD, e1, e3]
    rfl
  · unfold kids
    rw [List.nodup_iff_pairwise_ne, List.pairwise_map]
    refine List.pairwise_lt_range.imp_of_mem fun {i j} hi hj hij e => ?_
    obtain ⟨s1, a1, a2⟩ := hat i (List.mem_range.1 hi)
    obtain ⟨s2, b1, b2⟩ := hat j (List.mem_range.1 hj)
    rw [List.getD_eq_getElem?_getD, List.getD_eq_getElem?_getD, a1, b1] at e
    have e2 : s1.by_ = s2.by_ := e
    rw [← e2] at b2
    have h5 := h.sts.idx a2
    rw [h.sts.idx b2] at h5
    omega

set_option maxHeartbeats 2000000 in
theorem tbytes_ (g b cap : Nat) (l : List (List UInt8)) (S : List TSt) (t : Nat) (p : List UInt8) (w : World) (h : TI w g b cap l S) (hp : (statesL l)[t]? = some p) :
    Calls Tryz.prog 129 #[.pointer (some ⟨g, 0, none⟩), .int .i64 (t : Int)] w fun e w' => BytesPost l p w e w' := by
  obtain ⟨s, hs, htl⟩ := h.st hp
  have HOK := Lib.hid (kids_ok h hp hs)
  have HI := Lib.hid (tis_ _ S (t : Int) w h.any)
  rw [isB_in htl] at HI
  have hf := h.few
  have HTI := Lib.hid h
  obtain ⟨F, hF⟩ : ∃ F, s.first = F := ⟨_, rfl⟩
  obtain ⟨M, hM⟩ : ∃ M, s.many = M := ⟨_, rfl⟩
  rw [hF, hM] at HOK
  have hbl := HOK.out.2.2
  obtain ⟨n, hn⟩ : ∃ n, S.length = n := ⟨_, rfl⟩
  rw [hn] at hf htl hbl
  have HN := Lib.hid hn
  have HD4 := Lib.hid (fun (W : World) (hW : TI W g b cap l S) => show W.cell? ⟨b, t * 6 + 4, none⟩ = some (.int .i64 (F : Int)) by rw [hW.tr.cell hs 4 (by decide), ← hF]; rfl)
  have HD5 := Lib.hid (fun (W : World) (hW : TI W g b cap l S) => show W.cell? ⟨b, t * 6 + 5, none⟩ = some (.int .i64 (M : Int)) by rw [hW.tr.cell hs 5 (by decide), ← hM]; rfl)
  have HC0 := Lib.hid (fun (W : World) (hW : TI W g b cap l S) => show W.cell? ⟨g, 0, none⟩ = some (.slice (some ⟨b, 0, none⟩) n cap) by rw [hW.tr.box.cell, hn]; rfl)
  have hgl := h.gl
  obtain ⟨H, hH⟩ : ∃ H, w.heap.size = H := ⟨_, rfl⟩
  have HH0 := Lib.hid hH
  have hT0 := Lib.hid (h.pure ((Keeps.refl (fun _ => False) w).alloc (.cells #[.pointer none, .slice none 0 0] 211)))
  have HMB := Lib.hid (show MyB (w.alloc (.cells #[.pointer none, .slice none 0 0] 211)) (H + 1) H [] from .inl ⟨.slice none 0 0, Blk.newAt hH.symm, World.ownsRow_nil _ _ _ _, by simp [Value.ownBlock]⟩)
  rw [hH] at hgl
  have hgl1 := hgl.1
  have hgl2 := hgl.2
  clear h hp hs hF hM hn hgl hH
  go_enter Tryz.func129, Tryz.ntmps129
  go_wp2_with fail
  refine HI.out.mono ?_
  rintro e w1 ⟨rfl, rfl⟩
  have HK0 := Lib.hid ((Keeps.refl (fun x => x = H ∨ H + 1 ≤ x) w1).alloc (.cells #[.pointer none, .slice none 0 0] 211))
  have hz0 : (w1.alloc (.cells #[.pointer none, .slice none 0 0] 211)).heap.size = H + 1 := by show (w1.heap.push _).size = H + 1; rw [Array.size_push, HH0.out]
  have HZ0 := Lib.hid hz0
  clear hz0
  go_upto_region 4 with fail
  rw [HH0.out]
  generalize w1.alloc (.cells #[.pointer none, .slice none 0 0] 211) = W0 at *
  have c0 := HC0.out _ hT0.out
  have d5 := HD5.out _ hT0.out
  go_wp2
  clear c0 d5
  go_loopg [6, 19] M (fun gh v6 v19 wr => ∃ j : Nat, j + gh = M ∧ v19 = .int .i64 (j : Int) ∧ RowKit.Hid (MyB wr (H + 1) H (kids S F j)) ∧ RowKit.Hid (Keeps (fun x => x = H ∨ H + 1 ≤ x) w1 wr) ∧ H + 1 ≤ wr.heap.size)
  case atStart => exact ⟨0, by omega, rfl, HMB, HK0, by rw [HZ0.out]; exact Nat.le_refl _⟩
  case round =>
    obtain ⟨j, hjg, rfl, HB, HK, hsz⟩ := hrel
    have HTW := Lib.hid (HTI.out.keep HK.out (by omega) (by omega))
    cases gk with
    | zero =>
      obtain rfl : j = M := by omega
      go_wp2_with fail
      refine (Tryz.Builder_String_any H H (kids S F j) wr (HB.out.is (Nat.le_succ H) (Nat.le_refl H)) (by omega)).mono ?_
      rintro e w2 ⟨rfl, hbel⟩
      have HK2 := Lib.hid (show Pure' w1 w2 from (HK.out.trans (Keeps.of_below' hbel) (fun b hb h => by have h : H ≤ b := h; show b = H ∨ H + 1 ≤ b; omega)).mono (fun b hb h => by have h : b = H ∨ H + 1 ≤ b := h; have h2 : w1.heap.size = H := HH0.out; omega))
      clear hbel
      go_wp2
      go_ret
      refine ⟨kids S F j, rfl, HOK.out.1, HOK.out.2.1, by rw [kids_len]; omega, HK2.out⟩
    | succ g3 =>
      have hji : (j : Int) < (M : Int) := by omega
      obtain ⟨s', hs'⟩ : ∃ s', S[F + j]? = some s' := ⟨_, List.getElem?_eq_getElem (by rw [HN.out]; omega)⟩
      have HKS := Lib.hid (kids_succ hs')
      have HD1 := Lib.hid (fun (W : World) (hW : TI W g b cap l S) => show W.cell? ⟨b, (F + j) * 6 + 1, none⟩ = some (.int .u8 (s'.by_.toNat : Int)) by rw [hW.tr.cell hs' 1 (by decide)]; rfl)
      have HST := Lib.hid (fun (W : World) (hW : Keeps (fun x => x = H ∨ H + 1 ≤ x) wr W) => HTW.out.keep hW (by omega) (by omega))
      have hkl := kids_len S F j
      have HWB := Lib.hid (fun (W : World) (hW : MyB W (H + 1) H (kids S F j)) (hs2 : H + 1 ≤ W.heap.size) => wb_ (H + 1) H (kids S F j) s'.by_ W hW (by omega) hs2)
      clear hs' hkl
      go_upto_region 7 with fail
      have hwr : IntKind.i64.wrap ((F : Int) + (j : Int)) = (F : Int) + (j : Int) := by rw [IntKind.wrap_i64]; omega
      have h0F : (0 : Int) ≤ (F : Int) + (j : Int) := by omega
      have hFn : (F : Int) + (j : Int) < (n : Int) := by omega
      have hFt : ((F : Int) + (j : Int)).toNat = F + j := by omega
      refine wp_region_held_drew (S := (fun W => Keeps (fun x => x = H ∨ H + 1 ≤ x) wr W)) (by kernel_rfl) ((Keeps.refl _ wr).drew) (fun hHeld => ?_)
      have HH := Lib.hid hHeld
      clear hHeld
      refine wpAnyH_take (i := 0) (oi := ⟨some 22, .move (.tmp 0), _, _, _, _⟩) (v := ?vv1) rfl (by kernel_rfl) (by kernel_rfl) (by kernel_rfl) (fun _ _ _ h => h) (Or.inl ⟨by rfl, ?hy1⟩) HH.out ?rr1
      case hy1 => intro W hSw; go_simp; try with_reducible rfl
      try simp only [Act.put, List.setIfInBounds_toArray, List.set_cons_zero, List.set_cons_succ]
      refine wpAnyH_take (i := 1) (oi := ⟨some 23, .nilCheck (.tmp 22), _, _, _, _⟩) (v := ?vv2) rfl (by kernel_rfl) (by kernel_rfl) (by kernel_rfl) (fun _ _ _ h => h) (Or.inl ⟨by rfl, ?hy2⟩) HH.out ?rr2
      case hy2 => intro W hSw; go_simp; try with_reducible rfl
      try simp only [Act.put, List.setIfInBounds_toArray, List.set_cons_zero, List.set_cons_succ]
      refine wpAnyH_take (i := 2) (oi := ⟨some 24, .fieldAddr 186 (.tmp 23) 0, _, _, _, _⟩) (v := ?vv3) rfl (by kernel_rfl) (by kernel_rfl) (by kernel_rfl) (fun _ _ _ h => h) (Or.inl ⟨by rfl, ?hy3⟩) HH.out ?rr3
      case hy3 => intro W hSw; go_simp; try with_reducible rfl
      try simp only [Act.put, List.setIfInBounds_toArray, List.set_cons_zero, List.set_cons_succ]
      refine wpAnyH_take (i := 3) (oi := ⟨some 25, .load 184 (.tmp 24), _, _, _, _⟩) (v := ?vv4) rfl (by kernel_rfl) (by kernel_rfl) (by kernel_rfl) (fun _ _ _ h => h) (Or.inl ⟨by rfl, ?hy4⟩) HH.out ?rr4
      case hy4 => intro W hSw; have y := HC0.out W (HST.out W hSw); go_simp; try with_reducible rfl
      try simp only [Act.put, List.setIfInBounds_toArray, List.set_cons_zero, List.set_cons_succ]
      refine wpAnyH_take (i := 4) (oi := ⟨some 26, .move (.tmp 0), _, _, _, _⟩) (v := ?vv5) rfl (by kernel_rfl) (by kernel_rfl) (by kernel_rfl) (fun _ _ _ h => h) (Or.inl ⟨by rfl, ?hy5⟩) HH.out ?rr5
      case hy5 => intro W hSw; go_simp; try with_reducible rfl
      try simp only [Act.put, List.setIfInBounds_toArray, List.set_cons_zero, List.set_cons_succ]
      refine wpAnyH_take (i := 5) (oi := ⟨some 27, .nilCheck (.tmp 26), _, _, _, _⟩) (v := ?vv6) rfl (by kernel_rfl) (by kernel_rfl) (by kernel_rfl) (fun _ _ _ h => h) (Or.inl ⟨by rfl, ?hy6⟩) HH.out ?rr6
      case hy6 => intro W hSw; go_simp; try with_reducible rfl
      try simp only [Act.put, List.setIfInBounds_toArray, List.set_cons_zero, List.set_cons_succ]
      refine wpAnyH_take (i := 6) (oi := ⟨some 28, .fieldAddr 186 (.tmp 27) 0, _, _, _, _⟩) (v := ?vv7) rfl (by kernel_rfl) (by kernel_rfl) (by kernel_rfl) (fun _ _ _ h => h) (Or.inl ⟨by rfl, ?hy7⟩) HH.out ?rr7
      case hy7 => intro W hSw; go_simp; try with_reducible rfl
      try simp only [Act.put, List.setIfInBounds_toArray, List.set_cons_zero, List.set_cons_succ]
      refine wpAnyH_take (i := 7) (oi := ⟨some 29, .load 184 (.tmp 28), _, _, _, _⟩) (v := ?vv8) rfl (by kernel_rfl) (by kernel_rfl) (by kernel_rfl) (fun _ _ _ h => h) (Or.inl ⟨by rfl, ?hy8⟩) HH.out ?rr8
      case hy8 => intro W hSw; have y := HC0.out W (HST.out W hSw); go_simp; try with_reducible rfl
      try simp only [Act.put, List.setIfInBounds_toArray, List.set_cons_zero, List.set_cons_succ]
      refine wpAnyH_take (i := 8) (oi := ⟨some 30, .move (.tmp 1), _, _, _, _⟩) (v := ?vv9) rfl (by kernel_rfl) (by kernel_rfl) (by kernel_rfl) (fun _ _ _ h => h) (Or.inl ⟨by rfl, ?hy9⟩) HH.out ?rr9
      case hy9 => intro W hSw; go_simp; try with_reducible rfl
      try simp only [Act.put, List.setIfInBounds_toArray, List.set_cons_zero, List.set_cons_succ]
      refine wpAnyH_take (i := 9) (oi := ⟨some 31, .indexAddr 184 (.tmp 29) (.tmp 30), _, _, _, _⟩) (v := ?vv10) rfl (by kernel_rfl) (by kernel_rfl) (by kernel_rfl) (fun _ _ _ h => h) (Or.inl ⟨by rfl, ?hy10⟩) HH.out ?rr10
      case hy10 => intro W hSw; go_simp; try with_reducible rfl
      try simp only [Act.put, List.setIfInBounds_toArray, List.set_cons_zero, List.set_cons_succ]
      refine wpAnyH_take (i := 10) (oi := ⟨some 32, .fieldAddr 183 (.tmp 31) 4, _, _, _, _⟩) (v := ?vv11) rfl (by kernel_rfl) (by kernel_rfl) (by kernel_rfl) (fun _ _ _ h => h) (Or.inl ⟨by rfl, ?hy11⟩) HH.out ?rr11
      case hy11 => intro W hSw; go_simp; try with_reducible rfl
      try simp only [Act.put, List.setIfInBounds_toArray, List.set_cons_zero, List.set_cons_succ]
      refine wpAnyH_take (i := 11) (oi := ⟨some 33, .load 3 (.tmp 32), _, _, _, _⟩) (v := ?vv12) rfl (by kernel_rfl) (by kernel_rfl) (by kernel_rfl) (fun _ _ _ h => h) (Or.inl ⟨by rfl, ?hy12⟩) HH.out ?rr12
      case hy12 => intro W hSw; have y := HD4.out W (HST.out W hSw); go_simp; try with_reducible rfl
      try simp only [Act.put, List.setIfInBounds_toArray, List.set_cons_zero, List.set_cons_succ]
      refine wpAnyH_take (i := 12) (oi := ⟨some 34, .move (.tmp 6), _, _, _, _⟩) (v := ?vv13) rfl (by kernel_rfl) (by kernel_rfl) (by kernel_rfl) (fun _ _ _ h => h) (Or.inl ⟨by rfl, ?hy13⟩) HH.out ?rr13
      case hy13 => intro W hSw; go_simp; try with_reducible rfl
      try simp only [Act.put, List.setIfInBounds_toArray, List.set_cons_zero, List.set_cons_succ]
      refine wpAnyH_take (i := 13) (oi := ⟨some 35, .binOp .add 3 (.tmp 33) (.tmp 34) 3, _, _, _, _⟩) (v := ?vv14) rfl (by kernel_rfl) (by kernel_rfl) (by kernel_rfl) (fun _ _ _ h => h) (Or.inl ⟨by rfl, ?hy14⟩) HH.out ?rr14
      case hy14 => intro W hSw; go_simp; try with_reducible rfl
      try simp only [Act.put, List.setIfInBounds_toArray, List.set_cons_zero, List.set_cons_succ]
      refine wpAnyH_take (i := 14) (oi := ⟨some 36, .indexAddr 184 (.tmp 25) (.tmp 35), _, _, _, _⟩) (v := ?vv15) rfl (by kernel_rfl) (by kernel_rfl) (by kernel_rfl) (fun _ _ _ h => h) (Or.inl ⟨by rfl, ?hy15⟩) HH.out ?rr15
      case hy15 => intro W hSw; go_simp; try with_reducible rfl
      try simp only [Act.put, List.setIfInBounds_toArray, List.set_cons_zero, List.set_cons_succ]
      refine wpAnyH_take (i := 15) (oi := ⟨some 37, .fieldAddr 183 (.tmp 36) 1, _, _, _, _⟩) (v := ?vv16) rfl (by kernel_rfl) (by kernel_rfl) (by kernel_rfl) (fun _ _ _ h => h) (Or.inl ⟨by rfl, ?hy16⟩) HH.out ?rr16
      case hy16 => intro W hSw; go_simp; try with_reducible rfl
      try simp only [Act.put, List.setIfInBounds_toArray, List.set_cons_zero, List.set_cons_succ]
      refine wpAnyH_take (i := 16) (oi := ⟨some 38, .load 5 (.tmp 37), _, _, _, _⟩) (v := ?vv17) rfl (by kernel_rfl) (by kernel_rfl) (by kernel_rfl) (fun _ _ _ h => h) (Or.inl ⟨by rfl, ?hy17⟩) HH.out ?rr17
      case hy17 => intro W hSw; have y := HD1.out W (HST.out W hSw); go_simp; try with_reducible rfl
      try simp only [Act.put, List.setIfInBounds_toArray, List.set_cons_zero, List.set_cons_succ]
      refine wpAnyH_ready (rs := [17]) (by kernel_rfl) (by simp) ?_
      refine AllReadyH.cons (o := ⟨some 39, .call { callee := .value (.func 158), args := #[.tmp 5, .tmp 38], argTypes := #[211, 5] }, _, _, _, _⟩) rfl (fun K hK => ?_) AllReadyH.nil
      go_simp
      go_at_call 158
      refine (HWB.out _ (HB.out.keep ((Keeps.refl (fun _ => False) wr).drew) (fun h => h) (fun _ _ h => h)) hsz).mono ?_
      rintro e wB ⟨rfl, hmb, hk8⟩
      have HB8 := Lib.hid hmb
      have HK8 := Lib.hid hk8
      clear hmb hk8
      go_wp2_with fail
      refine hK.out _ _ (HH.out.trans HK8.out (fun _ _ hx => hx)) (fun hHeld => ?_)
      have HH := Lib.hid hHeld
      clear hHeld hK K
      try simp only [Act.put, List.setIfInBounds_toArray, List.set_cons_zero, List.set_cons_succ]
      refine wpAnyH_done (by kernel_rfl) ?_ _
      have HB9 := Lib.hid (show MyB wB (H + 1) H (kids S F (j + 1)) by rw [HKS.out]; exact HB8.out)
      have HK9 := Lib.hid (HK.out.trans HH.out (fun _ _ hx => hx))
      have hz9 : wr.heap.size ≤ wB.heap.size := HK8.out.size
      go_wp2
      go_roundg g3
      case measure => omega
      case rel => exact ⟨j + 1, by omega, by go_num, HB9, HK9, by omega⟩

/-! ### Classes read -/
theorem cf_le (bs : List UInt8) (c : UInt8) : cf bs c ≤ bs.length := by
  unfold cf
  split
  · exact List.idxOf_lt_length_of_mem ‹_›
  · exact Nat.zero_le _

set_option maxHeartbeats 1000000 in
theorem cof_ (g : Nat) (bs : List UInt8) (c : UInt8) (w : World) (h : ClA w g bs) :
    Calls Tryz.prog 131 #[.pointer (some ⟨g, 0, none⟩), .int .u8 (c.toNat : Int)] w fun e w' => e = .returned (.int .i64 ((cf bs c : Nat) : Int)) ∧ w' = w := by
  obtain ⟨A, cp, hb, _⟩ := h.box
  have x1 := hb.cell c.toNat
  rw [clsC_at] at x1
  have hcl := c.toNat_lt
  have hcl2 : (c.toNat : Int) < 256 := by omega
  have hcf := cf_le bs c
  have hfw := h.few
  generalize cf bs c = q at *
  clear h hb
  go_enter Tryz.func131, Tryz.ntmps131
  go_wp2
  go_ret
  exact ⟨rfl, rfl⟩
set_option maxHeartbeats 1000000 in
theorem clen_ (g : Nat) (bs : List UInt8) (w : World) (h : ClA w g bs) :
    Calls Tryz.prog 126 #[.pointer (some ⟨g, 0, none⟩)] w fun e w' => e = .returned (.int .i64 ((bs.length : Int) + 1)) ∧ w' = w := by
  obtain ⟨A, cp, hb, _⟩ := h.box
  have x1 := hb.cell 256
  rw [clsC_last] at x1
  have hf := h.few
  clear h hb
  generalize bs.length = n at *
  go_enter Tryz.func126, Tryz.ntmps126
  go_wp2
  go_ret
  exact ⟨rfl, rfl⟩

end Go.Proofs.YtkbdfnmeomkpjaaGreat
