/- The record with which bytes begin, by the program; no condition but the sizes. -/
import Derived.Test.YtdapjfnpnmejnaaSpD
import Derived.Test.YtdapjfnpnmejnaaGBx2
namespace Go.Proofs.Ytdapjfnpnmejnaa
open Go.RowKit Go.Proofs.YtdapjfnpnmejnaaW.PrintWords Go.Proofs.Ytdapjfnpnmejnaa.GB
set_option linter.unusedVariables false
set_option linter.unusedSimpArgs false
set_option maxRecDepth 100000

def recTup (r : Res Rec) : Int × Int × Int × List Int × Int × Int := match r with
  | .ok (r, z) => (r.kind, r.n, r.r, r.ids, z, 0)
  | .error e => (0, 0, 0, [], 0, e)
/-- What comes of a reading. -/
def RTakePost (p : Int × Int × Int × List Int × Int × Int) (w : World) (e : Ending) (w' : World) : Prop :=
  ∃ v : Value, e = .returned (.tuple #[.agg #[.int .i64 p.1, .int .i64 p.2.1, .int .i64 p.2.2.1, v], .int .i64 p.2.2.2.2.1, .int .i64 p.2.2.2.2.2]) ∧ Kd.R (Kd.int .i64) 3 w' w.heap.size (fun _ => True) v p.2.2.2.1 ∧ Below w.heap.size w w'
set_option maxHeartbeats 1000000 in
theorem rectake_form (s : ByteArray) (c : Int) (w : World) (hs : s.size ≤ 1000000) (h0 : 0 < s.size) (hx : ∀ h : 0 < s.size, ((s[0]'h).toNat : Int) = c) (hne : (s.toList == []) = false) (hw : wrap64 c = c) (hc : c < 1 ∨ 6 < c) : Calls Try.prog 151 #[.string s] w fun e w' => RTakePost (0, 0, 0, [], 0, 3) w e w' := by
  have t1 : (decide (c < 1) || decide (6 < c)) = true := by simpa using hc
  clear hc
  go_enter Try.func151, Try.ntmps151
  go_wp2
  all_goals
    have hb1 := (Blk.new w 33 #[.int .i64 c, .int .i64 0, .int .i64 0, .slice none 0 0]).alloc (.cells #[.string s, .int .i64 1, .int .i64 3] 200)
    have hb2 := Blk.new (w.alloc (.cells #[.int .i64 c, .int .i64 0, .int .i64 0, .slice none 0 0] 33)) 200 #[.string s, .int .i64 1, .int .i64 3]
    have hk := ((Keeps.refl (fun _ => False) w).alloc (.cells #[.int .i64 c, .int .i64 0, .int .i64 0, .slice none 0 0] 33)).alloc (.cells #[.string s, .int .i64 1, .int .i64 3] 200)
    rw [alloc_size] at hb2
    generalize ((w.alloc (.cells #[.int .i64 c, .int .i64 0, .int .i64 0, .slice none 0 0] 33)).alloc (.cells #[.string s, .int .i64 1, .int .i64 3] 200)) = W at *
    have HK := Lib.hid hk
    have HB := Lib.hid hb1
    have f0 := hb1.frozen 0
    have f1 := hb1.frozen 1
    have f2 := hb1.frozen 2
    have f3 := hb1.frozen 3
    have c2 := hb2.cell 2
    have c4 := hb1.cell 0
    have c5 := hb1.cell 1
    have c6 := hb1.cell 2
    have c7 := hb1.cell 3
    clear hk hb1 hb2
    go_region
    go_wp2
    refine bodyPost_ret (v := .tuple #[.agg #[.int .i64 0, .int .i64 0, .int .i64 0, .slice none 0 0], .int .i64 0, .int .i64 3]) (by simp [results, Try.results151, go_sem, c4, c5, c6, c7]) rfl ⟨_, rfl, Kd.R_nil _ _ _ _ _, ?_⟩
    refine Keeps.pure ?_
    repeat (with_reducible first | exact HK.out | refine Keeps.drewN ?_ _ | refine Keeps.drew ?_ | refine Keeps.setCell ?_ (.inr (Nat.le_refl _)) _)

theorem R_keeps {α : Type} {d : Kd α} {e : Nat} {w w1 : World} {base : Nat} {ok : Nat → Prop} {v : Value} {xs : List α} (h : d.R e w base ok v xs) {b t : Nat} {cells : Array Value} (hb : w.heap[b]? = some (.cells cells t (0, 0))) (ht : ∀ q, q ∈ e :: d.E → q ≠ t) (hk : Keeps (fun x => x = b) w w1) : d.R e w1 base ok v xs :=
  Kd.R_mono (Kd.R_step (Kd.R_types h hb ht) (fun k h2 hlt => hk.block k hlt h2.2)) (fun _ h => h.1)
theorem Keeps.of_but {w w1 : World} {g : Nat} (h : Below g w w1) : Keeps (fun x => g ≤ x) w w1 := ⟨h.os, h.tape, h.output, h.size, fun k hk hn => h.block k (by simp only [Nat.not_le] at hn; exact hn)⟩
theorem blk_but {w w1 : World} {g b : Nat} {t : TypeId} {cs : Array Value} (h : KeepBut w w1 g none) (hb : Blk w b t cs) (hne : b ≠ g) : Blk w1 b t cs := (h.2 b hb.lt hne (by simp)).trans hb
theorem bel_set {B : Nat} {w w1 : World} (h : Below B w w1) {b : Nat} (hb : B ≤ b) (i : Nat) (u : Value) : Below B w (w1.setCell ⟨b, i, none⟩ u) := h.setCell (p := ⟨b, i, none⟩) hb u

theorem below_keeps {w w1 : World} (h : Keeps (fun x => w.heap.size ≤ x) w w1) : Below w.heap.size w w1 := h.below (fun b hb => ⟨hb, by simp only [Nat.not_le]; exact hb⟩)
set_option maxHeartbeats 2000000 in
theorem rectake_list (s : ByteArray) (l : List Int) (a e0 : Int) (k : Nat) (w : World) (hs : s.size ≤ 1000000) (h0 : 0 < s.size) (hx : ∀ h : 0 < s.size, ((s[0]'h).toNat : Int) = 4) (hne : (s.toList == []) = false) (hl : record_taker_list.f k s 1 0 = some (l, s, a, e0)) :
    Calls Try.prog 151 #[.string s] w fun e w' => RTakePost (if e0 = 0 then (4, 0, 0, l, a, 0) else (0, 0, 0, [], 0, e0)) w e w' := by
  have HL := Lib.hid hl
  clear hl
  have hbel := (((Keeps.refl (fun _ => False) w).alloc (.cells #[.int .i64 4, .int .i64 0, .int .i64 0, .slice none 0 0] 33))).pure
  have hI := IsS200.new w (w.alloc (.cells #[.int .i64 4, .int .i64 0, .int .i64 0, .slice none 0 0] 33)) s 1 0 hbel
  have hb1 := (Blk.new w 33 #[.int .i64 4, .int .i64 0, .int .i64 0, .slice none 0 0]).alloc (.cells #[.string s, .int .i64 1, .int .i64 0] 200)
  have hk := ((Keeps.refl (fun _ => False) w).alloc (.cells #[.int .i64 4, .int .i64 0, .int .i64 0, .slice none 0 0] 33)).alloc (.cells #[.string s, .int .i64 1, .int .i64 0] 200)
  rw [alloc_size] at hI
  have HI := Lib.hid hI
  have HB := Lib.hid hb1
  have HK := Lib.hid hk.pure
  clear hbel hI hb1 hk
  have ten : (4 : Int) ≠ 0 := by decide
  rcases Decidable.em (e0 = 0) with he | he
  · subst he
    rw [if_pos rfl]
    go_enter Try.func151, Try.ntmps151
    go_wp2_with (go_at_call 167; refine (record_taker_list.calls k _ s 1 0 l s a 0 w _ HI.out HK.out HL.out).mono ?_; rintro e w2 ⟨v0, rfl, hr, hI2, hB2, hkb⟩; obtain ⟨A0, q0, rfl⟩ := Kd.R_slice hr; have hbb := Lib.hid (blk_but hkb HB.out (by omega)); have hrr := Lib.hid hr; have hbl := Lib.hid hB2; have c2 := cellS200_2 hI2.1; have c1 := cellS200_1 hI2.1; have c4 := hbb.out.cell 0; have c5 := hbb.out.cell 1; have c6 := hbb.out.cell 2; have c7 := hbb.out.cell 3; have f0 := hbb.out.frozen 0; have f1 := hbb.out.frozen 1; have f2 := hbb.out.frozen 2; have f3 := hbb.out.frozen 3; clear hr hI2 hB2 hkb)
    go_region
    go_wp2
    refine bodyPost_ret (v := .tuple #[.agg #[.int .i64 4, .int .i64 0, .int .i64 0, .slice A0 l.length q0], .int .i64 a, .int .i64 0]) (by simp [results, Try.results151, go_sem, c4, c5, c6, c7]) rfl ⟨_, rfl, ?_, ?_⟩
    · refine Kd.R_lower (R_keeps hrr.out hbb.out (by decide) ?_) (by simp; omega)
      repeat (with_reducible first | exact Keeps.refl _ _ | refine Keeps.drewN ?_ _ | refine Keeps.drew ?_ | refine Keeps.setCell ?_ (.inl (by simp)) _)
    · refine below_keeps ?_
      repeat (with_reducible first | exact Keeps.of_but hbl.out | refine Keeps.drewN ?_ _ | refine Keeps.drew ?_ | refine Keeps.setCell ?_ (.inl (by simp)) _)
  · have hb : (e0 != 0) = true := by simpa using he
    rw [if_neg he]
    clear he
    go_enter Try.func151, Try.ntmps151
    go_wp2_with (go_at_call 167; refine (record_taker_list.calls k _ s 1 0 l s a e0 w _ HI.out HK.out HL.out).mono ?_; rintro e w2 ⟨v0, rfl, hr, hI2, hB2, hkb⟩; obtain ⟨A0, q0, rfl⟩ := Kd.R_slice hr; have hbb := Lib.hid (blk_but hkb HB.out (by omega)); have hrr := Lib.hid hr; have hbl := Lib.hid hB2; have c2 := cellS200_2 hI2.1; have c1 := cellS200_1 hI2.1; have c4 := hbb.out.cell 0; have c5 := hbb.out.cell 1; have c6 := hbb.out.cell 2; have c7 := hbb.out.cell 3; have f0 := hbb.out.frozen 0; have f1 := hbb.out.frozen 1; have f2 := hbb.out.frozen 2; have f3 := hbb.out.frozen 3; clear hr hI2 hB2 hkb)
    go_region
    go_wp2
    refine bodyPost_ret (v := .tuple #[.agg #[.int .i64 0, .int .i64 0, .int .i64 0, .slice none 0 0], .int .i64 0, .int .i64 e0]) (by simp [results, Try.results151, go_sem, c4, c5, c6, c7]) rfl ⟨_, rfl, Kd.R_nil _ _ _ _ _, ?_⟩
    · refine below_keeps ?_
      repeat (with_reducible first | exact Keeps.of_but hbl.out | refine Keeps.drewN ?_ _ | refine Keeps.drew ?_ | refine Keeps.setCell ?_ (.inl (by simp)) _)
theorem runs_ (c : Int) (b : Bool) (w : World) (h1 : 1 ≤ c) (h : (decide (c ≤ 3)) = b) : Calls Try.prog 159 #[.int .i64 c] w fun e w' => e = .returned (.bool b) ∧ w = w' := by
  subst h
  go_enter Try.func159, Try.ntmps159
  go_wp2
  go_ret
  exact ⟨rfl, rfl⟩

set_option maxHeartbeats 2000000 in
theorem rectake_three (s : ByteArray) (c n1 a1 e1 n2 a2 e2 : Int) (w : World) (hs : s.size ≤ 1000000) (h0 : 0 < s.size) (hx : ∀ h : 0 < s.size, ((s[0]'h).toNat : Int) = c) (hw : wrap64 c = c) (hne : (s.toList == []) = false) (hc1 : 1 ≤ c) (hc2 : c ≤ 3)
    (h1 : record_taker_offset.f s 1 0 1 = some (n1, s, a1, e1)) (h2 : record_taker_offset.f s a1 e1 1 = some (n2, s, a2, e2)) :
    Calls Try.prog 151 #[.string s] w fun e w' => RTakePost (if e2 = 0 then (c, n1, n2, [], a2, 0) else (0, 0, 0, [], 0, e2)) w e w' := by
  have H1 := Lib.hid h1
  have H2 := Lib.hid h2
  clear h1 h2
  have hbel := (((Keeps.refl (fun _ => False) w).alloc (.cells #[.int .i64 c, .int .i64 0, .int .i64 0, .slice none 0 0] 33))).pure
  have hI := IsS200.new w (w.alloc (.cells #[.int .i64 c, .int .i64 0, .int .i64 0, .slice none 0 0] 33)) s 1 0 hbel
  have hb1 := (Blk.new w 33 #[.int .i64 c, .int .i64 0, .int .i64 0, .slice none 0 0]).alloc (.cells #[.string s, .int .i64 1, .int .i64 0] 200)
  have hk := ((Keeps.refl (fun _ => False) w).alloc (.cells #[.int .i64 c, .int .i64 0, .int .i64 0, .slice none 0 0] 33)).alloc (.cells #[.string s, .int .i64 1, .int .i64 0] 200)
  rw [alloc_size] at hI
  have HI := Lib.hid hI
  have HB := Lib.hid hb1
  have HK := Lib.hid hk.pure
  have HR := Lib.hid (fun W => runs_ c true W (by omega) (by simp; omega))
  have t1 : decide (c < 1) = false := by simp; omega
  have t2 : decide (6 < c) = false := by simp; omega
  have t3 : (c == 4) = false := by rw [beq_eq_false_iff_ne]; omega
  clear hbel hI hb1 hk hc1 hc2
  rcases Decidable.em (e2 = 0) with he | he
  · subst he
    rw [if_pos rfl]
    go_enter Try.func151, Try.ntmps151
    go_wp2_with (go_at_call 159; refine (HR.out _).mono ?_; rintro e w' ⟨rfl, rfl⟩)
    refine (record_taker_offset.calls _ s 1 0 1 n1 s a1 e1 w _ HI.out HK.out H1.out).mono ?_
    rintro e w2 ⟨rfl, hI2, hB2, hkb2⟩
    have HI2 := Lib.hid (IsS200.far (p := ⟨w.heap.size, 1, none⟩) hI2 (by simp) (.int .i64 n1))
    have HB2 := Lib.hid (bel_set hB2 (Nat.le_refl _) 1 (.int .i64 n1))
    have hbb2 := blk_but hkb2 HB.out (by omega)
    have HBB := Lib.hid (Blk.to (hbb2.set_ 1 (.int .i64 n1)) (cs' := #[.int .i64 c, .int .i64 n1, .int .i64 0, .slice none 0 0]) rfl)
    have d1 := hbb2.cell 1
    have g1 := hbb2.frozen 1
    clear hI2 hB2 hkb2 hbb2
    go_wp2_with fail
    refine (record_taker_offset.calls _ s a1 e1 1 n2 s a2 0 w _ HI2.out HB2.out H2.out).mono ?_
    rintro e w3 ⟨rfl, hI3, hB3, hkb3⟩
    clear d1 g1
    have hbb := Lib.hid (blk_but hkb3 HBB.out (by omega))
    have hbl := Lib.hid hB3
    have c2 := cellS200_2 hI3.1
    have c1 := cellS200_1 hI3.1
    have c4 := hbb.out.cell 0
    have c5 := hbb.out.cell 1
    have c6 := hbb.out.cell 2
    have c7 := hbb.out.cell 3
    have f0 := hbb.out.frozen 0
    have f1 := hbb.out.frozen 1
    have f2 := hbb.out.frozen 2
    have f3 := hbb.out.frozen 3
    clear hI3 hB3 hkb3
    go_wp2
    go_region
    go_wp2
    refine bodyPost_ret (v := .tuple #[.agg #[.int .i64 c, .int .i64 n1, .int .i64 n2, .slice none 0 0], .int .i64 a2, .int .i64 0]) (by simp [results, Try.results151, go_sem, c4, c5, c6, c7]) rfl ⟨_, rfl, Kd.R_nil _ _ _ _ _, ?_⟩
    · refine below_keeps ?_
      repeat (with_reducible first | exact Keeps.of_but hbl.out | refine Keeps.drewN ?_ _ | refine Keeps.drew ?_ | refine Keeps.setCell ?_ (.inl (by simp)) _)
  · have hb : (e2 != 0) = true := by simpa using he
    rw [if_neg he]
    clear he
    go_enter Try.func151, Try.ntmps151
    go_wp2_with (go_at_call 159; refine (HR.out _).mono ?_; rintro e w' ⟨rfl, rfl⟩)
    refine (record_taker_offset.calls _ s 1 0 1 n1 s a1 e1 w _ HI.out HK.out H1.out).mono ?_
    rintro e w2 ⟨rfl, hI2, hB2, hkb2⟩
    have HI2 := Lib.hid (IsS200.far (p := ⟨w.heap.size, 1, none⟩) hI2 (by simp) (.int .i64 n1))
    have HB2 := Lib.hid (bel_set hB2 (Nat.le_refl _) 1 (.int .i64 n1))
    have hbb2 := blk_but hkb2 HB.out (by omega)
    have HBB := Lib.hid (Blk.to (hbb2.set_ 1 (.int .i64 n1)) (cs' := #[.int .i64 c, .int .i64 n1, .int .i64 0, .slice none 0 0]) rfl)
    have d1 := hbb2.cell 1
    have g1 := hbb2.frozen 1
    clear hI2 hB2 hkb2 hbb2
    go_wp2_with fail
    refine (record_taker_offset.calls _ s a1 e1 1 n2 s a2 e2 w _ HI2.out HB2.out H2.out).mono ?_
    rintro e w3 ⟨rfl, hI3, hB3, hkb3⟩
    clear d1 g1
    have hbb := Lib.hid (blk_but hkb3 HBB.out (by omega))
    have hbl := Lib.hid hB3
    have c2 := cellS200_2 hI3.1
    have c1 := cellS200_1 hI3.1
    have c4 := hbb.out.cell 0
    have c5 := hbb.out.cell 1
    have c6 := hbb.out.cell 2
    have c7 := hbb.out.cell 3
    have f0 := hbb.out.frozen 0
    have f1 := hbb.out.frozen 1
    have f2 := hbb.out.frozen 2
    have f3 := hbb.out.frozen 3
    clear hI3 hB3 hkb3
    go_wp2
    go_region
    go_wp2
    refine bodyPost_ret (v := .tuple #[.agg #[.int .i64 0, .int .i64 0, .int .i64 0, .slice none 0 0], .int .i64 0, .int .i64 e2]) (by simp [results, Try.results151, go_sem, c4, c5, c6, c7]) rfl ⟨_, rfl, Kd.R_nil _ _ _ _ _, ?_⟩
    · refine below_keeps ?_
      repeat (with_reducible first | exact Keeps.of_but hbl.out | refine Keeps.drewN ?_ _ | refine Keeps.drew ?_ | refine Keeps.setCell ?_ (.inl (by simp)) _)

set_option maxHeartbeats 2000000 in
theorem rectake_last (s : ByteArray) (c n1 a1 e1 n2 a2 e2 : Int) (w : World) (hs : s.size ≤ 1000000) (h0 : 0 < s.size) (hx : ∀ h : 0 < s.size, ((s[0]'h).toNat : Int) = c) (hw : wrap64 c = c) (hne : (s.toList == []) = false) (hc1 : 5 ≤ c) (hc2 : c ≤ 6)
    (h1 : record_taker_offset.f s 1 0 0 = some (n1, s, a1, e1)) (h2 : record_taker_offset.f s a1 e1 0 = some (n2, s, a2, e2)) :
    Calls Try.prog 151 #[.string s] w fun e w' => RTakePost (if e2 = 0 then (c, n1, n2, [], a2, 0) else (0, 0, 0, [], 0, e2)) w e w' := by
  have H1 := Lib.hid h1
  have H2 := Lib.hid h2
  clear h1 h2
  have hbel := (((Keeps.refl (fun _ => False) w).alloc (.cells #[.int .i64 c, .int .i64 0, .int .i64 0, .slice none 0 0] 33))).pure
  have hI := IsS200.new w (w.alloc (.cells #[.int .i64 c, .int .i64 0, .int .i64 0, .slice none 0 0] 33)) s 1 0 hbel
  have hb1 := (Blk.new w 33 #[.int .i64 c, .int .i64 0, .int .i64 0, .slice none 0 0]).alloc (.cells #[.string s, .int .i64 1, .int .i64 0] 200)
  have hk := ((Keeps.refl (fun _ => False) w).alloc (.cells #[.int .i64 c, .int .i64 0, .int .i64 0, .slice none 0 0] 33)).alloc (.cells #[.string s, .int .i64 1, .int .i64 0] 200)
  rw [alloc_size] at hI
  have HI := Lib.hid hI
  have HB := Lib.hid hb1
  have HK := Lib.hid hk.pure
  have HR := Lib.hid (fun W => runs_ c false W (by omega) (by simp; omega))
  have t1 : decide (c < 1) = false := by simp; omega
  have t2 : decide (6 < c) = false := by simp; omega
  have t3 : (c == 4) = false := by rw [beq_eq_false_iff_ne]; omega
  clear hbel hI hb1 hk hc1 hc2
  rcases Decidable.em (e2 = 0) with he | he
  · subst he
    rw [if_pos rfl]
    go_enter Try.func151, Try.ntmps151
    go_wp2_with (go_at_call 159; refine (HR.out _).mono ?_; rintro e w' ⟨rfl, rfl⟩)
    refine (record_taker_offset.calls _ s 1 0 0 n1 s a1 e1 w _ HI.out HK.out H1.out).mono ?_
    rintro e w2 ⟨rfl, hI2, hB2, hkb2⟩
    have HI2 := Lib.hid (IsS200.far (p := ⟨w.heap.size, 1, none⟩) hI2 (by simp) (.int .i64 n1))
    have HB2 := Lib.hid (bel_set hB2 (Nat.le_refl _) 1 (.int .i64 n1))
    have hbb2 := blk_but hkb2 HB.out (by omega)
    have HBB := Lib.hid (Blk.to (hbb2.set_ 1 (.int .i64 n1)) (cs' := #[.int .i64 c, .int .i64 n1, .int .i64 0, .slice none 0 0]) rfl)
    have d1 := hbb2.cell 1
    have g1 := hbb2.frozen 1
    clear hI2 hB2 hkb2 hbb2
    go_wp2_with fail
    refine (record_taker_offset.calls _ s a1 e1 0 n2 s a2 0 w _ HI2.out HB2.out H2.out).mono ?_
    rintro e w3 ⟨rfl, hI3, hB3, hkb3⟩
    clear d1 g1
    have hbb := Lib.hid (blk_but hkb3 HBB.out (by omega))
    have hbl := Lib.hid hB3
    have c2 := cellS200_2 hI3.1
    have c1 := cellS200_1 hI3.1
    have c4 := hbb.out.cell 0
    have c5 := hbb.out.cell 1
    have c6 := hbb.out.cell 2
    have c7 := hbb.out.cell 3
    have f0 := hbb.out.frozen 0
    have f1 := hbb.out.frozen 1
    have f2 := hbb.out.frozen 2
    have f3 := hbb.out.frozen 3
    clear hI3 hB3 hkb3
    go_wp2
    go_region
    go_wp2
    refine bodyPost_ret (v := .tuple #[.agg #[.int .i64 c, .int .i64 n1, .int .i64 n2, .slice none 0 0], .int .i64 a2, .int .i64 0]) (by simp [results, Try.results151, go_sem, c4, c5, c6, c7]) rfl ⟨_, rfl, Kd.R_nil _ _ _ _ _, ?_⟩
    · refine below_keeps ?_
      repeat (with_reducible first | exact Keeps.of_but hbl.out | refine Keeps.drewN ?_ _ | refine Keeps.drew ?_ | refine Keeps.setCell ?_ (.inl (by simp)) _)
  · have hb : (e2 != 0) = true := by simpa using he
    rw [if_neg he]
    clear he
    go_enter Try.func151, Try.ntmps151
    go_wp2_with (go_at_call 159; refine (HR.out _).mono ?_; rintro e w' ⟨rfl, rfl⟩)
    refine (record_taker_offset.calls _ s 1 0 0 n1 s a1 e1 w _ HI.out HK.out H1.out).mono ?_
    rintro e w2 ⟨rfl, hI2, hB2, hkb2⟩
    have HI2 := Lib.hid (IsS200.far (p := ⟨w.heap.size, 1, none⟩) hI2 (by simp) (.int .i64 n1))
    have HB2 := Lib.hid (bel_set hB2 (Nat.le_refl _) 1 (.int .i64 n1))
    have hbb2 := blk_but hkb2 HB.out (by omega)
    have HBB := Lib.hid (Blk.to (hbb2.set_ 1 (.int .i64 n1)) (cs' := #[.int .i64 c, .int .i64 n1, .int .i64 0, .slice none 0 0]) rfl)
    have d1 := hbb2.cell 1
    have g1 := hbb2.frozen 1
    clear hI2 hB2 hkb2 hbb2
    go_wp2_with fail
    refine (record_taker_offset.calls _ s a1 e1 0 n2 s a2 e2 w _ HI2.out HB2.out H2.out).mono ?_
    rintro e w3 ⟨rfl, hI3, hB3, hkb3⟩
    clear d1 g1
    have hbb := Lib.hid (blk_but hkb3 HBB.out (by omega))
    have hbl := Lib.hid hB3
    have c2 := cellS200_2 hI3.1
    have c1 := cellS200_1 hI3.1
    have c4 := hbb.out.cell 0
    have c5 := hbb.out.cell 1
    have c6 := hbb.out.cell 2
    have c7 := hbb.out.cell 3
    have f0 := hbb.out.frozen 0
    have f1 := hbb.out.frozen 1
    have f2 := hbb.out.frozen 2
    have f3 := hbb.out.frozen 3
    clear hI3 hB3 hkb3
    go_wp2
    go_region
    go_wp2
    refine bodyPost_ret (v := .tuple #[.agg #[.int .i64 0, .int .i64 0, .int .i64 0, .slice none 0 0], .int .i64 0, .int .i64 e2]) (by simp [results, Try.results151, go_sem, c4, c5, c6, c7]) rfl ⟨_, rfl, Kd.R_nil _ _ _ _ _, ?_⟩
    · refine below_keeps ?_
      repeat (with_reducible first | exact Keeps.of_but hbl.out | refine Keeps.drewN ?_ _ | refine Keeps.drew ?_ | refine Keeps.setCell ?_ (.inl (by simp)) _)

end Go.Proofs.Ytdapjfnpnmejnaa
