/- The law that what is printed is parsed as it was; no condition but the card's cell. -/
import Derived.Test.YtjcjmjnajhkdaaaDoorScrX
import Derived.Test.YtjcjmjnajhkdaaaDoorScrS
namespace Go.Proofs.YtjcjmjnajhkdaaaDoor
open Go.RowKit
set_option linter.unusedVariables false
set_option linter.unusedSimpArgs false
set_option maxRecDepth 100000

theorem quote_ge2 (l : List UInt8) : l.length ≤ (quoteL l).length := by
  unfold quoteL
  split
  · rename_i h; subst h; simp
  · split
    · rename_i h; subst h; simp [codedL]
    · exact signs_ge l
theorem line_le {x : List UInt8} : ∀ {xs : List (List UInt8)}, x ∈ xs → x.length ≤ (xs.flatMap (· ++ [10])).length
  | [], h => by cases h
  | y :: xs, h => by
    rw [List.flatMap_cons, List.length_append]
    rcases List.mem_cons.1 h with rfl | h
    · simp; omega
    · have := line_le h
      omega
theorem pats_le {s : Sc} {p : List UInt8} (h : p ∈ s.pats) : p.length ≤ (printL s).length := by
  have h1 : sp wPattern (quoteL p) ∈ rowsL s := by
    unfold rowsL
    exact List.mem_append_left _ (List.mem_map.2 ⟨p, h, rfl⟩)
  have h2 := line_le h1
  have h3 := quote_ge2 p
  have h4 : (sp wPattern (quoteL p)).length = 8 + (quoteL p).length := by simp [sp, wPattern]; omega
  unfold printL
  omega
theorem parts_le {s : Sc} {p : List UInt8} (h : p ∈ s.parts) : p.length ≤ (printL s).length := by
  have h1 : sp wPart (quoteL p) ∈ rowsL s := by
    unfold rowsL
    exact List.mem_append_right _ (List.mem_append_left _ (List.mem_map.2 ⟨p, h, rfl⟩))
  have h2 := line_le h1
  have h3 := quote_ge2 p
  have h4 : (sp wPart (quoteL p)).length = 5 + (quoteL p).length := by simp [sp, wPart]; omega
  unfold printL
  omega
theorem few_print2 {s : Sc} (hc : checkV s = true) (hn : NumsOk s) (hf : fewS s = true) : (printL s).length ≤ 20000 := by
  obtain ⟨⟨f1, f2, f3, f4⟩, f5, f6⟩ := few_parts hf
  obtain ⟨c1, c2, c3, c4, c5, c6⟩ := check_parts hc
  have hl := rows_len s
  have : (printL s).length ≤ (rowsL s).length * (300 + 1) := fl_le 300 _ (by
    intro l hl
    unfold rowsL at hl
    rcases List.mem_append.1 hl with hl | hl
    · obtain ⟨p, hp, rfl⟩ := List.mem_map.1 hl
      have h1 := quote_len p; have h2 := f5 p hp
      simp [sp, wPattern]; omega
    rcases List.mem_append.1 hl with hl | hl
    · obtain ⟨p, hp, rfl⟩ := List.mem_map.1 hl
      have h1 := quote_len p; have h2 := f6 p hp
      simp [sp, wPart]; omega
    rcases List.mem_cons.1 hl with rfl | hl
    · have := scan_len (s := s) c4; omega
    rcases List.mem_append.1 hl with hl | hl
    · obtain ⟨e, he, rfl⟩ := List.mem_map.1 hl
      have := edit_len (hn e he); omega
    · split at hl
      · cases hl
      · rename_i hcz
        simp at hl
        subst hl
        have h1 := jn_len (zs := s.certs) (fun z h => by have := c6 z h; omega) s.certs.length (Nat.le_refl _)
        rw [jn_all _ hcz] at h1
        simp [sp, wCerts]; omega)
  split at hl <;> omega

/-- What is parsed, with its lists' rows laid open. -/
theorem parse_as {t : List UInt8} {r : Sc} {n f : Int} (h : parseS t = (r, n, f)) (ht : t.length ≤ 100000) (W : World) (m : Int) (hmx : W.cell? ⟨2, 0, none⟩ = some (.int .i64 m)) :
    Calls Tryd.prog 8 #[.string ⟨t.toArray⟩] W fun e w' => ∃ b0 b1 b5 b6 j0 j1 j5 j6, e = .returned (.tuple #[.agg #[.slice b0 r.pats.length j0, .slice b1 r.parts.length j1, .int .i64 r.table, .bool r.skip, .int .i64 r.every, .slice b5 r.edits.length j5, .slice b6 r.certs.length j6], .int .i64 n, .int .i64 f]) ∧ ScR w' (.slice b0 r.pats.length j0) (.slice b1 r.parts.length j1) (.slice b5 r.edits.length j5) (.slice b6 r.certs.length j6) r ∧ Pure' W w' := by
  have hp := parseS_ t W ht m hmx
  unfold ParsePost at hp
  rw [h] at hp
  refine hp.mono ?_
  rintro e w' ⟨v0, v1, v5, v6, rfl, hs, hk⟩
  obtain ⟨b0, j0, rfl, _⟩ := hs.p0
  obtain ⟨b1, j1, rfl, _⟩ := hs.p1
  obtain ⟨b5, j5, rfl, _⟩ := hs.p5
  obtain ⟨b6, j6, rfl, _⟩ := hs.p6
  exact ⟨b0, b1, b5, b6, j0, j1, j5, j6, rfl, hs, hk⟩

/-- What is printed of a script of few parts is parsed as it was. -/
theorem print_back (s : Sc) (hf : fewS s = true) (hn : NumsOk s) : ∃ (pt : List UInt8) (pe : Int),
    (∀ v0 v1 v5 v6 W, ScR W v0 v1 v5 v6 s → Calls Tryd.prog 12 #[scV v0 v1 v5 v6 s] W fun e w' => e = .returned (.tuple #[.string ⟨pt.toArray⟩, .int .i64 pe]) ∧ Pure' W w') ∧
    ((pe = 2 ∧ pt = []) ∨ (pe = 0 ∧ pt.length ≤ 20000 ∧ parseS pt = (s, 0, 0) ∧ parseS ([10, 35, 32, 97, 103, 97, 105, 110, 10] ++ pt ++ [32, 32, 35, 32, 116, 104, 101, 32, 101, 110, 100]) = (s, 0, 0))) := by
  obtain ⟨⟨f1, f2, f3, f4⟩, f5, f6⟩ := few_parts hf
  cases hc : checkV s with
  | true =>
    exact ⟨printL s, 0, fun v0 v1 v5 v6 W h => print_ v0 v1 v5 v6 s W h hc hn (fun p h => by have := f5 p h; omega) (fun p h => by have := f6 p h; omega) (few_print hc hn hf), .inr ⟨rfl, few_print2 hc hn hf, parse_print hc hn, parse_print' hc hn⟩⟩
  | false =>
    exact ⟨[], 2, fun v0 v1 v5 v6 W h => print_no v0 v1 v5 v6 s W h hc (by omega) (by omega) (by omega) (by omega), .inl ⟨rfl, rfl⟩⟩
/-- What is parsed may be, and is printed, and parsed again. -/
theorem text_back (t : List UInt8) (ht : t.length ≤ 600) : ∃ (x : Sc) (n f : Int), parseS t = (x, n, f) ∧ (x.pats.length ≤ 100000 ∧ x.parts.length ≤ 100000 ∧ x.edits.length ≤ 100000 ∧ x.certs.length ≤ 100000) ∧ (f ≠ 0 ∨ (f = 0 ∧ (printL x).length ≤ 700 ∧ parseS (printL x) = (x, 0, 0) ∧
    (∀ v0 v1 v5 v6 W, ScR W v0 v1 v5 v6 x → Calls Tryd.prog 12 #[scV v0 v1 v5 v6 x] W fun e w' => e = .returned (.tuple #[.string ⟨(printL x).toArray⟩, .int .i64 0]) ∧ Pure' W w'))) := by
  obtain ⟨pr, hpr⟩ : ∃ pr, parseS t = pr := ⟨_, rfl⟩
  obtain ⟨x, n, f⟩ := pr
  have hz := parse_sizes t
  rw [hpr] at hz
  refine ⟨x, n, f, hpr, hz, ?_⟩
  by_cases h0 : f = 0
  · subst h0
    obtain ⟨h1, h2, h3⟩ := parse_may hpr
    exact .inr ⟨rfl, by omega, parse_print h1 h2, fun v0 v1 v5 v6 W h => print_ v0 v1 v5 v6 x W h h1 h2 (fun p h => by have := pats_le h; omega) (fun p h => by have := parts_le h; omega) (by omega)⟩
  · exact .inl h0

def HalfPost (w : World) (e : Ending) (w' : World) : Prop := e = .returned (.bool true) ∧ Pure' w w'

set_option maxHeartbeats 4000000 in
theorem sback_walk (v0 v1 v5 v6 : Value) (s : Sc) (t : List UInt8) (w : World) (m : Int) (hmx : w.cell? ⟨2, 0, none⟩ = some (.int .i64 m)) (h : ScR w v0 v1 v5 v6 s) (hn : NumsOk s)
    (h0 : s.pats.length ≤ maxLen) (h1 : s.parts.length ≤ maxLen) (h5 : s.edits.length ≤ maxLen) (h6 : s.certs.length ≤ maxLen) (hl0 : ∀ x ∈ s.pats, x.length ≤ maxLen) (hl1 : ∀ x ∈ s.parts, x.length ≤ maxLen) (hlt : t.length ≤ maxLen) :
    Calls Tryd.prog 5 #[scV v0 v1 v5 v6 s, .string ⟨t.toArray⟩] w fun e w' => HalfPost w e w' := by
  unfold maxLen at hlt
  have HAw := Lib.hid (fun W (hW : Pure' w W) => awake43 W m (keepc hmx hW))
  have hfw := fun W (hW : Pure' w W) => fewS_ v0 v1 v5 v6 s W (h.pure hW) h0 h1 h5 h6 hl0 hl1
  have hsr := fun W (hW : Pure' w W) => h.pure hW
  obtain ⟨a0, k0, rfl, _⟩ := h.p0
  obtain ⟨a1, k1, rfl, _⟩ := h.p1
  obtain ⟨a5, k5, rfl, _⟩ := h.p5
  obtain ⟨a6, k6, rfl, _⟩ := h.p6
  obtain ⟨np, hnp⟩ : ∃ np, s.pats.length = np := ⟨_, rfl⟩
  obtain ⟨nq, hnq⟩ : ∃ nq, s.parts.length = nq := ⟨_, rfl⟩
  obtain ⟨ne, hne⟩ : ∃ ne, s.edits.length = ne := ⟨_, rfl⟩
  obtain ⟨nc, hnc⟩ : ∃ nc, s.certs.length = nc := ⟨_, rfl⟩
  rw [hnp, hnq, hne, hnc] at hfw hsr ⊢
  have HB := Lib.hid (Blk.new w 35 #[.slice a0 np k0, .slice a1 nq k1, .int .i64 s.table, .bool s.skip, .int .i64 s.every, .slice a5 ne k5, .slice a6 nc k6])
  have HP := Lib.hid ((Keeps.refl (fun _ => False) w).alloc (.cells #[.slice a0 np k0, .slice a1 nq k1, .int .i64 s.table, .bool s.skip, .int .i64 s.every, .slice a5 ne k5, .slice a6 nc k6] 35))
  rw [show scV (.slice a0 np k0) (.slice a1 nq k1) (.slice a5 ne k5) (.slice a6 nc k6) s = .agg #[.slice a0 np k0, .slice a1 nq k1, .int .i64 s.table, .bool s.skip, .int .i64 s.every, .slice a5 ne k5, .slice a6 nc k6] from rfl]
  cases hfe : fewS s with
  | false =>
    rw [hfe] at hfw
    have HFew := Lib.hid (show ∀ W, Pure' w W → Calls Tryd.prog 11 #[.agg #[.slice a0 np k0, .slice a1 nq k1, .int .i64 s.table, .bool s.skip, .int .i64 s.every, .slice a5 ne k5, .slice a6 nc k6]] W fun e w' => e = .returned (.bool false) ∧ Pure' W w' from hfw)
    clear hfw hfe hsr h hn hmx h0 h1 h5 h6 hl0 hl1 hnp hnq hne hnc
    go_enter Tryd.func5, Tryd.ntmps5
    go_wp2_with (first
      | ((with_reducible refine at_op ⟨some 23, _, _, _, _, _⟩ ?_); refine wpList_load_row rfl 35 (.tmp 2) rfl (w.heap.size) rfl 35 #[.slice a0 np k0, .slice a1 nq k1, .int .i64 s.table, .bool s.skip, .int .i64 s.every, .slice a5 ne k5, .slice a6 nc k6] (0, 0) _ HB.out Tryd.underlying35 rfl (by kernel_rfl) ?_)
      | (go_at_call 11; refine (HFew.out _ HP.out).mono ?_; rintro e w1 ⟨rfl, hk⟩; have HK1 := Lib.hid (HP.out.then_ hk); clear hk)
      | (go_at_call 7; refine (HAw.out _ HK1.out).mono ?_; rintro e w2 ⟨rfl, hk⟩; have HK2 := Lib.hid (HK1.out.then_ hk); clear hk))
    go_ret
    exact ⟨rfl, HK2.out⟩
  | true =>
    rw [hfe] at hfw
    have HFew := Lib.hid (show ∀ W, Pure' w W → Calls Tryd.prog 11 #[.agg #[.slice a0 np k0, .slice a1 nq k1, .int .i64 s.table, .bool s.skip, .int .i64 s.every, .slice a5 ne k5, .slice a6 nc k6]] W fun e w' => e = .returned (.bool true) ∧ Pure' W w' from hfw)
    by_cases h600 : 600 < t.length
    · have hq : 600 < (t.length : Int) := by omega
      clear hfw hfe hsr h hn hmx h0 h1 h5 h6 hl0 hl1 hnp hnq hne hnc
      go_enter Tryd.func5, Tryd.ntmps5
      go_wp2_with (first
        | ((with_reducible refine at_op ⟨some 23, _, _, _, _, _⟩ ?_); refine wpList_load_row rfl 35 (.tmp 2) rfl (w.heap.size) rfl 35 #[.slice a0 np k0, .slice a1 nq k1, .int .i64 s.table, .bool s.skip, .int .i64 s.every, .slice a5 ne k5, .slice a6 nc k6] (0, 0) _ HB.out Tryd.underlying35 rfl (by kernel_rfl) ?_)
        | (go_at_call 11; refine (HFew.out _ HP.out).mono ?_; rintro e w1 ⟨rfl, hk⟩; have HK1 := Lib.hid (HP.out.then_ hk); clear hk)
        | (go_at_call 7; refine (HAw.out _ HK1.out).mono ?_; rintro e w2 ⟨rfl, hk⟩; have HK2 := Lib.hid (HK1.out.then_ hk); clear hk))
      go_ret
      exact ⟨rfl, HK2.out⟩
    have hq : ¬ 600 < (t.length : Int) := by omega
    obtain ⟨⟨hf1, hf2, hf3, hf4⟩, _, _⟩ := few_parts hfe
    obtain ⟨pt, pe, hp1, hway⟩ := print_back s hfe hn
    obtain ⟨x, xn, xf, hpx, hxz, hxw⟩ := text_back t (by omega)
    rw [hne] at hf3
    have HMine := Lib.hid (show ∀ W, Pure' w W → Calls Tryd.prog 13 #[.agg #[.slice a0 np k0, .slice a1 nq k1, .int .i64 s.table, .bool s.skip, .int .i64 s.every, .slice a5 ne k5, .slice a6 nc k6]] W fun e w' => ∃ u5, e = .returned (scV (.slice a0 np k0) (.slice a1 nq k1) u5 (.slice a6 nc k6) s) ∧ ScR w' (.slice a0 np k0) (.slice a1 nq k1) u5 (.slice a6 nc k6) s ∧ Pure' W w' from
      fun W hW => mine_ _ _ _ _ s W (hsr W hW) (by rw [hne]; exact hf3))
    have HPr := Lib.hid hp1
    have HSR := Lib.hid hsr
    have HWay := Lib.hid hway
    have HPX := Lib.hid (fun W (hW : Pure' w W) => parse_as hpx (by omega) W m (keepc hmx hW))
    have HXW := Lib.hid hxw
    have HSm := Lib.hid (fun W c0 c1 c5 c6 i0 i1 i5 i6 (h1 : ScR W (.slice c0 s.pats.length i0) (.slice c1 s.parts.length i1) (.slice c5 s.edits.length i5) (.slice c6 s.certs.length i6) s) (hW : Pure' w W) =>
      (show Calls Tryd.prog 10 #[.agg #[.slice c0 s.pats.length i0, .slice c1 s.parts.length i1, .int .i64 s.table, .bool s.skip, .int .i64 s.every, .slice c5 s.edits.length i5, .slice c6 s.certs.length i6], .agg #[.slice a0 np k0, .slice a1 nq k1, .int .i64 s.table, .bool s.skip, .int .i64 s.every, .slice a5 ne k5, .slice a6 nc k6]] W fun e w' => e = .returned (.bool true) ∧ Pure' W w' from
        sameS_ _ _ _ _ _ _ _ _ s W h1 (hsr W hW) (by omega) (by omega) (by omega) (by omega)))
    have HPa := Lib.hid (fun (tt : List UInt8) (ht : tt.length ≤ 100000) (r : Sc) (n f : Int) (hr : parseS tt = (r, n, f)) W (hW : Pure' w W) => parse_as hr ht W m (keepc hmx hW))
    clear hfw hfe hsr h hn hmx h0 h1 h5 h6 hl0 hl1 hnp hnq hne hnc hp1 hway hpx hxw hf1 hf2 hf3 hf4 hxz h600
    go_enter Tryd.func5, Tryd.ntmps5
    go_upto_if 39 with (first
      | ((with_reducible refine at_op ⟨some 23, _, _, _, _, _⟩ ?_); refine wpList_load_row rfl 35 (.tmp 2) rfl (w.heap.size) rfl 35 #[.slice a0 np k0, .slice a1 nq k1, .int .i64 s.table, .bool s.skip, .int .i64 s.every, .slice a5 ne k5, .slice a6 nc k6] (0, 0) _ HB.out Tryd.underlying35 rfl (by kernel_rfl) ?_)
      | (go_at_call 11; refine (HFew.out _ HP.out).mono ?_; rintro e w1 ⟨rfl, hk⟩; have HK1 := Lib.hid (HP.out.then_ hk); have HB1 := Lib.hid (HB.out.keep hk (fun hf => hf)); clear hk)
      | ((with_reducible refine at_op ⟨some 33, _, _, _, _, _⟩ ?_); refine wpList_load_row rfl 35 (.tmp 2) rfl (w.heap.size) rfl 35 #[.slice a0 np k0, .slice a1 nq k1, .int .i64 s.table, .bool s.skip, .int .i64 s.every, .slice a5 ne k5, .slice a6 nc k6] (0, 0) _ HB1.out Tryd.underlying35 rfl (by kernel_rfl) ?_)
      | (go_at_call 13; refine (HMine.out _ HK1.out).mono ?_; rintro e w2 ⟨u5, rfl, hs, hk⟩; have HS2 := Lib.hid hs; have HK2 := Lib.hid (HK1.out.then_ hk); have HB2 := Lib.hid (HB1.out.keep hk (fun hf => hf)); clear hk hs)
      | (go_at_call 12; refine (HPr.out _ _ _ _ _ HS2.out).mono ?_; rintro e w3 ⟨rfl, hk⟩; have HK3 := Lib.hid (HK2.out.then_ hk); have HB3 := Lib.hid (HB2.out.keep hk (fun hf => hf)); clear hk))
    go_cut [4] (fun v4 wx => v4 = .bool false ∧ Pure' w wx)
    case first =>
      rcases HWay.out with ⟨rfl, rfl⟩ | ⟨rfl, hpl, hpp, hpq⟩
      · go_wp2
        go_meet
        exact ⟨rfl, HK3.out⟩
      · have HPP := Lib.hid hpp
        have HPQ := Lib.hid hpq
        have HCat := Lib.hid (show ((⟨#[10, 35, 32, 97, 103, 97, 105, 110, 10]⟩ ++ ⟨pt.toArray⟩) ++ ⟨#[32, 32, 35, 32, 116, 104, 101, 32, 101, 110, 100]⟩ : ByteArray) = ⟨([10, 35, 32, 97, 103, 97, 105, 110, 10] ++ pt ++ [32, 32, 35, 32, 116, 104, 101, 32, 101, 110, 100]).toArray⟩ from bytes_eq (by simp))
        clear hpp hpq
        go_wp2_with fail
        refine (HPa.out pt (by omega) _ _ _ HPP.out _ HK3.out).mono ?_
        rintro e w4 ⟨b0, b1, b5, b6, j0, j1, j5, j6, rfl, hs, hk⟩
        have HS4 := Lib.hid hs
        have HK4 := Lib.hid (HK3.out.then_ hk)
        have HB4 := Lib.hid (HB3.out.keep hk (fun hf => hf))
        have HA4 := Lib.hid (Blk.new w4 29 #[.slice b0 s.pats.length j0, .slice b1 s.parts.length j1, .int .i64 s.table, .bool s.skip, .int .i64 s.every, .slice b5 s.edits.length j5, .slice b6 s.certs.length j6])
        have HK5 := Lib.hid (HK4.out.alloc (.cells #[.slice b0 s.pats.length j0, .slice b1 s.parts.length j1, .int .i64 s.table, .bool s.skip, .int .i64 s.every, .slice b5 s.edits.length j5, .slice b6 s.certs.length j6] 29))
        clear hk hs
        go_wp2_with fail
        rw [HCat.out]
        refine (HPa.out _ (by simp; omega) _ _ _ HPQ.out _ HK5.out).mono ?_
        rintro e w6 ⟨c0, c1, c5, c6, i0, i1, i5, i6, rfl, hs, hk⟩
        have HS6 := Lib.hid hs
        have HK6 := Lib.hid (HK5.out.then_ hk)
        have HB6 := Lib.hid ((HB4.out.alloc (.cells #[.slice b0 s.pats.length j0, .slice b1 s.parts.length j1, .int .i64 s.table, .bool s.skip, .int .i64 s.every, .slice b5 s.edits.length j5, .slice b6 s.certs.length j6] 29)).keep hk (fun hf => hf))
        have HA6 := Lib.hid (HA4.out.keep hk (fun hf => hf))
        have HSa := Lib.hid (((HS4.out.pure ((Keeps.refl (fun _ => False) w4).alloc (.cells #[.slice b0 s.pats.length j0, .slice b1 s.parts.length j1, .int .i64 s.table, .bool s.skip, .int .i64 s.every, .slice b5 s.edits.length j5, .slice b6 s.certs.length j6] 29))).pure hk).pure ((Keeps.refl (fun _ => False) w6).alloc (.cells #[.slice c0 s.pats.length i0, .slice c1 s.parts.length i1, .int .i64 s.table, .bool s.skip, .int .i64 s.every, .slice c5 s.edits.length i5, .slice c6 s.certs.length i6] 29)))
        have HC7 := Lib.hid (Blk.new w6 29 #[.slice c0 s.pats.length i0, .slice c1 s.parts.length i1, .int .i64 s.table, .bool s.skip, .int .i64 s.every, .slice c5 s.edits.length i5, .slice c6 s.certs.length i6])
        have HB7 := Lib.hid (HB6.out.alloc (.cells #[.slice c0 s.pats.length i0, .slice c1 s.parts.length i1, .int .i64 s.table, .bool s.skip, .int .i64 s.every, .slice c5 s.edits.length i5, .slice c6 s.certs.length i6] 29))
        have HA7 := Lib.hid (HA6.out.alloc (.cells #[.slice c0 s.pats.length i0, .slice c1 s.parts.length i1, .int .i64 s.table, .bool s.skip, .int .i64 s.every, .slice c5 s.edits.length i5, .slice c6 s.certs.length i6] 29))
        have HK7 := Lib.hid (HK6.out.alloc (.cells #[.slice c0 s.pats.length i0, .slice c1 s.parts.length i1, .int .i64 s.table, .bool s.skip, .int .i64 s.every, .slice c5 s.edits.length i5, .slice c6 s.certs.length i6] 29))
        have HSc := Lib.hid (HS6.out.pure ((Keeps.refl (fun _ => False) w6).alloc (.cells #[.slice c0 s.pats.length i0, .slice c1 s.parts.length i1, .int .i64 s.table, .bool s.skip, .int .i64 s.every, .slice c5 s.edits.length i5, .slice c6 s.certs.length i6] 29)))
        clear hk hs
        go_wp2_with (first
          | ((with_reducible refine at_op ⟨some 54, _, _, _, _, _⟩ ?_); refine wpList_load_row rfl 29 (.tmp 7) rfl (w4.heap.size) rfl 29 #[.slice b0 s.pats.length j0, .slice b1 s.parts.length j1, .int .i64 s.table, .bool s.skip, .int .i64 s.every, .slice b5 s.edits.length j5, .slice b6 s.certs.length j6] (0, 0) _ HA7.out Tryd.underlying29 rfl (by kernel_rfl) ?_)
          | ((with_reducible refine at_op ⟨some 55, _, _, _, _, _⟩ ?_); refine wpList_load_row rfl 35 (.tmp 2) rfl (w.heap.size) rfl 35 #[.slice a0 np k0, .slice a1 nq k1, .int .i64 s.table, .bool s.skip, .int .i64 s.every, .slice a5 ne k5, .slice a6 nc k6] (0, 0) _ HB7.out Tryd.underlying35 rfl (by kernel_rfl) ?_))
        refine (HSm.out _ _ _ _ _ _ _ _ _ HSa.out HK7.out).mono ?_
        rintro e w8 ⟨rfl, hk⟩
        have HK8 := Lib.hid (HK7.out.then_ hk)
        have HC8 := Lib.hid (HC7.out.keep hk (fun hf => hf))
        have HB8 := Lib.hid (HB7.out.keep hk (fun hf => hf))
        have HSd := Lib.hid (HSc.out.pure hk)
        clear hk
        have z0 := HC8.out.cell 0
        have y0 := HB8.out.cell 0
        have z1 := HC8.out.cell 1
        have y1 := HB8.out.cell 1
        have z2 := HC8.out.cell 2
        have y2 := HB8.out.cell 2
        have z3 := HC8.out.cell 3
        have y3 := HB8.out.cell 3
        have z4 := HC8.out.cell 4
        have y4 := HB8.out.cell 4
        have z5 := HC8.out.cell 5
        have y5 := HB8.out.cell 5
        have z6 := HC8.out.cell 6
        have y6 := HB8.out.cell 6
        go_wp2_with fail
        refine (HSm.out _ _ _ _ _ _ _ _ _ HSd.out HK8.out).mono ?_
        rintro e w9 ⟨rfl, hk⟩
        have HK9 := Lib.hid (HK8.out.then_ hk)
        clear hk z0 z1 z2 z3 z4 z5 z6 y0 y1 y2 y3 y4 y5 y6
        go_wp2
        go_meet
        exact ⟨rfl, HK9.out⟩
    case rest =>
      obtain ⟨rfl, hp⟩ := hcut
      have HQ0 := Lib.hid hp
      clear hp HB HB1 HB2 HB3 HK1 HK2 HK3 HP HS2 HPr HMine HFew HSR HWay HSm
      go_wp2_with fail
      refine (HPX.out _ HQ0.out).mono ?_
      rintro e w4 ⟨b0, b1, b5, b6, j0, j1, j5, j6, rfl, hs, hk⟩
      have HS4 := Lib.hid hs
      have HK4 := Lib.hid (HQ0.out.then_ hk)
      have HA5 := Lib.hid (Blk.new w4 29 #[.slice b0 x.pats.length j0, .slice b1 x.parts.length j1, .int .i64 x.table, .bool x.skip, .int .i64 x.every, .slice b5 x.edits.length j5, .slice b6 x.certs.length j6])
      have HK5 := Lib.hid (HK4.out.alloc (.cells #[.slice b0 x.pats.length j0, .slice b1 x.parts.length j1, .int .i64 x.table, .bool x.skip, .int .i64 x.every, .slice b5 x.edits.length j5, .slice b6 x.certs.length j6] 29))
      have HS5 := Lib.hid (hs.pure ((Keeps.refl (fun _ => False) w4).alloc (.cells #[.slice b0 x.pats.length j0, .slice b1 x.parts.length j1, .int .i64 x.table, .bool x.skip, .int .i64 x.every, .slice b5 x.edits.length j5, .slice b6 x.certs.length j6] 29)))
      clear hk hs
      rcases HXW.out with hx0 | ⟨rfl, hxl, hxp, hxr⟩
      · have hx1 : (xf == 0) = false := by simpa using hx0
        have hx2 : (xf = 0) = False := eq_false hx0
        go_wp2_with (go_at_call 7; refine (HAw.out _ HK5.out).mono ?_; rintro e w6 ⟨rfl, hk⟩; have HK6 := Lib.hid (HK5.out.then_ hk); clear hk)
        go_ret
        exact ⟨rfl, HK6.out⟩
      · have HXP := Lib.hid hxp
        have HXR := Lib.hid hxr
        obtain ⟨px, hpx⟩ : ∃ px, printL x = px := ⟨_, rfl⟩
        rw [hpx] at HXP HXR hxl
        clear hxp hxr hpx
        go_wp2_with ((with_reducible refine at_op ⟨some 90, _, _, _, _, _⟩ ?_); refine wpList_load_row rfl 29 (.tmp 13) rfl (w4.heap.size) rfl 29 #[.slice b0 x.pats.length j0, .slice b1 x.parts.length j1, .int .i64 x.table, .bool x.skip, .int .i64 x.every, .slice b5 x.edits.length j5, .slice b6 x.certs.length j6] (0, 0) _ HA5.out Tryd.underlying29 rfl (by kernel_rfl) ?_)
        refine (HXR.out _ _ _ _ _ HS5.out).mono ?_
        rintro e w6 ⟨rfl, hk⟩
        have HK6 := Lib.hid (HK5.out.then_ hk)
        clear hk
        go_wp2_with fail
        refine (HPa.out px (by omega) _ _ _ HXP.out _ HK6.out).mono ?_
        rintro e w7 ⟨c0, c1, c5, c6, i0, i1, i5, i6, rfl, hs, hk⟩
        have HK7 := Lib.hid (HK6.out.then_ hk)
        have HA8 := Lib.hid (Blk.new w7 29 #[.slice c0 x.pats.length i0, .slice c1 x.parts.length i1, .int .i64 x.table, .bool x.skip, .int .i64 x.every, .slice c5 x.edits.length i5, .slice c6 x.certs.length i6])
        have HK8 := Lib.hid (HK7.out.alloc (.cells #[.slice c0 x.pats.length i0, .slice c1 x.parts.length i1, .int .i64 x.table, .bool x.skip, .int .i64 x.every, .slice c5 x.edits.length i5, .slice c6 x.certs.length i6] 29))
        have HS8 := Lib.hid (hs.pure ((Keeps.refl (fun _ => False) w7).alloc (.cells #[.slice c0 x.pats.length i0, .slice c1 x.parts.length i1, .int .i64 x.table, .bool x.skip, .int .i64 x.every, .slice c5 x.edits.length i5, .slice c6 x.certs.length i6] 29)))
        clear hk hs
        go_wp2_with ((with_reducible refine at_op ⟨some 101, _, _, _, _, _⟩ ?_); refine wpList_load_row rfl 29 (.tmp 18) rfl (w7.heap.size) rfl 29 #[.slice c0 x.pats.length i0, .slice c1 x.parts.length i1, .int .i64 x.table, .bool x.skip, .int .i64 x.every, .slice c5 x.edits.length i5, .slice c6 x.certs.length i6] (0, 0) _ HA8.out Tryd.underlying29 rfl (by kernel_rfl) ?_)
        refine (HXR.out _ _ _ _ _ HS8.out).mono ?_
        rintro e w9 ⟨rfl, hk⟩
        have HK9 := Lib.hid (HK8.out.then_ hk)
        clear hk
        go_wp2_with (go_at_call 7; refine (HAw.out _ HK9.out).mono ?_; rintro e w10 ⟨rfl, hk⟩; have HK10 := Lib.hid (HK9.out.then_ hk); clear hk)
        go_ret
        exact ⟨rfl, HK10.out⟩

theorem sback_row (w : World) (v0 v1 v5 v6 : Value) (s : Sc) (t : ByteArray) (m : Int) (hmx : w.cell? ⟨2, 0, none⟩ = some (.int .i64 m))
    (hw : s.pats.length ≤ maxLen ∧ s.parts.length ≤ maxLen ∧ s.edits.length ≤ maxLen ∧ s.certs.length ≤ maxLen ∧ (∀ x ∈ s.pats, x.length ≤ maxLen) ∧ (∀ x ∈ s.parts, x.length ≤ maxLen)) (h : ScR w v0 v1 v5 v6 s) (hn : NumsOk s) (ht : t.size ≤ maxLen) :
    Calls Tryd.prog 5 #[scV v0 v1 v5 v6 s, .string t] w fun e w' => e = .returned (.bool true) ∧ Pure' w w' := by
  have := sback_walk v0 v1 v5 v6 s t.data.toList w m hmx h hn hw.1 hw.2.1 hw.2.2.1 hw.2.2.2.1 hw.2.2.2.2.1 hw.2.2.2.2.2 (by rw [← Lib.size_eq]; exact ht)
  rw [bytes_mk] at this
  exact this

end Go.Proofs.YtjcjmjnajhkdaaaDoor
