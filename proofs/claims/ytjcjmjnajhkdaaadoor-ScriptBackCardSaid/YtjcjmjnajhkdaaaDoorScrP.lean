/- A script's text, as the program prints it; no condition but the sizes. -/
import Derived.Test.YtjcjmjnajhkdaaaDoorScrK
namespace Go.Proofs.YtjcjmjnajhkdaaaDoor
open Go.RowKit
set_option linter.unusedVariables false
set_option linter.unusedSimpArgs false
set_option maxRecDepth 100000

theorem join_lines : ∀ (xs : List (List UInt8)), xs ≠ [] → Lib.join xs [10] ++ [10] = xs.flatMap (· ++ [10])
  | [], h => absurd rfl h
  | [x], _ => by rw [Lib.join_one]; simp
  | x :: y :: l, _ => by
    have e : Lib.join (x :: y :: l) [10] = x ++ [10] ++ Lib.join (y :: l) [10] := by simp [Lib.join]
    rw [e, List.append_assoc, join_lines (y :: l) (by simp)]
    simp
theorem rows_ne (s : Sc) : rowsL s ≠ [] := by unfold rowsL; simp

set_option maxHeartbeats 1000000 in
theorem print_ (v0 v1 v5 v6 : Value) (s : Sc) (w : World) (h : ScR w v0 v1 v5 v6 s) (hc : checkV s = true) (hn : NumsOk s) (hlp : ∀ p ∈ s.pats, p.length ≤ 100000) (hlq : ∀ p ∈ s.parts, p.length ≤ 100000) (hlen : (printL s).length ≤ 1048576) :
    Calls Tryd.prog 12 #[scV v0 v1 v5 v6 s] w fun e w' => e = .returned (.tuple #[.string ⟨(printL s).toArray⟩, .int .i64 0]) ∧ Pure' w w' := by
  obtain ⟨c1, c2, c3, c4, c5, c6⟩ := check_parts hc
  have hch := fun W (hW : Pure' w W) => check_ v0 v1 v5 v6 s W (h.pure hW) (by omega) (by omega) (by omega) (by omega)
  have hli := fun W (hW : Pure' w W) => lines_ v0 v1 v5 v6 s W (h.pure hW) hc hn hlp hlq
  rw [hc] at hch
  have hrl := rows_len s
  obtain ⟨nr, hnr⟩ : ∃ nr, (rowsL s).length = nr := ⟨_, rfl⟩
  have hr1 : 0 < nr := by omega
  have hr2 : nr ≤ 2000 := by
    rw [← hnr, hrl]
    split <;> omega
  have hj := join_lines (rowsL s) (rows_ne s)
  have hjl : (Lib.join (rowsL s) [10]).length ≤ 1048576 := by
    have : (Lib.join (rowsL s) [10]).length + 1 = (printL s).length := by
      unfold printL; rw [← hj]; simp
    omega
  rw [hnr] at hli
  obtain ⟨a0, k0, rfl, _⟩ := h.p0
  obtain ⟨a1, k1, rfl, _⟩ := h.p1
  obtain ⟨a5, k5, rfl, _⟩ := h.p5
  obtain ⟨a6, k6, rfl, _⟩ := h.p6
  unfold scV at hch hli ⊢
  obtain ⟨np, hnp⟩ : ∃ np, s.pats.length = np := ⟨_, rfl⟩
  obtain ⟨nq, hnq⟩ : ∃ nq, s.parts.length = nq := ⟨_, rfl⟩
  obtain ⟨ne, hne⟩ : ∃ ne, s.edits.length = ne := ⟨_, rfl⟩
  obtain ⟨nc, hnc⟩ : ∃ nc, s.certs.length = nc := ⟨_, rfl⟩
  rw [hnp, hnq, hne, hnc] at hch hli ⊢
  have HCh := Lib.hid hch
  have HLi := Lib.hid hli
  have HJ := Lib.hid hj
  have HJL := Lib.hid hjl
  have HNR := Lib.hid hnr
  have HP := Lib.hid ((Keeps.refl (fun _ => False) w).alloc (.cells #[.slice a0 np k0, .slice a1 nq k1, .int .i64 s.table, .bool s.skip, .int .i64 s.every, .slice a5 ne k5, .slice a6 nc k6] 29))
  have HB := Lib.hid (Blk.new w 29 #[.slice a0 np k0, .slice a1 nq k1, .int .i64 s.table, .bool s.skip, .int .i64 s.every, .slice a5 ne k5, .slice a6 nc k6])
  obtain ⟨pl, hpl⟩ : ∃ pl, printL s = pl := ⟨_, rfl⟩
  rw [hpl] at hlen ⊢
  have HPL := Lib.hid hpl
  have HJN : Hid (∀ (bk c : Nat) (W : World), Row W 9 1 (.slice (some ⟨bk, 0, none⟩) nr c) nr (strVs (rowsL s)) → nr ≤ c → bk < W.heap.size → Calls Tryd.prog 26 #[.slice (some ⟨bk, 0, none⟩) nr c, .string ⟨#[10]⟩] W fun e w' => e = .returned (.string ⟨(Lib.join (rowsL s) [10]).toArray⟩) ∧ Pure' W w') := Lib.hid (by
    intro bk c W hr hcap hbk
    have e1 : ((rowsL s).map (fun x => (⟨x.toArray⟩ : ByteArray))).length = nr := by rw [List.length_map]; exact hnr
    have e2 : ((rowsL s).map (fun x => (⟨x.toArray⟩ : ByteArray))).map (·.data.toList) = rowsL s := by
      rw [List.map_map]; exact (List.map_congr_left fun z _ => by simp).trans (List.map_id _)
    have := Tryd.strings_Join bk 0 c ((rowsL s).map (fun x => (⟨x.toArray⟩ : ByteArray))) ⟨#[10]⟩ W (fun j x hx => by
      rw [Nat.zero_add]
      refine hr.cell ?_
      unfold strVs
      rw [List.getElem?_map, hx]; rfl) hbk (by rw [e1]; omega) (by rw [e1]; exact hcap) (by rw [e2]; show (Lib.join (rowsL s) [10]).length ≤ _; omega)
    rw [e1, e2] at this
    exact this.mono fun e w' hk => ⟨hk.1, Keeps.of_below hk.2⟩)
  have hjl1 : (Lib.join (rowsL s) [10]).length + 1 ≤ 1048576 := by
    have : (Lib.join (rowsL s) [10]).length + 1 = (printL s).length := by
      unfold printL; rw [← hj]; simp
    rw [hpl] at this
    omega
  have HPV := Lib.hid (show ((⟨(Lib.join (rowsL s) [10]).toArray⟩ : ByteArray) ++ ⟨#[10]⟩) = ⟨pl.toArray⟩ by
    rw [← hpl]; unfold printL; rw [← hj]; exact bytes_eq (by simp))
  generalize Lib.join (rowsL s) [10] = jn0 at *
  have hpl2 : ¬ 1048576 < (pl.length : Int) := by omega
  clear hch hli hj hjl hnr hrl hpl hnp hnq hne hnc c1 c2 c3 c4 c5 c6 hc hn hlp hlq h
  go_enter Tryd.func12, Tryd.ntmps12
  go_wp2_with fail
  refine (HCh.out _ HP.out).mono ?_
  rintro e w1 ⟨rfl, hk⟩
  have HK1 := Lib.hid (HP.out.then_ hk)
  have HB1 := Lib.hid (HB.out.keep hk (fun hf => hf))
  clear hk
  go_wp2_with ((with_reducible refine at_op ⟨some 8, _, _, _, _, _⟩ ?_); refine wpList_load_row rfl 29 (.tmp 1) rfl w.heap.size rfl 29 #[.slice a0 np k0, .slice a1 nq k1, .int .i64 s.table, .bool s.skip, .int .i64 s.every, .slice a5 ne k5, .slice a6 nc k6] (0, 0) _ HB1.out Tryd.underlying29 rfl (by kernel_rfl) ?_; go_wp2_with fail)
  refine (HLi.out _ HK1.out).mono ?_
  rintro e w2 ⟨v, rfl, hr, hk⟩
  obtain ⟨gj, cj, rfl, hj1, hj2⟩ := hr.some_ hr1
  have HRj := Lib.hid hr
  have HK2 := Lib.hid (HK1.out.then_ hk)
  clear hk hr
  go_wp2_with fail
  refine (HJN.out gj cj _ HRj.out hj2 hj1).mono ?_
  rintro e w3 ⟨rfl, hk⟩
  have HK3 := Lib.hid (HK2.out.then_ hk)
  clear hk
  have hq1 : (jn0.length : Int) + 1 ≤ 1048576 := by omega
  have hq3 : (jn0.length : Int) ≤ 1048575 := by omega
  clear hpl2 hlen hjl1
  go_upto_if 14 with fail
  have hb : decide (1048576 < (jn0.length : Int) + 1) = false := by
    rw [decide_eq_false_iff_not]
    omega
  rw [hb]
  clear hb hq1 hq3
  go_wp2
  go_ret2
  rw [HPV.out]
  exact ⟨rfl, HK3.out⟩

set_option maxHeartbeats 1000000 in
theorem print_no (v0 v1 v5 v6 : Value) (s : Sc) (w : World) (h : ScR w v0 v1 v5 v6 s) (hc : checkV s = false) (h0 : s.pats.length ≤ 100000) (h1 : s.parts.length ≤ 100000) (h5 : s.edits.length ≤ 100000) (h6 : s.certs.length ≤ 100000) :
    Calls Tryd.prog 12 #[scV v0 v1 v5 v6 s] w fun e w' => e = .returned (.tuple #[.string ⟨#[]⟩, .int .i64 2]) ∧ Pure' w w' := by
  have hch := fun W (hW : Pure' w W) => check_ v0 v1 v5 v6 s W (h.pure hW) h0 h1 h5 h6
  rw [hc] at hch
  obtain ⟨a0, k0, rfl, _⟩ := h.p0
  obtain ⟨a1, k1, rfl, _⟩ := h.p1
  obtain ⟨a5, k5, rfl, _⟩ := h.p5
  obtain ⟨a6, k6, rfl, _⟩ := h.p6
  unfold scV at hch ⊢
  generalize s.pats.length = np at *
  generalize s.parts.length = nq at *
  generalize s.edits.length = ne at *
  generalize s.certs.length = nc at *
  have HCh := Lib.hid hch
  have HP := Lib.hid ((Keeps.refl (fun _ => False) w).alloc (.cells #[.slice a0 np k0, .slice a1 nq k1, .int .i64 s.table, .bool s.skip, .int .i64 s.every, .slice a5 ne k5, .slice a6 nc k6] 29))
  clear hch hc h
  go_enter Tryd.func12, Tryd.ntmps12
  go_wp2_with fail
  refine (HCh.out _ HP.out).mono ?_
  rintro e w1 ⟨rfl, hk⟩
  have HK1 := Lib.hid (HP.out.then_ hk)
  clear hk
  go_wp2
  go_ret2
  exact ⟨rfl, HK1.out⟩

end Go.Proofs.YtjcjmjnajhkdaaaDoor
