/- May a record stand behind the last one, by the program; no condition but the sizes. -/
import Derived.Test.YtdapjfnpnmejnaaSpF
import Derived.Test.YtdapjfnpnmejnaaGBx4
namespace Go.Proofs.Ytdapjfnpnmejnaa
open Go.RowKit Go.Proofs.YtdapjfnpnmejnaaW.PrintWords Go.Proofs.Ytdapjfnpnmejnaa.GB
set_option linter.unusedVariables false
set_option linter.unusedSimpArgs false
set_option maxRecDepth 100000

theorem two_j0 (a b : Rec) : merge_Two.j0 1 true a.kind a.n a.r a.ids b.kind b.n b.r b.ids = some (0, 0, 0, [], false) := by simp [merge_Two.j0]
theorem two_f (a b : Rec) (hl : a.ids.length + b.ids.length ≤ 1000000) : ∃ p : Int × Int × Int × List Int, merge_Two.f 1 a.kind a.n a.r a.ids b.kind b.n b.r b.ids = some (p.1, p.2.1, p.2.2.1, p.2.2.2, (twoV a b).isSome) := by
  have hno : ∀ h : ¬ ((1 ≤ a.kind ∧ a.kind ≤ 3) ∧ a.kind = b.kind ∧ a.n = b.n ∧ a.ids.length + b.ids.length = 0 ∧ 1 ≤ a.r ∧ 1 ≤ b.r ∧ isO a.r = true ∧ isO b.r = true ∧ a.r ≤ 4611686018427387903 - b.r), (twoV a b).isSome = false := fun h => by unfold twoV; rw [if_neg h]; rfl
  unfold merge_Two.f merge_runs.f
  rw [two_j0]
  by_cases h1 : a.kind ≥ 1
  · rw [if_pos h1]
    by_cases h2 : a.kind ≤ 3
    · rw [decide_eq_true h2]
      simp only [Option.bind_some, if_true]
      by_cases h3 : a.kind = b.kind
      · rw [if_pos h3]
        by_cases h4 : a.n = b.n
        · rw [if_pos h4, wrap_in (by omega) (by omega)]
          by_cases h5 : (a.ids.length : Int) + (b.ids.length : Int) > 0
          · rw [if_pos h5, hno (by omega)]
            exact ⟨(0, 0, 0, []), rfl⟩
          · rw [if_neg h5]
            by_cases h6 : a.r < 1
            · rw [if_pos h6, hno (by omega)]
              exact ⟨(0, 0, 0, []), rfl⟩
            · rw [if_neg h6]
              by_cases h7 : b.r < 1
              · rw [decide_eq_true h7, two_j0, hno (by omega)]
                exact ⟨(0, 0, 0, []), rfl⟩
              · rw [decide_eq_false h7]
                simp only [merge_Two.j0, reckon_Add.f, addP, Option.bind_some]
                rw [if_neg (by simp)]
                by_cases h8 : isO a.r = true ∧ isO b.r = true
                · rw [if_pos h8]
                  by_cases h9 : a.r > 4611686018427387903 - b.r
                  · rw [if_pos h9, if_neg (by decide), hno (by omega)]
                    exact ⟨(0, 0, 0, []), rfl⟩
                  · rw [if_neg h9, if_pos rfl]
                    have : (twoV a b).isSome = true := by unfold twoV; rw [if_pos ⟨⟨by omega, h2⟩, h3, h4, by omega, by omega, by omega, h8.1, h8.2, by omega⟩]; rfl
                    rw [this]
                    exact ⟨(a.kind, a.n, a.r + b.r, []), rfl⟩
                · rw [if_neg h8, if_neg (by decide), hno (fun h => h8 ⟨h.2.2.2.2.2.2.1, h.2.2.2.2.2.2.2.1⟩)]
                  exact ⟨(0, 0, 0, []), rfl⟩
        · rw [if_neg h4, hno (fun h => h4 h.2.2.1)]
          exact ⟨(0, 0, 0, []), rfl⟩
      · rw [if_neg h3, hno (fun h => h3 h.2.1)]
        exact ⟨(0, 0, 0, []), rfl⟩
    · rw [decide_eq_false h2, hno (fun h => h2 h.1.2)]
      exact ⟨(0, 0, 0, []), rfl⟩
  · rw [if_neg h1, hno (fun h => h1 h.1.1)]
    exact ⟨(0, 0, 0, []), rfl⟩

theorem bcell {W w1 : World} (hb : Below W.heap.size W w1) : (∀ b o, b < W.heap.size → w1.cell? ⟨b, o, none⟩ = W.cell? ⟨b, o, none⟩) ∧ (∀ b o, b < W.heap.size → w1.frozen? ⟨b, o, none⟩ = W.frozen? ⟨b, o, none⟩) :=
  ⟨fun b o h => hb.cell (p := ⟨b, o, none⟩) h, fun b o h => hb.frozen (p := ⟨b, o, none⟩) h⟩
/-- The lens at block g. -/
def LensB (w : World) (g : Nat) (rest : ByteArray) (lk ln lr : Int) (cl en : Bool) (er : Int) : Prop := Blk w g 130 #[.string rest, .int .i64 lk, .int .i64 ln, .int .i64 lr, .slice none 0 0, .bool cl, .bool en, .int .i64 er]

set_option maxHeartbeats 2000000 in
theorem fits_ (g : Nat) (rest : ByteArray) (lk ln lr : Int) (cl en : Bool) (er k n r : Int) (A : Option Addr) (c : Nat) (ids : List Int) (w : World) (hb : LensB w g rest lk ln lr cl en er) (hi : Kd.C (Kd.int .i64) w A ids.length ids) (hc : ids.length ≤ c) (hl : ids.length ≤ 1000000) :
    Calls Try.prog 152 #[.pointer (some ⟨g, 0, none⟩), .agg #[.int .i64 k, .int .i64 n, .int .i64 r, .slice A ids.length c]] w fun e w' => e = .returned (.bool (fitsV ⟨lk, ln, lr, []⟩ ⟨k, n, r, ids⟩)) ∧ Pure' w w' := by
  obtain ⟨⟨p1, p2, p3, p4⟩, hp⟩ := two_f ⟨lk, ln, lr, []⟩ ⟨k, n, r, ids⟩ (by simpa using hl)
  simp only at hp
  generalize hF : fitsV ⟨lk, ln, lr, []⟩ ⟨k, n, r, ids⟩ = F
  unfold fitsV at hF
  simp only at hF
  have hbx := hb.alloc (.cells #[.int .i64 k, .int .i64 n, .int .i64 r, .slice A ids.length c] 33)
  have hnx := Blk.new w 33 #[.int .i64 k, .int .i64 n, .int .i64 r, .slice A ids.length c]
  have hkx := (Keeps.refl (fun _ => False) w).alloc (.cells #[.int .i64 k, .int .i64 n, .int .i64 r, .slice A ids.length c] 33)
  have HI := Lib.hid (Kd.C_below hi hkx.drew.pure)
  have HI2 := Lib.hid (Kd.C_below hi (hkx.alloc (.cells #[.int .i64 0, .int .i64 0, .int .i64 0, .slice none 0 0] 33)).drew.pure)
  have HP := Lib.hid hp
  have HK := Lib.hid hkx
  have HB := Lib.hid hbx
  have HN := Lib.hid hnx
  have b1 := hbx.cell 1
  have b2 := hbx.cell 2
  have b3 := hbx.cell 3
  have b4 := hbx.cell 4
  have n0 := hnx.cell 0
  have n1 := hnx.cell 1
  have n2 := hnx.cell 2
  have n3 := hnx.cell 3
  have hlt := hb.lt
  clear hbx hnx hkx hp hb hi
  obtain ⟨ok, hok⟩ : ∃ ok, ok = (twoV ⟨lk, ln, lr, []⟩ ⟨k, n, r, ids⟩).isSome := ⟨_, rfl⟩
  rw [← hok] at HP
  obtain ⟨b5, hb5⟩ : ∃ b, b = (k != 5) := ⟨_, rfl⟩
  obtain ⟨m5, hm5⟩ : ∃ b, b = (lk != 5) := ⟨_, rfl⟩
  obtain ⟨m0, hm0⟩ : ∃ b, b = (lk != 0) := ⟨_, rfl⟩
  have HF : Hid (F = (!ok && (b5 || (m5 && m0)))) := Lib.hid (by
    rw [← hF, hb5, hm5, hm0, hok]
    have e1 : ∀ x y : Int, decide (x ≠ y) = (x != y) := fun x y => by by_cases h : x = y <;> simp [h]
    rw [e1, e1, e1]
    congr 1
    cases twoV ⟨lk, ln, lr, []⟩ ⟨k, n, r, ids⟩ <;> rfl)
  have t5 := Lib.hid hb5.symm
  have s5 := Lib.hid hm5.symm
  have s0 := Lib.hid hm0.symm
  clear hF hb5 hm5 hm0 hok
  go_enter Try.func152, Try.ntmps152
  go_upto_region 1 with fail
  go_cut [6] (fun s6 wx => s6 = .bool ok ∧ Pure' (w.alloc (.cells #[.int .i64 k, .int .i64 n, .int .i64 r, .slice A ids.length c] 33)) wx)
  case first =>
    go_region_with (go_at_call 161; (first | (refine (merge_Two.calls 1 lk ln lr none 0 [] k n r A c ids p1 p2 p3 p4 ok _ (Kd.C_nil _ _) (Nat.le_refl _) HI.out hc HP.out).mono ?_) | (refine (merge_Two.calls 1 lk ln lr none 0 [] k n r A c ids p1 p2 p3 p4 ok _ (Kd.C_nil _ _) (Nat.le_refl _) HI2.out hc HP.out).mono ?_)); rintro e w2 ⟨v3, rfl, hr, hbl⟩; obtain ⟨A0, q0, rfl⟩ := Kd.R_slice hr; obtain ⟨hcc, hff⟩ := bcell hbl; have HBL := Lib.hid (Keeps.of_below hbl); clear hr hbl)
    all_goals (go_wp2_with fail; go_meet; refine ⟨rfl, ?_⟩)
    all_goals repeat (with_reducible first | exact Keeps.refl _ _ | refine Keeps.then_ ?_ HBL.out | refine Keeps.setCell ?_ (.inr (by have := HBL.out.size; simp at this ⊢ <;> omega)) _ | refine Keeps.alloc ?_ _ | refine Keeps.drew ?_)
  case rest =>
    obtain ⟨rfl, hwc⟩ := hcut
    have HB2 := HB.out.keep hwc (fun h => h)
    have HN2 := HN.out.keep hwc (fun h => h)
    have HK2 := Lib.hid (HK.out.then_ hwc)
    have d1 := HB2.cell 1
    have e0 := HN2.cell 0
    have t5 := t5.out
    have s5 := s5.out
    have s0 := s0.out
    clear b1 b2 b3 b4 n0 n1 n2 n3 HB2 HN2 hwc
    cases ok with
    | true =>
      clear t5 s5 s0
      go_wp2
      go_ret
      exact ⟨by rw [HF.out]; rfl, HK2.out⟩
    | false =>
      have hsplit : b5 = true ∨ (b5 = false ∧ m5 = false) ∨ (b5 = false ∧ m5 = true ∧ m0 = false) ∨ (b5 = false ∧ m5 = true ∧ m0 = true) := by cases b5 <;> cases m5 <;> cases m0 <;> simp
      rcases hsplit with rfl | ⟨rfl, rfl⟩ | ⟨rfl, rfl, rfl⟩ | ⟨rfl, rfl, rfl⟩
      all_goals
        go_wp2
        go_ret
        exact ⟨by rw [HF.out]; rfl, HK2.out⟩
end Go.Proofs.Ytdapjfnpnmejnaa
