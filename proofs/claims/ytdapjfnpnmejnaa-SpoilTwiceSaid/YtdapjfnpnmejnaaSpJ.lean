/- The next record of a lens that is closed, and what the lens holds behind it, by the program; no condition but the sizes. -/
import Derived.Test.YtdapjfnpnmejnaaSpI
namespace Go.Proofs.Ytdapjfnpnmejnaa
open Go.RowKit Go.Proofs.YtdapjfnpnmejnaaW.PrintWords Go.Proofs.Ytdapjfnpnmejnaa.GB
set_option linter.unusedVariables false
set_option linter.unusedSimpArgs false
set_option maxRecDepth 100000

theorem Keeps.setG {g : Nat} {w w1 : World} (h : Keeps (fun x => x = g) w w1) (i : Nat) (u : Value) : Keeps (fun x => x = g) w (w1.setCell ⟨g, i, none⟩ u) := h.setCell (.inl rfl) u
theorem Keeps.setL {g : Nat} {S : Nat → Prop} {w w1 : World} (h : Keeps (fun x => x = g ∨ S x) w w1) (i : Nat) (u : Value) : Keeps (fun x => x = g ∨ S x) w (w1.setCell ⟨g, i, none⟩ u) := h.setCell (.inl (.inl rfl)) u
theorem Keeps.setR {g : Nat} {S : Nat → Prop} {w w1 : World} (h : Keeps (fun x => S x ∨ x = g) w w1) (i : Nat) (u : Value) : Keeps (fun x => S x ∨ x = g) w (w1.setCell ⟨g, i, none⟩ u) := h.setCell (.inl (.inr rfl)) u
theorem Keeps.setN {b : Nat} {S : Nat → Prop} {w w1 : World} (h : Keeps S w w1) (hb : w.heap.size ≤ b) (i : Nat) (u : Value) : Keeps S w (w1.setCell ⟨b, i, none⟩ u) := h.setCell (.inr hb) u
theorem R_keepsT {α : Type} {d : Kd α} {e : Nat} {w w1 : World} {base : Nat} {ok : Nat → Prop} {v : Value} {xs : List α} {S : Nat → Prop} (h : d.R e w base ok v xs) (hk : Keeps S w w1) (hS : ∀ b, S b → ∃ t cells, w.heap[b]? = some (.cells cells t (0, 0)) ∧ ∀ q, q ∈ e :: d.E → q ≠ t) : d.R e w1 base ok v xs :=
  Kd.R_mono (Kd.R_step (Kd.R_bound h) (fun k h2 hlt => hk.block k hlt (fun hs => by
    obtain ⟨_, _, _, q, hq, cells, hc⟩ := h2
    obtain ⟨t, cells', hc', ht⟩ := hS k hs
    rw [hc] at hc'
    injection hc' with hc'
    injection hc' with _ hc'
    exact ht q hq hc'))) (fun _ h => h.1)
/-- What comes of a lens's next record. -/
def NextPost (g : Nat) (q : Int × Int × Int × List Int) (ok : Bool) (er : Int) (rest : ByteArray) (lk ln lr : Int) (en : Bool) (w : World) (e : Ending) (w' : World) : Prop :=
  ∃ v : Value, e = .returned (.tuple #[.agg #[.int .i64 q.1, .int .i64 q.2.1, .int .i64 q.2.2.1, v], .bool ok, .int .i64 er]) ∧ Kd.R (Kd.int .i64) 3 w' w.heap.size (fun _ => True) v q.2.2.2 ∧ Keeps (fun x => x = g) w w' ∧ LensB w' g rest lk ln lr true en er
theorem ltake_ (g : Nat) (rest : ByteArray) (lk ln lr : Int) (en : Bool) (w : World) (hb : LensB w g rest lk ln lr true en 0) (hs : rest.size ≤ 1000000) :
    Calls Try.prog 125 #[.pointer (some ⟨g, 0, none⟩)] w fun e w' => RTakePost (takeTup rest.data.toList ⟨lk, ln, lr, []⟩ en) w e w' := by
  cases en with
  | true => exact ltake_end g rest lk ln lr w hb
  | false => exact ltake_more g rest lk ln lr w hb hs

set_option maxHeartbeats 4000000 in
theorem next_no (g : Nat) (rest : ByteArray) (lk ln lr er : Int) (en : Bool) (pz : Int) (w : World) (hb : LensB w g rest lk ln lr true en 0) (hs : rest.size ≤ 1000000) (hp : takeTup rest.data.toList ⟨lk, ln, lr, []⟩ en = (0, 0, 0, [], pz, er)) (hz : pz = 0) :
    Calls Try.prog 93 #[.pointer (some ⟨g, 0, none⟩)] w fun e w' => NextPost g (0, 0, 0, []) false er rest lk ln lr en w e w' := by
  have HK := Lib.hid ((Keeps.refl (fun _ => False) w).alloc (.cells #[.int .i64 0, .int .i64 0, .int .i64 0, .slice none 0 0] 33))
  have hlt := hb.lt
  have HB := Lib.hid (hb.alloc (.cells #[.int .i64 0, .int .i64 0, .int .i64 0, .slice none 0 0] 33))
  have HN := Lib.hid (Blk.new w 33 #[.int .i64 0, .int .i64 0, .int .i64 0, .slice none 0 0])
  have HT := Lib.hid (fun W h => ltake_ g rest lk ln lr en W h hs)
  rw [hp] at HT
  subst hz
  clear hb hp
  obtain ⟨be, hbe⟩ : ∃ b, b = (er != 0) := ⟨_, rfl⟩
  have te := hbe.symm
  clear hbe
  cases be
  all_goals
    go_enter Try.func93, Try.ntmps93
    go_wp2_with fail
    refine (HT.out _ HB.out).mono ?_
    rintro e w2 ⟨v, rfl, hr, hbl⟩
    obtain ⟨A0, q0, rfl⟩ := Kd.R_slice hr
    simp only at hr ⊢
    have hp2 := Keeps.of_below hbl
    have HB2 := Lib.hid (HB.out.keep hp2 (fun h => h))
    have HN2 := Lib.hid (HN.out.keep hp2 (fun h => h))
    have HK2 := Lib.hid (HK.out.then_ hp2)
    have c7 := HB2.out.cell 7
    have g7 := HB2.out.frozen 7
    have d0 := HN2.out.cell 0
    have d1 := HN2.out.cell 1
    have d2 := HN2.out.cell 2
    have d3 := HN2.out.cell 3
    have f0 := HN2.out.frozen 0
    have f1 := HN2.out.frozen 1
    have f2 := HN2.out.frozen 2
    have f3 := HN2.out.frozen 3
    have hsz2 := Nat.lt_of_lt_of_le HN.out.lt hp2.size
    have hlt2 := HB2.out.lt
    clear hr hbl hp2
    go_wp2
    refine bodyPost_ret (v := .tuple #[.agg #[.int .i64 0, .int .i64 0, .int .i64 0, .slice none 0 0], .bool false, .int .i64 er]) (by simp [results, Try.results93, go_sem, d0, d1, d2, d3, hsz2] <;> omega) rfl ⟨_, rfl, Kd.R_nil _ _ _ _ _, ?_, ?_⟩
    · repeat (with_reducible first | exact HK2.out.mono (fun _ _ h => h.elim) | refine Keeps.alloc ?_ _ | refine Keeps.setG ?_ _ _ | refine Keeps.setN ?_ (Nat.le_refl _) _ _)
    · unfold LensB
      apply Blk.to
      · repeat (with_reducible first | exact HB2.out | apply Blk.alloc | apply Blk.set_ | apply Blk.off (Nat.ne_of_lt hlt))
      · simp

set_option maxHeartbeats 4000000 in
theorem next_rec (g : Nat) (rest : ByteArray) (lk ln lr : Int) (k n r : Int) (ids : List Int) (z : Nat) (w : World) (hb : LensB w g rest lk ln lr true false 0) (hs : rest.size ≤ 1000000) (hp : takeTup rest.data.toList ⟨lk, ln, lr, []⟩ false = (k, n, r, ids, (z : Int), 0)) (hz : 1 ≤ z) (hz2 : z ≤ rest.size) :
    Calls Try.prog 93 #[.pointer (some ⟨g, 0, none⟩)] w fun e w' => NextPost g (k, n, r, ids) true 0 (rest.extract z rest.size) k n r (k == 6) w e w' := by
  have HK := Lib.hid ((Keeps.refl (fun _ => False) w).alloc (.cells #[.int .i64 0, .int .i64 0, .int .i64 0, .slice none 0 0] 33))
  have hlt := hb.lt
  have HB := Lib.hid (hb.alloc (.cells #[.int .i64 0, .int .i64 0, .int .i64 0, .slice none 0 0] 33))
  have HN := Lib.hid (Blk.new w 33 #[.int .i64 0, .int .i64 0, .int .i64 0, .slice none 0 0])
  have HT := Lib.hid (fun W h => ltake_ g rest lk ln lr false W h hs)
  rw [hp] at HT
  clear hb hp
  have tz : ((z : Int) == 0) = false := by rw [beq_eq_false_iff_ne]; omega
  have z1 : (0 : Int) ≤ (z : Int) := by omega
  have z2 : (z : Int) ≤ (rest.size : Int) := by omega
  obtain ⟨b6, hb6⟩ : ∃ b, b = (k == 6) := ⟨_, rfl⟩
  have t6 := hb6.symm
  rw [t6]
  clear hb6
  go_enter Try.func93, Try.ntmps93
  go_wp2_with fail
  refine (HT.out _ HB.out).mono ?_
  rintro e w2 ⟨v, rfl, hr, hbl⟩
  obtain ⟨A0, q0, rfl⟩ := Kd.R_slice hr
  simp only at hr ⊢
  have HR2 := Lib.hid hr
  have hp2 := Keeps.of_below hbl
  have HB2 := Lib.hid (HB.out.keep hp2 (fun h => h))
  have HN2 := Lib.hid (HN.out.keep hp2 (fun h => h))
  have HK2 := Lib.hid (HK.out.then_ hp2)
  have c0 := HB2.out.cell 0
  have c1 := HB2.out.cell 1
  have c2 := HB2.out.cell 2
  have c3 := HB2.out.cell 3
  have c4 := HB2.out.cell 4
  have c6 := HB2.out.cell 6
  have c7 := HB2.out.cell 7
  have g0 := HB2.out.frozen 0
  have g1 := HB2.out.frozen 1
  have g2 := HB2.out.frozen 2
  have g3 := HB2.out.frozen 3
  have g4 := HB2.out.frozen 4
  have g6 := HB2.out.frozen 6
  have g7 := HB2.out.frozen 7
  have d0 := HN2.out.cell 0
  have d1 := HN2.out.cell 1
  have d2 := HN2.out.cell 2
  have d3 := HN2.out.cell 3
  have f0 := HN2.out.frozen 0
  have f1 := HN2.out.frozen 1
  have f2 := HN2.out.frozen 2
  have f3 := HN2.out.frozen 3
  have hsz2 := Nat.lt_of_lt_of_le HN.out.lt hp2.size
  have hlt2 := HB2.out.lt
  clear hr hbl hp2
  go_wp2
  refine bodyPost_ret (v := .tuple #[.agg #[.int .i64 k, .int .i64 n, .int .i64 r, .slice A0 ids.length q0], .bool true, .int .i64 0]) (by simp [results, Try.results93, go_sem, d0, d1, d2, d3, hsz2] <;> omega) rfl ⟨_, rfl, ?_, ?_, ?_⟩
  · refine Kd.R_lower (R_keepsT (S := fun x => x = g ∨ x = w.heap.size) HR2.out ?_ ?_) (by simp)
    · repeat (with_reducible first | exact Keeps.refl _ _ | refine Keeps.alloc ?_ _ | refine Keeps.setL ?_ _ _ | refine Keeps.setR ?_ _ _)
    · rintro b (rfl | rfl)
      · exact ⟨_, _, HB2.out, by decide⟩
      · exact ⟨_, _, HN2.out, by decide⟩
  · repeat (with_reducible first | exact HK2.out.mono (fun _ _ h => h.elim) | refine Keeps.alloc ?_ _ | refine Keeps.setG ?_ _ _ | refine Keeps.setN ?_ (Nat.le_refl _) _ _)
  · unfold LensB
    apply Blk.to
    · repeat (with_reducible first | exact HB2.out | apply Blk.alloc | apply Blk.set_ | apply Blk.off (Nat.ne_of_lt hlt))
    · simp
end Go.Proofs.Ytdapjfnpnmejnaa
