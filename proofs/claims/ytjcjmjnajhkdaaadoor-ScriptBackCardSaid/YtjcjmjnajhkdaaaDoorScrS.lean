/- The law that both parse as one; no condition but the card's cell. -/
import Derived.Test.YtjcjmjnajhkdaaaDoorScrR
namespace Go.Proofs.YtjcjmjnajhkdaaaDoor
open Go.RowKit
set_option linter.unusedVariables false
set_option linter.unusedSimpArgs false
set_option maxRecDepth 100000

/-- How long the lists of a script are that is parsed. -/
theorem parse_sizes (t : List UInt8) : (parseS t).1.pats.length ≤ 100000 ∧ (parseS t).1.parts.length ≤ 100000 ∧ (parseS t).1.edits.length ≤ 100000 ∧ (parseS t).1.certs.length ≤ 100000 := by
  have key : ∀ (ls : List (List UInt8)) (s : Sc) (sc cc : Bool) (n no z : Nat), Fine s sc cc n z → n ≤ 400 → (parseGo s sc cc n no ls).1.pats.length ≤ 100000 ∧ (parseGo s sc cc n no ls).1.parts.length ≤ 100000 ∧ (parseGo s sc cc n no ls).1.edits.length ≤ 100000 ∧ (parseGo s sc cc n no ls).1.certs.length ≤ 100000 := by
    intro ls
    induction ls with
    | nil =>
      intro s sc cc n no z h hn
      rw [parseGo]
      have h1 := h.count
      have h2 := h.few
      split
      · refine ⟨?_, ?_, ?_, ?_⟩ <;> (dsimp only; omega)
      · simp [sc0]
    | cons l ls ih =>
      intro s sc cc n no z h hn
      rw [parseGo]
      split
      · exact ih _ _ _ _ _ _ h hn
      · split
        · simp [sc0]
        · cases hl : lineV s sc cc (wordsL l) with
          | none => simp [sc0]
          | some st =>
            obtain ⟨s1, sc1, cc1⟩ := st
            exact ih _ _ _ _ _ _ (fine_line h hl) (by omega)
  exact key _ _ _ _ _ _ 0 fine0 (by omega)

set_option maxHeartbeats 1000000 in
theorem sparses_walk (t : List UInt8) (w : World) (m : Int) (hmx : w.cell? ⟨2, 0, none⟩ = some (.int .i64 m)) (hs : t.length ≤ maxLen) : Calls Tryd.prog 3 #[.string ⟨t.toArray⟩] w fun e w' => e = .returned (.bool true) ∧ Pure' w w' := by
  have HAw := Lib.hid (fun W (hW : Pure' w W) => awake43 W m (keepc hmx hW))
  by_cases h6 : 600 < t.length
  · have hq : 600 < (t.length : Int) := by omega
    clear hmx hs
    go_enter Tryd.func3, Tryd.ntmps3
    go_wp2_with (go_at_call 7; refine (HAw.out _ (Keeps.refl _ _)).mono ?_; rintro e w1 ⟨rfl, hk⟩; have HK1 := Lib.hid hk; clear hk)
    go_ret
    exact ⟨rfl, HK1.out⟩
  · have hp := parseS_ t w (by omega) m hmx
    have hr := fun W => rparseS_ t W (by omega)
    have hz := parse_sizes t
    unfold ParsePost at hp hr
    obtain ⟨pr, hpr⟩ : ∃ pr, parseS t = pr := ⟨_, rfl⟩
    obtain ⟨s, a, b⟩ := pr
    rw [hpr] at hp hr hz
    dsimp only at hp hr hz
    obtain ⟨z0, z1, z5, z6⟩ := hz
    have HP := Lib.hid hp
    have HR := Lib.hid hr
    have hq : ¬ 600 < (t.length : Int) := by omega
    clear hp hr hpr hmx hs
    go_enter Tryd.func3, Tryd.ntmps3
    go_wp2_with fail
    refine HP.out.mono ?_
    rintro e w1 ⟨v0, v1, v5, v6, rfl, hsr, hk⟩
    have HK1 := Lib.hid hk
    have HS1 := Lib.hid hsr
    obtain ⟨b0, j0, rfl, _⟩ := hsr.p0
    obtain ⟨b1, j1, rfl, _⟩ := hsr.p1
    obtain ⟨b5, j5, rfl, _⟩ := hsr.p5
    obtain ⟨b6, j6, rfl, _⟩ := hsr.p6
    clear hk hsr HP
    unfold scV
    have HB1 := Lib.hid (Blk.new w1 29 #[.slice b0 s.pats.length j0, .slice b1 s.parts.length j1, .int .i64 s.table, .bool s.skip, .int .i64 s.every, .slice b5 s.edits.length j5, .slice b6 s.certs.length j6])
    have HP1 := Lib.hid ((Keeps.refl (fun _ => False) w1).alloc (.cells #[.slice b0 s.pats.length j0, .slice b1 s.parts.length j1, .int .i64 s.table, .bool s.skip, .int .i64 s.every, .slice b5 s.edits.length j5, .slice b6 s.certs.length j6] 29))
    go_wp2_with fail
    refine (HR.out _).mono ?_
    rintro e w2 ⟨v0, v1, v5, v6, rfl, hsr, hk⟩
    have HK2 := Lib.hid (HP1.out.then_ hk)
    have HB2 := Lib.hid (HB1.out.keep hk (fun hf => hf))
    have HS2 := Lib.hid hsr
    obtain ⟨c0, i0, rfl, _⟩ := hsr.p0
    obtain ⟨c1, i1, rfl, _⟩ := hsr.p1
    obtain ⟨c5, i5, rfl, _⟩ := hsr.p5
    obtain ⟨c6, i6, rfl, _⟩ := hsr.p6
    clear hk hsr HR HB1 HP1
    unfold scV
    have HB3 := Lib.hid (HB2.out.alloc (.cells #[.slice c0 s.pats.length i0, .slice c1 s.parts.length i1, .int .i64 s.table, .bool s.skip, .int .i64 s.every, .slice c5 s.edits.length i5, .slice c6 s.certs.length i6] 35))
    have HC3 := Lib.hid (Blk.new w2 35 #[.slice c0 s.pats.length i0, .slice c1 s.parts.length i1, .int .i64 s.table, .bool s.skip, .int .i64 s.every, .slice c5 s.edits.length i5, .slice c6 s.certs.length i6])
    have HP3 := Lib.hid ((Keeps.refl (fun _ => False) w2).alloc (.cells #[.slice c0 s.pats.length i0, .slice c1 s.parts.length i1, .int .i64 s.table, .bool s.skip, .int .i64 s.every, .slice c5 s.edits.length i5, .slice c6 s.certs.length i6] 35))
    have HSm := Lib.hid (fun W (hW : Pure' w2 W) => by
      have := sameS_ _ _ _ _ _ _ _ _ s W ((HS1.out.pure HK2.out).pure hW) (HS2.out.pure hW) z0 z1 z5 z6
      unfold scV at this
      exact this)
    clear HB2
    go_wp2_with (first
      | ((with_reducible refine at_op ⟨some 25, _, _, _, _, _⟩ ?_); refine wpList_load_row rfl 29 (.tmp 3) rfl w1.heap.size rfl 29 #[.slice b0 s.pats.length j0, .slice b1 s.parts.length j1, .int .i64 s.table, .bool s.skip, .int .i64 s.every, .slice b5 s.edits.length j5, .slice b6 s.certs.length j6] (0, 0) _ HB3.out Tryd.underlying29 rfl (by kernel_rfl) ?_)
      | ((with_reducible refine at_op ⟨some 26, _, _, _, _, _⟩ ?_); refine wpList_load_row rfl 35 (.tmp 6) rfl w2.heap.size rfl 35 #[.slice c0 s.pats.length i0, .slice c1 s.parts.length i1, .int .i64 s.table, .bool s.skip, .int .i64 s.every, .slice c5 s.edits.length i5, .slice c6 s.certs.length i6] (0, 0) _ HC3.out Tryd.underlying35 rfl (by kernel_rfl) ?_)
      | (go_at_call 10; refine (HSm.out _ HP3.out).mono ?_; rintro e w3 ⟨rfl, hk⟩; have HK3 := Lib.hid ((HK1.out.then_ HK2.out).then_ (HP3.out.then_ hk)); clear hk)
      | (go_at_call 7; refine (HAw.out _ HK3.out).mono ?_; rintro e w4 ⟨rfl, hk⟩; have HK4 := Lib.hid (HK3.out.then_ hk); clear hk))
    go_ret
    exact ⟨rfl, HK4.out⟩

theorem sparses_row (w : World) (s : ByteArray) (m : Int) (hmx : w.cell? ⟨2, 0, none⟩ = some (.int .i64 m)) (hs : s.size ≤ maxLen) :
    Calls Tryd.prog 3 #[.string s] w fun e w' => e = .returned (.bool true) ∧ Pure' w w' :=
  sparses_walk s.data.toList w m hmx (by rw [← Lib.size_eq]; exact hs)

end Go.Proofs.YtjcjmjnajhkdaaaDoor
