/- How a script's reader takes a line of an edit; no condition but the sizes. -/
import Derived.Test.YtjcjmjnajhkdaaaDoorScrB
namespace Go.Proofs.YtjcjmjnajhkdaaaDoor
open Go.RowKit
set_option linter.unusedVariables false
set_option linter.unusedSimpArgs false
set_option maxRecDepth 100000

/-- A script's reader, with its rows. -/
structure Rd (w : World) (F b : Nat) (v0 v1 v5 v6 : Value) (s : Sc) (x y : Int) : Prop where
  blk : RdB w b v0 v1 v5 v6 s x y
  r0 : Row w 9 1 v0 s.pats.length (strVs s.pats)
  r1 : Row w 9 1 v1 s.parts.length (strVs s.parts)
  r5 : Row w 61 3 v5 s.edits.length (edVs s.edits)
  r6 : Row w 3 1 v6 s.certs.length (s.certs.map (Value.int .i64))
  f0 : ∀ k, v0.ownBlock = some k → F ≤ k
  f1 : ∀ k, v1.ownBlock = some k → F ≤ k
  f5 : ∀ k, v5.ownBlock = some k → F ≤ k
  f6 : ∀ k, v6.ownBlock = some k → F ≤ k
  apart : ∀ k, v0.ownBlock = some k → v1.ownBlock ≠ some k
  lt : b < F

theorem edInfo : (Tryd.prog.info? 61).map (fun i => (i.zero, i.size, i.bytes)) = some (some (.agg #[.int .i64 0, .int .i64 0, .int .i64 0]), 3, 24) := by kernel_rfl


/-- An edit, out of a line's words. -/
def spoilV (s : Sc) : List (List UInt8) → Option Sc
  | [a, b, c, d] => if (parseV c iMin iMax).2 = 0 ∧ (parseV d iMin iMax).2 = 0 ∧ 0 < idx kindW b then some { s with edits := s.edits ++ [(idx kindW b, (parseV c iMin iMax).1, (parseV d iMin iMax).1)] } else none
  | _ => none
def SpoilPost (b : Nat) (v0 v1 v5 v6 : Value) (s : Sc) (x y : Int) (ws : List (List UInt8)) (w : World) (e : Ending) (w' : World) : Prop :=
  Keeps (fun k => k = b ∨ v5.ownBlock = some k) w w' ∧ match spoilV s ws with
    | some s' => e = .returned (.bool true) ∧ ∃ v5', RdB w' b v0 v1 v5' v6 s' x y ∧ Row w' 61 3 v5' s'.edits.length (edVs s'.edits) ∧ ∀ k, v5'.ownBlock = some k → v5.ownBlock = some k ∨ w.heap.size ≤ k
    | none => e = .returned (.bool false)

set_option maxHeartbeats 4000000 in
theorem spoil_ (b : Nat) (v0 v1 v5 v6 : Value) (s : Sc) (x y : Int) (A : Option Addr) (n c B : Nat) (ws : List (List UInt8)) (w : World) (h : RdB w b v0 v1 v5 v6 s x y) (h5 : Row w 61 3 v5 s.edits.length (edVs s.edits)) (h5b : v5.ownBlock ≠ some b)
    (hs : Sees w B 1 A n (strVs ws)) (hA : ∀ ad, A = some ad → ∃ g, ad = ⟨g, 0, none⟩ ∧ g ≠ b) (hn : n ≤ 1000000) (hl : ∀ a ∈ ws, a.length ≤ 100000) (h400 : s.edits.length ≤ 100000) :
    Calls Tryd.prog 44 #[.pointer (some ⟨b, 0, none⟩), .slice A n c] w fun e w' => SpoilPost b v0 v1 v5 v6 s x y ws w e w' := by
  obtain ⟨i0, hi, hz0, hz1, hz2⟩ := info_parts edInfo
  by_cases h4 : n ≠ 4
  · have hv : spoilV s ws = none := by
      have hlen := hs.1
      rw [strVs_len] at hlen
      unfold spoilV
      split
      · simp at hlen; omega
      · rfl
    have q1 : ((n : Int) != 4) = true := by simp; omega
    unfold SpoilPost
    rw [hv]
    clear hs hl
    go_enter Tryd.func44, Tryd.ntmps44
    go_wp2
    go_ret
    exact ⟨Keeps.refl _ _, rfl⟩
  obtain rfl : n = 4 := by omega
  obtain ⟨ws0, ws1, ws2, ws3, rfl⟩ : ∃ a b c d, ws = [a, b, c, d] := by
    have hlen := hs.1
    rw [strVs_len] at hlen
    match ws, hlen with
    | [a, b, c, d], _ => exact ⟨a, b, c, d, rfl⟩
  obtain ⟨ad, _, rfl, _, _⟩ := word_at hs (show 0 < 4 by decide)
  have cell : ∀ (j : Nat) (z : List UInt8), j < 4 → [ws0, ws1, ws2, ws3][j]? = some z → w.cell? (ad.add j) = some (.string ⟨z.toArray⟩) := by
    intro j z hj hz
    obtain ⟨ad', x', e, hx', hc⟩ := word_at hs hj
    cases e
    rw [hx'] at hz; cases hz; exact hc
  obtain ⟨g, rfl, hab⟩ := hA ad rfl
  have c1 := cell 1 ws1 (by decide) rfl
  rw [add_flat] at c1
  have c2 := cell 2 ws2 (by decide) rfl
  rw [add_flat] at c2
  have c3 := cell 3 ws3 (by decide) rfl
  rw [add_flat] at c3
  clear cell
  obtain ⟨pc, hpc⟩ : ∃ pc, parseV ws2 iMin iMax = pc := ⟨_, rfl⟩
  obtain ⟨z1, e1⟩ := pc
  obtain ⟨pd, hpd⟩ : ∃ pd, parseV ws3 iMin iMax = pd := ⟨_, rfl⟩
  obtain ⟨z2, e2⟩ := pd
  have hp1 := fun w => parse_ ws2 iMin iMax w (by have := hl ws2 (by simp); omega) (by decide) (by decide)
  have hp2 := fun w => parse_ ws3 iMin iMax w (by have := hl ws3 (by simp); omega) (by decide) (by decide)
  rw [show parseR ws2 iMin iMax = .tuple #[.int .i64 z1, .int .i64 e1] by unfold parseR; rw [hpc]] at hp1
  rw [show parseR ws3 iMin iMax = .tuple #[.int .i64 z2, .int .i64 e2] by unfold parseR; rw [hpd]] at hp2
  obtain ⟨tk, htk⟩ : ∃ tk, idx kindW ws1 = tk := ⟨_, rfl⟩
  have HV : Hid (spoilV s [ws0, ws1, ws2, ws3] = if e1 = 0 ∧ e2 = 0 ∧ 0 < tk then some { s with edits := s.edits ++ [(tk, z1, z2)] } else none) := Lib.hid (by
    unfold spoilV
    dsimp only
    rw [hpc, hpd, htk])
  have HC := Lib.hid (fun W (hW : Pure' w W) => (⟨keepc c1 hW, keepc c2 hW, keepc c3 hW⟩ : W.cell? ⟨g, 1, none⟩ = some (.string ⟨ws1.toArray⟩) ∧ W.cell? ⟨g, 2, none⟩ = some (.string ⟨ws2.toArray⟩) ∧ W.cell? ⟨g, 3, none⟩ = some (.string ⟨ws3.toArray⟩)))
  have HP1 := Lib.hid hp1
  have HP2 := Lib.hid hp2
  have HB := Lib.hid h
  have H5 := Lib.hid h5
  have hlt := h.lt
  have HT := Lib.hid kinds_
  have HI := Lib.hid index_
  have HTK := Lib.hid htk
  clear hp1 hp2 hpc hpd hl h h5 htk hs
  go_enter Tryd.func44, Tryd.ntmps44
  go_wp2
  go_region_with (first
    | (go_at_call 57; refine (HT.out _).mono ?_; rintro e w2 ⟨A2, cc2, rfl, hs2, hk2⟩; have HS2 := Lib.hid hs2; have HK2 := Lib.hid (((Keeps.refl (fun _ => False) w).drew).then_ hk2); obtain ⟨k1, k2, k3⟩ := HC.out w2 HK2.out; clear hs2 hk2)
    | (go_at_call 68; refine (HI.out _ _ _ _ kindW ws1 _ HS2.out (by decide)).mono ?_; rintro e w3 ⟨rfl, rfl⟩; rw [HTK.out]))
  · go_wp2_with (first
      | (go_at_call 67; refine (HP1.out _).mono ?_; rintro e w4 ⟨rfl, hk⟩; have HK4 := Lib.hid (HK2.out.then_ hk); obtain ⟨m1, m2, m3⟩ := HC.out w4 HK4.out; clear hk HP1)
      | (go_at_call 67; refine (HP2.out _).mono ?_; rintro e w5 ⟨rfl, hk⟩; have HK5 := Lib.hid (HK4.out.then_ hk); have HB5 := Lib.hid (HB.out.keep HK5.out (fun hf => hf)); have H55 := Lib.hid (H5.out.keep HK5.out (fun _ _ hf => hf)); have x5 := HB5.out.cell 5; have y5 := HB5.out.frozen 5; clear hk)
      | (at_builtin; refine wpl_append _ rfl (.tmp 37) (.tmp 42) 26 rfl 61 i0 (.agg #[.int .i64 0, .int .i64 0, .int .i64 0]) 3 24 Tryd.underlying26 hi hz0 hz1 hz2 rfl (by decide) v5 s.edits.length (edVs s.edits) rfl ?own ⟨w5.heap.size, 0, none⟩ 1 1 [.int .i64 tk, .int .i64 z1, .int .i64 z2] rfl rfl ?news ?one (by decide) ?b1 ?b2 ?k))
    case own => exact Row.alloc H55.out _
    case news =>
      intro j u hu
      rw [add_flat, (Blk.new w5 61 #[.int .i64 tk, .int .i64 z1, .int .i64 z2]).cell]
      simpa using hu
    case one => intro u hu; simp at hu; rcases hu with rfl | rfl | rfl <;> rfl
    case b1 => unfold maxLen; omega
    case b2 => omega
    case k =>
      intro g6 cap6 w6 hr6 hg6 hw6 hlt6
      have hk6 := ((HK5.out.mono (S' := fun k => k = b ∨ v5.ownBlock = some k) (fun _ _ hf => hf.elim)).alloc (.cells #[.int .i64 tk, .int .i64 z1, .int .i64 z2] 61)).grown hg6 (fun k hk => .inl (.inr hk))
      have hb6 := (HB5.out.alloc (.cells #[.int .i64 tk, .int .i64 z1, .int .i64 z2] 61)).grown hg6 h5b
      have HK6 := Lib.hid hk6
      have HB6 := Lib.hid hb6
      have HR6 := Lib.hid hr6
      have hz6 := HK2.out.size
      have hz7 := HK5.out.size
      have HW6 := Lib.hid (show v5.ownBlock = some g6 ∨ w.heap.size ≤ g6 from hw6.imp id (fun e => by omega))
      have hne6 : g6 ≠ b := by
        rcases hw6 with h | h
        · rintro rfl; exact h5b h
        · have := HB5.out.lt; omega
      clear hk6 hb6 hr6 hg6 hw6 m1 m2 m3 k1 k2 k3 HS2 HK2 HK4 HK5 HB5 H55 x5 y5 HC HT HI HP2
      have x5 := HB6.out.cell 5
      have y5 := HB6.out.frozen 5
      go_wp2
      all_goals go_ret
      all_goals unfold SpoilPost
      all_goals refine ⟨HK6.out.setCell (p := ⟨b, 5, none⟩) (.inl (.inl rfl)) _, ?_⟩
      all_goals rw [HV.out]
      all_goals first
        | (rw [if_neg (by intro h; obtain ⟨h1, h2, h3⟩ := h; first | omega | (simp_all; done))]; done)
        | (rw [if_neg (by intro h; obtain ⟨h1, h2, h3⟩ := h; first | omega | (simp_all; done))]; rfl)
        | (by_cases h22 : e2 = 0
           · subst h22
             rw [if_pos ⟨by omega, rfl, by omega⟩]; refine ⟨rfl, _, (HB6.out.set_ 5 _).to rfl, ?_, ?_⟩
             · have hh := HR6.out.off (b := b) (i := 5) (u := .slice (some ⟨g6, 0, none⟩) (s.edits.length + 1) cap6) (by simp [Value.ownBlock]; exact hne6)
               simpa [edVs] using hh
             · intro k hk; simp [Value.ownBlock] at hk; subst hk; exact HW6.out
           · rw [if_neg (fun h => h22 h.2.1)]
             have q22 : (e2 == 0) = false := by simpa using h22
             show Ending.returned (.bool (e2 == 0)) = _
             rw [q22])
  · go_wp2_with (first
      | (go_at_call 67; refine (HP1.out _).mono ?_; rintro e w4 ⟨rfl, hk⟩; have HK4 := Lib.hid (HK2.out.then_ hk); obtain ⟨m1, m2, m3⟩ := HC.out w4 HK4.out; clear hk HP1)
      | (go_at_call 67; refine (HP2.out _).mono ?_; rintro e w5 ⟨rfl, hk⟩; have HK5 := Lib.hid (HK4.out.then_ hk); have HB5 := Lib.hid (HB.out.keep HK5.out (fun hf => hf)); have H55 := Lib.hid (H5.out.keep HK5.out (fun _ _ hf => hf)); have x5 := HB5.out.cell 5; have y5 := HB5.out.frozen 5; clear hk)
      | (at_builtin; refine wpl_append _ rfl (.tmp 37) (.tmp 42) 26 rfl 61 i0 (.agg #[.int .i64 0, .int .i64 0, .int .i64 0]) 3 24 Tryd.underlying26 hi hz0 hz1 hz2 rfl (by decide) v5 s.edits.length (edVs s.edits) rfl ?own ⟨w5.heap.size, 0, none⟩ 1 1 [.int .i64 tk, .int .i64 z1, .int .i64 z2] rfl rfl ?news ?one (by decide) ?b1 ?b2 ?k))
    case own => exact Row.alloc H55.out _
    case news =>
      intro j u hu
      rw [add_flat, (Blk.new w5 61 #[.int .i64 tk, .int .i64 z1, .int .i64 z2]).cell]
      simpa using hu
    case one => intro u hu; simp at hu; rcases hu with rfl | rfl | rfl <;> rfl
    case b1 => unfold maxLen; omega
    case b2 => omega
    case k =>
      intro g6 cap6 w6 hr6 hg6 hw6 hlt6
      have hk6 := ((HK5.out.mono (S' := fun k => k = b ∨ v5.ownBlock = some k) (fun _ _ hf => hf.elim)).alloc (.cells #[.int .i64 tk, .int .i64 z1, .int .i64 z2] 61)).grown hg6 (fun k hk => .inl (.inr hk))
      have hb6 := (HB5.out.alloc (.cells #[.int .i64 tk, .int .i64 z1, .int .i64 z2] 61)).grown hg6 h5b
      have HK6 := Lib.hid hk6
      have HB6 := Lib.hid hb6
      have HR6 := Lib.hid hr6
      have hz6 := HK2.out.size
      have hz7 := HK5.out.size
      have HW6 := Lib.hid (show v5.ownBlock = some g6 ∨ w.heap.size ≤ g6 from hw6.imp id (fun e => by omega))
      have hne6 : g6 ≠ b := by
        rcases hw6 with h | h
        · rintro rfl; exact h5b h
        · have := HB5.out.lt; omega
      clear hk6 hb6 hr6 hg6 hw6 m1 m2 m3 k1 k2 k3 HS2 HK2 HK4 HK5 HB5 H55 x5 y5 HC HT HI HP2
      have x5 := HB6.out.cell 5
      have y5 := HB6.out.frozen 5
      go_wp2
      all_goals go_ret
      all_goals unfold SpoilPost
      all_goals refine ⟨HK6.out.setCell (p := ⟨b, 5, none⟩) (.inl (.inl rfl)) _, ?_⟩
      all_goals rw [HV.out]
      all_goals first
        | (rw [if_neg (by intro h; obtain ⟨h1, h2, h3⟩ := h; first | omega | (simp_all; done))]; done)
        | (rw [if_neg (by intro h; obtain ⟨h1, h2, h3⟩ := h; first | omega | (simp_all; done))]; rfl)
        | (by_cases h22 : e2 = 0
           · subst h22
             rw [if_pos ⟨by omega, rfl, by omega⟩]; refine ⟨rfl, _, (HB6.out.set_ 5 _).to rfl, ?_, ?_⟩
             · have hh := HR6.out.off (b := b) (i := 5) (u := .slice (some ⟨g6, 0, none⟩) (s.edits.length + 1) cap6) (by simp [Value.ownBlock]; exact hne6)
               simpa [edVs] using hh
             · intro k hk; simp [Value.ownBlock] at hk; subst hk; exact HW6.out
           · rw [if_neg (fun h => h22 h.2.1)]
             have q22 : (e2 == 0) = false := by simpa using h22
             show Ending.returned (.bool (e2 == 0)) = _
             rw [q22])

end Go.Proofs.YtjcjmjnajhkdaaaDoor
