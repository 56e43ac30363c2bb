/- A trie read: Len, is, Depth, Above, Ends, Next; no condition but the sizes. -/
import Derived.Test.YtkbdfnmeomkpjaaGreatTriD
namespace Go.Proofs.YtkbdfnmeomkpjaaGreat
open Go.RowKit
set_option linter.unusedVariables false
set_option linter.unusedSimpArgs false
set_option maxRecDepth 100000

theorem states_sts {l : List (List UInt8)} (hl : l.Pairwise (· < ·)) (hne : ∀ x ∈ l, x ≠ []) : Sts l (statesL l) := ⟨hne, (states_ok l hl).1, (states_ok l hl).2⟩
def isB (k : Int) (n : Nat) : Bool := decide (0 ≤ k) && decide (k < (n : Int))
theorem isB_in {k n : Nat} (h : k < n) : isB (k : Int) n = true := by unfold isB; simp [h]
theorem isB_zero (k : Int) : isB k 0 = false := by unfold isB; simp

set_option maxHeartbeats 1000000 in
theorem tlen_nil (w : World) : Calls Tryz.prog 121 #[.pointer none] w fun e w' => e = .returned (.int .i64 0) ∧ w' = w := by
  go_enter Tryz.func121, Tryz.ntmps121
  go_wp2
  go_ret
  exact ⟨rfl, rfl⟩
set_option maxHeartbeats 1000000 in
theorem tlen_ (g b cap n : Nat) (w : World) (h : Blk w g 186 #[.slice (some ⟨b, 0, none⟩) n cap]) : Calls Tryz.prog 121 #[.pointer (some ⟨g, 0, none⟩)] w fun e w' => e = .returned (.int .i64 (n : Int)) ∧ w' = w := by
  have c0 := h.cell 0
  clear h
  go_enter Tryz.func121, Tryz.ntmps121
  go_wp2
  go_ret
  exact ⟨rfl, rfl⟩
/-- A trie that is none, or one that lies there. -/
def TrB (w : World) (x : Option Addr) (S : List TSt) : Prop := (x = none ∧ S = []) ∨ ∃ g b cap, x = some ⟨g, 0, none⟩ ∧ TrA w g b cap S
theorem len_any (x : Option Addr) (S : List TSt) (w : World) (h : TrB w x S) : Calls Tryz.prog 121 #[.pointer x] w fun e w' => e = .returned (.int .i64 (S.length : Int)) ∧ w' = w := by
  rcases h with ⟨rfl, rfl⟩ | ⟨g, b, cap, rfl, h⟩
  · exact tlen_nil w
  · exact tlen_ g b cap S.length w h.box
set_option maxHeartbeats 1000000 in
theorem tis_ (x : Option Addr) (S : List TSt) (k : Int) (w : World) (h : TrB w x S) : Calls Tryz.prog 139 #[.pointer x, .int .i64 k] w fun e w' => e = .returned (.bool (isB k S.length)) ∧ w' = w := by
  have HL := Lib.hid (len_any x S w h)
  clear h
  unfold isB
  by_cases hk : 0 ≤ k
  · go_enter Tryz.func139, Tryz.ntmps139
    go_wp2_with fail
    refine HL.out.mono ?_
    rintro e w1 ⟨rfl, rfl⟩
    go_wp2
    go_ret
    exact ⟨by simp [hk], rfl⟩
  · go_enter Tryz.func139, Tryz.ntmps139
    go_wp2
    go_ret
    exact ⟨by rw [show decide (0 ≤ k) = false by simp; omega]; rfl, rfl⟩

/-- A trie of a set, in memory. -/
structure TI (w : World) (g b cap : Nat) (l : List (List UInt8)) (S : List TSt) : Prop where
  tr : TrA w g b cap S
  ok : TrieOk l S
  srt : l.Pairwise (· < ·)
  few : S.length ≤ 241
  ne : ∀ x ∈ l, x ≠ []
theorem TI.sts {w : World} {g b cap : Nat} {l : List (List UInt8)} {S : List TSt} (h : TI w g b cap l S) : Sts l (statesL l) := states_sts h.srt h.ne
theorem TI.any {w : World} {g b cap : Nat} {l : List (List UInt8)} {S : List TSt} (h : TI w g b cap l S) : TrB w (some ⟨g, 0, none⟩) S := .inr ⟨g, b, cap, rfl, h.tr⟩
theorem TI.pure {w w' : World} {g b cap : Nat} {l : List (List UInt8)} {S : List TSt} (h : TI w g b cap l S) (hk : Pure' w w') : TI w' g b cap l S := ⟨h.tr.keep hk (fun hf => hf) (fun hf => hf), h.ok, h.srt, h.few, h.ne⟩
theorem TI.st {w : World} {g b cap : Nat} {l : List (List UInt8)} {S : List TSt} (h : TI w g b cap l S) {t : Nat} {p : List UInt8} (hp : (statesL l)[t]? = some p) : ∃ s, S[t]? = some s ∧ t < S.length := by
  have := (List.getElem?_eq_some_iff.1 hp).1
  have h2 := h.ok.len
  exact ⟨_, List.getElem?_eq_getElem (by omega), by omega⟩

set_option maxHeartbeats 1000000 in
theorem depth_ (g b cap : Nat) (l : List (List UInt8)) (S : List TSt) (t : Nat) (p : List UInt8) (w : World) (h : TI w g b cap l S) (hp : (statesL l)[t]? = some p) : Calls Tryz.prog 100 #[.pointer (some ⟨g, 0, none⟩), .int .i64 (t : Int)] w fun e w' => e = .returned (.int .i64 (p.length : Int)) ∧ w' = w := by
  obtain ⟨s, hs, htl⟩ := h.st hp
  have HI := Lib.hid (tis_ _ S (t : Int) w h.any)
  rw [isB_in htl] at HI
  have c0 := h.tr.box.cell 0
  have d2 : w.cell? ⟨b, t * 6 + 2, none⟩ = some (.int .i64 (p.length : Int)) := by rw [h.tr.cell hs 2 (by decide), ← h.ok.depth t p s hp hs]; rfl
  have hf := h.few
  clear hs hp h
  generalize S.length = n at *
  go_enter Tryz.func100, Tryz.ntmps100
  go_wp2_with fail
  refine HI.out.mono ?_
  rintro e w1 ⟨rfl, rfl⟩
  go_wp2
  go_ret
  exact ⟨rfl, rfl⟩

set_option maxHeartbeats 1000000 in
theorem ends_ (g b cap : Nat) (l : List (List UInt8)) (S : List TSt) (t : Nat) (p : List UInt8) (w : World) (h : TI w g b cap l S) (hp : (statesL l)[t]? = some p) : Calls Tryz.prog 124 #[.pointer (some ⟨g, 0, none⟩), .int .i64 (t : Int)] w fun e w' =>
    ((∃ j : Nat, e = .returned (.tuple #[.int .i64 (j : Int), .bool true]) ∧ l[j]? = some p) ∨ (e = .returned (.tuple #[.int .i64 0, .bool false]) ∧ p ∉ l)) ∧ w' = w := by
  obtain ⟨s, hs, htl⟩ := h.st hp
  have HI := Lib.hid (tis_ _ S (t : Int) w h.any)
  rw [isB_in htl] at HI
  have c0 := h.tr.box.cell 0
  have d3 : w.cell? ⟨b, t * 6 + 3, none⟩ = some (.int .i64 s.id) := by rw [h.tr.cell hs 3 (by decide)]; rfl
  have hf := h.few
  have hid := h.ok.id t p s hp hs
  have hcase : (∃ j : Nat, s.id = (j : Int) ∧ l[j]? = some p) ∨ (s.id = -1 ∧ p ∉ l) := by
    by_cases hm : p ∈ l
    · obtain ⟨j, hj⟩ := List.mem_iff_getElem?.1 hm
      exact .inl ⟨j, hid.1 j hj, hj⟩
    · exact .inr ⟨hid.2 hm, hm⟩
  clear hs hp h hid
  generalize S.length = n at *
  rcases hcase with ⟨j, e1, hj⟩ | ⟨e1, hm⟩
  · have HJ := Lib.hid hj
    rw [e1] at d3
    have hj0 : ¬ (j : Int) < 0 := by omega
    clear hj e1
    go_enter Tryz.func124, Tryz.ntmps124
    go_wp2_with fail
    refine HI.out.mono ?_
    rintro e w1 ⟨rfl, rfl⟩
    go_wp2
    go_ret2
    exact ⟨.inl ⟨j, rfl, HJ.out⟩, rfl⟩
  · have HJ := Lib.hid hm
    rw [e1] at d3
    clear hm e1
    go_enter Tryz.func124, Tryz.ntmps124
    go_wp2_with fail
    refine HI.out.mono ?_
    rintro e w1 ⟨rfl, rfl⟩
    go_wp2
    go_ret2
    exact ⟨.inr ⟨rfl, HJ.out⟩, rfl⟩

set_option maxHeartbeats 1000000 in
theorem above_ (g b cap : Nat) (l : List (List UInt8)) (S : List TSt) (t : Nat) (p : List UInt8) (w : World) (h : TI w g b cap l S) (hp : (statesL l)[t]? = some p) (ht : 0 < t) : Calls Tryz.prog 122 #[.pointer (some ⟨g, 0, none⟩), .int .i64 (t : Int)] w fun e w' =>
    (∃ (j : Nat) (q : List UInt8) (c : UInt8), e = .returned (.tuple #[.int .i64 (j : Int), .int .u8 c.toNat, .bool true]) ∧ j < t ∧ (statesL l)[j]? = some q ∧ p = q ++ [c]) ∧ ∃ k, w' = w.drewN k := by
  obtain ⟨s, hs, htl⟩ := h.st hp
  obtain ⟨j, q, hjt, hq, hpq, hab⟩ := h.ok.up t p s hp hs ht
  have HI := Lib.hid (tis_ _ S (t : Int) w h.any)
  rw [isB_in htl] at HI
  have c0 := h.tr.box.cell 0
  have d0 : w.cell? ⟨b, t * 6 + 0, none⟩ = some (.int .i64 (j : Int)) := by rw [h.tr.cell hs 0 (by decide), ← hab]; rfl
  rw [Nat.add_zero] at d0
  have d1 : w.cell? ⟨b, t * 6 + 1, none⟩ = some (.int .u8 s.by_.toNat) := by rw [h.tr.cell hs 1 (by decide)]; rfl
  have hf := h.few
  have HQ := Lib.hid hq
  have HPQ := Lib.hid hpq
  have ht0 : ((t : Int) == 0) = false := by rw [beq_eq_false_iff_ne]; omega
  clear hs hp h hq hpq hab
  generalize S.length = n at *
  go_enter Tryz.func122, Tryz.ntmps122
  go_wp2_with fail
  refine HI.out.mono ?_
  rintro e w1 ⟨rfl, rfl⟩
  go_wp2_with fail
  go_region
  go_wp2
  go_ret3
  exact ⟨⟨j, q, s.by_, rfl, hjt, HQ.out, HPQ.out⟩, _, rfl⟩

set_option maxHeartbeats 2000000 in
theorem next_ (g b cap : Nat) (l : List (List UInt8)) (S : List TSt) (t : Nat) (p : List UInt8) (c : UInt8) (w : World) (h : TI w g b cap l S) (hp : (statesL l)[t]? = some p) : Calls Tryz.prog 130 #[.pointer (some ⟨g, 0, none⟩), .int .i64 (t : Int), .int .u8 c.toNat] w fun e w' =>
    ((∃ m : Nat, e = .returned (.tuple #[.int .i64 (m : Int), .bool true]) ∧ (statesL l)[m]? = some (p ++ [c])) ∨ (e = .returned (.tuple #[.int .i64 0, .bool false]) ∧ p ++ [c] ∉ statesL l)) ∧ ∃ k, w' = w.drewN k := by
  obtain ⟨s, hs, htl⟩ := h.st hp
  obtain ⟨hsp1, hsp2, hsp3⟩ := h.ok.span t p s hp hs
  rw [← h.ok.len] at hsp1
  have HI := Lib.hid (tis_ _ S (t : Int) w h.any)
  rw [isB_in htl] at HI
  have c0 := h.tr.box.cell 0
  have d4 : w.cell? ⟨b, t * 6 + 4, none⟩ = some (.int .i64 (s.first : Int)) := by rw [h.tr.cell hs 4 (by decide)]; rfl
  have d5 : w.cell? ⟨b, t * 6 + 5, none⟩ = some (.int .i64 (s.many : Int)) := by rw [h.tr.cell hs 5 (by decide)]; rfl
  have hf := h.few
  obtain ⟨F, hF⟩ : ∃ F, s.first = F := ⟨_, rfl⟩
  obtain ⟨M, hM⟩ : ∃ M, s.many = M := ⟨_, rfl⟩
  rw [hF, hM] at hsp1 hsp2 hsp3
  rw [hF] at d4
  rw [hM] at d5
  have HBY := Lib.hid (fun (m : Nat) (h1 : F ≤ m) (h2 : m < F + M) => show ∃ s', S[m]? = some s' ∧ (statesL l)[m]? = some (p ++ [s'.by_]) ∧ w.cell? ⟨b, m * 6 + 1, none⟩ = some (.int .u8 s'.by_.toNat) from by
    have hm := List.getElem?_eq_getElem (l := S) (i := m) (by omega)
    exact ⟨_, hm, hsp2 m _ h1 h2 hm, by rw [h.tr.cell hm 1 (by decide)]; rfl⟩)
  have HMO := Lib.hid (fun (m m' : Nat) (s1 s2 : TSt) (h1 : F ≤ m) (h2 : m < m') (h3 : m' < F + M) (e1 : S[m]? = some s1) (e2 : S[m']? = some s2) => show s1.by_.toNat < s2.by_.toNat from by
    have q1 := hsp2 m s1 h1 (by omega) e1
    have q2 := hsp2 m' s2 (by omega) h3 e2
    obtain ⟨i1, r1⟩ := List.getElem?_eq_some_iff.1 q1
    obtain ⟨i2, r2⟩ := List.getElem?_eq_some_iff.1 q2
    have := (List.pairwise_iff_getElem.1 h.sts.srt) m m' i1 i2 h2
    rw [r1, r2] at this
    rcases this with this | ⟨_, this⟩
    · simp at this
    · rw [lt_app, List.cons_lt_cons_iff] at this
      rcases this with this | ⟨_, this⟩
      · exact UInt8.lt_iff_toNat_lt.1 this
      · exact absurd this (List.not_lt_nil []))
  have HSP := Lib.hid hsp3
  have HSP2 := Lib.hid hsp2
  obtain ⟨n, hn⟩ : ∃ n, S.length = n := ⟨_, rfl⟩
  rw [hn] at hf htl c0 hsp1
  have hcl := c.toNat_lt
  clear hs hp h hsp2 hsp3 hF hM hn
  go_enter Tryz.func130, Tryz.ntmps130
  go_wp2_with fail
  refine HI.out.mono ?_
  rintro e w1 ⟨rfl, rfl⟩
  go_wp2_with fail
  go_region
  have HW : ∃ k, w1.drew = w1.drewN k := ⟨1, rfl⟩
  have c1 : (w1.drew).cell? ⟨g, 0, none⟩ = some (.slice (some ⟨b, 0, none⟩) n cap) := c0
  have HBY2 := Lib.hid (fun (m : Nat) (h1 : F ≤ m) (h2 : m < F + M) => show ∃ s', S[m]? = some s' ∧ (statesL l)[m]? = some (p ++ [s'.by_]) ∧ (w1.drew).cell? ⟨b, m * 6 + 1, none⟩ = some (.int .u8 s'.by_.toNat) from HBY.out m h1 h2)
  clear c0 d4 d5 HBY
  generalize w1.drew = W at *
  have c0 := c1
  clear c1
  go_wp2
  go_loopg [8, 9, 10] M (fun gh v8 v9 v10 wr => ∃ (x y : Nat), y - x ≤ gh ∧ F ≤ x ∧ x ≤ y ∧ y ≤ F + M ∧ v8 = .int .i64 (x : Int) ∧ v9 = .int .i64 (y : Int) ∧ RowKit.Hid (∀ (m : Nat) (s' : TSt), F ≤ m → m < x → S[m]? = some s' → s'.by_.toNat < c.toNat) ∧ RowKit.Hid (∀ (m : Nat) (s' : TSt), y ≤ m → m < F + M → S[m]? = some s' → c.toNat < s'.by_.toNat) ∧ wr = W)
  case atStart => exact ⟨F, F + M, by omega, Nat.le_refl _, by omega, Nat.le_refl _, rfl, by go_num, Lib.hid (fun m s' h1 h2 => by omega), Lib.hid (fun m s' h1 h2 => by omega), rfl⟩
  case round =>
    obtain ⟨x, y, hg, hFx, hxy, hy, rfl, rfl, HLo, HHi, rfl⟩ := hrel
    rcases Nat.lt_or_ge x y with hlt | hge
    · cases gk with
      | zero => omega
      | succ g3 =>
        have hxi : (x : Int) < (y : Int) := by omega
        obtain ⟨m, hm⟩ : ∃ m, (x + y) / 2 = m := ⟨_, rfl⟩
        have hmid : ((x : Int) + (y : Int)) / 2 = (m : Int) := by omega
        have hm1 : x ≤ m := by omega
        have hm2 : m < y := by omega
        obtain ⟨s', e1, e2, mc⟩ := HBY2.out m (by omega) (by omega)
        have hml : m < n := by omega
        have hbl := s'.by_.toNat_lt
        have HE1 := Lib.hid e1
        have HE2 := Lib.hid e2
        clear hm e1 e2
        go_upto_region 7 with fail
        rw [hmid]
        rcases Nat.lt_trichotomy s'.by_.toNat c.toNat with hc | hc | hc
        · have hb1 : ((s'.by_.toNat : Int) == (c.toNat : Int)) = false := by rw [beq_eq_false_iff_ne]; omega
          have hb2 : (s'.by_.toNat : Int) < (c.toNat : Int) := by omega
          go_wp2
          go_roundg g3
          case measure => omega
          case rel =>
            refine ⟨m + 1, y, by omega, by omega, by omega, hy, by go_num, rfl, Lib.hid (fun i s2 h1 h2 h3 => ?_), HHi, rfl⟩
            rcases Nat.eq_or_lt_of_le (Nat.lt_succ_iff.1 h2) with e | e
            · subst e
              rw [HE1.out] at h3
              cases h3
              exact hc
            · have := HMO.out i m s2 s' h1 e (by omega) h3 HE1.out
              omega
        · have hb1 : ((s'.by_.toNat : Int) == (c.toNat : Int)) = true := by rw [hc]; simp
          go_wp2
          go_ret2
          exact ⟨.inl ⟨m, rfl, by rw [HE2.out, UInt8.toNat_inj.1 hc]⟩, HW⟩
        · have hb1 : ((s'.by_.toNat : Int) == (c.toNat : Int)) = false := by rw [beq_eq_false_iff_ne]; omega
          have hb2 : ¬ (s'.by_.toNat : Int) < (c.toNat : Int) := by omega
          go_wp2
          go_roundg g3
          case measure => omega
          case rel =>
            refine ⟨x, m, by omega, hFx, by omega, by omega, rfl, rfl, HLo, Lib.hid (fun i s2 h1 h2 h3 => ?_), rfl⟩
            rcases Nat.eq_or_lt_of_le h1 with e | e
            · subst e
              rw [HE1.out] at h3
              cases h3
              exact hc
            · have := HMO.out m i s' s2 (by omega) e h2 HE1.out h3
              omega
    · have hxi : ¬ (x : Int) < (y : Int) := by omega
      have hno : p ++ [c] ∉ statesL l := by
        intro hm
        obtain ⟨m, h1, h2, h3⟩ := HSP.out c hm
        obtain ⟨s', e1, e2, _⟩ := HBY2.out m h1 h2
        rw [h3] at e2
        have e3 : c = s'.by_ := by have := List.append_cancel_left (Option.some.inj e2); simpa using this
        rcases Nat.lt_or_ge m x with h4 | h4
        · have := HLo.out m s' h1 h4 e1
          rw [e3] at this; omega
        · have := HHi.out m s' (by omega) h2 e1
          rw [e3] at this; omega
      have HNO := Lib.hid hno
      clear hno
      go_wp2
      go_ret2
      exact ⟨.inr ⟨rfl, HNO.out⟩, HW⟩

end Go.Proofs.YtkbdfnmeomkpjaaGreat
