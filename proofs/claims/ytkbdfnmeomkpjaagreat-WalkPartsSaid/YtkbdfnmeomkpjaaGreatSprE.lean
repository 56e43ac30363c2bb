/- A sparse table's step; no condition but the sizes. -/
import Derived.Test.YtkbdfnmeomkpjaaGreatSprD
namespace Go.Proofs.YtkbdfnmeomkpjaaGreat
open Go.RowKit
set_option linter.unusedVariables false
set_option linter.unusedSimpArgs false
set_option maxRecDepth 100000

set_option maxHeartbeats 1000000 in
theorem slen_ (g : Nat) (l : List (List UInt8)) (w : World) (h : SpI w g l) : Calls Tryz.prog 135 #[.pointer (some ⟨g, 0, none⟩)] w fun e w' => e = .returned (.int .i64 ((statesL l).length : Int)) ∧ w' = w := by
  obtain ⟨H, bb, fb, C, A, cc, bf, ff, h1, _⟩ := h.ex
  have c1 := h1.sc.box.cell 1
  have hf := h.few
  clear h h1
  generalize (statesL l).length = n at *
  go_enter Tryz.func135, Tryz.ntmps135
  go_wp2
  go_ret
  exact ⟨rfl, rfl⟩

def SNextPost (l : List (List UInt8)) (p : List UInt8) (c : UInt8) (e : Ending) : Prop :=
  (∃ m : Nat, e = .returned (.tuple #[.int .i64 (m : Int), .bool true]) ∧ (statesL l)[m]? = some (p ++ [c])) ∨ (e = .returned (.tuple #[.int .i64 0, .bool false]) ∧ p ++ [c] ∉ statesL l)
set_option maxHeartbeats 4000000 in
theorem snext_ (g : Nat) (l : List (List UInt8)) (s : Nat) (p : List UInt8) (c : UInt8) (w : World) (h : SpI w g l) (hp : (statesL l)[s]? = some p) :
    Calls Tryz.prog 136 #[.pointer (some ⟨g, 0, none⟩), .int .i64 (s : Int), .int .u8 (c.toNat : Int)] w fun e w' => SNextPost l p c e ∧ w' = w := by
  have HL := Lib.hid (slen_ g l w h)
  obtain ⟨H, bb, fb, C, A, cc, bf, ff, h1, h2, h3, h4⟩ := h.ex
  have hs := (List.getElem?_eq_some_iff.1 hp).1
  have hrd := h2.read (c := c) hs hp
  have hle := h2.le
  have hClen := h2.len
  have hf := h.few
  have hst := h.sts
  have hbs := h4 s hs
  have c0 := h1.sc.box.cell 0
  have c1 := h1.sc.box.cell 1
  have d1 : w.cell? ⟨bb, s, none⟩ = some (.int .i64 (bf s : Int)) := by rw [h1.ba.cell, numV_at bf hs]
  have HSC := Lib.hid h1.sc
  have HST := Lib.hid hst
  have HRD := Lib.hid hrd
  have HLE := Lib.hid hle
  have hcl := c.toNat_lt
  obtain ⟨a, ha⟩ : ∃ a, bf s = a := ⟨_, rfl⟩
  rw [ha] at d1 HRD hbs
  obtain ⟨nC, hnC⟩ : ∃ k, C.length = k := ⟨_, rfl⟩
  have HNC := Lib.hid hnC
  rw [hnC] at c0 hClen
  obtain ⟨n, hn⟩ : ∃ k, (statesL l).length = k := ⟨_, rfl⟩
  have HNS := Lib.hid hn
  rw [hn] at c1 hs hClen HL hf HLE
  clear h h1 h2 h3 h4 hp hrd hle hst ha hnC hn
  have hsi : ¬ (s : Int) < 0 := by omega
  have hsn : ¬ (n : Int) ≤ (s : Int) := by omega
  have hnb : nC ≤ 100000 := by omega
  have e0 : IntKind.i64.wrap (c.toNat : Int) = (c.toNat : Int) := by rw [IntKind.wrap_i64]; omega
  by_cases hlt : a + c.toNat < nC
  · have hlti : ¬ (nC : Int) ≤ (a : Int) + (c.toNat : Int) := by omega
    have hlti2 : (a : Int) + (c.toNat : Int) < (nC : Int) := by omega
    have h0 : (0 : Int) ≤ (a : Int) + (c.toNat : Int) := by omega
    have h0t : ((a : Int) + (c.toNat : Int)).toNat = a + c.toNat := by omega
    obtain ⟨y, hy⟩ : ∃ y, C[a + c.toNat]? = some y := ⟨_, List.getElem?_eq_getElem (by rw [HNC.out]; exact hlt)⟩
    obtain ⟨b, cap2, hA2, _, _⟩ := HSC.out.row.some_ (by rw [HNC.out]; omega)
    obtain ⟨rfl, rfl⟩ : A = some ⟨b, 0, none⟩ ∧ cc = cap2 := by injection hA2 with q1 q2 q3; exact ⟨q1, q3⟩
    have z0 := HSC.out.cell hy 0 (by decide)
    have z1 := HSC.out.cell hy 1 (by decide)
    have hyl := HLE.out y (List.mem_of_getElem? hy)
    by_cases hm : p ++ [c] ∈ statesL l
    · have hy2 := HRD.out.1 hm
      rw [hy] at hy2
      cases hy2
      have HIX := Lib.hid (idx_some hm)
      have hil := (List.getElem?_eq_some_iff.1 HIX.out).1
      obtain ⟨m, hmm⟩ : ∃ m, (statesL l).idxOf (p ++ [c]) = m := ⟨_, rfl⟩
      rw [hmm] at HIX z1
      have hmb : m ≤ 100000 := by rw [hmm, HNS.out] at hil; omega
      simp only [scC, List.getElem?_cons_zero, List.getElem?_cons_succ, Nat.add_zero] at z0 z1
      have hcast : ((s + 1 : Nat) : Int) = (s : Int) + 1 := by omega
      rw [hcast] at z0
      have e1 : IntKind.i64.wrap ((s : Int) + 1) = (s : Int) + 1 := by rw [IntKind.wrap_i64]; omega
      have e2 : IntKind.i64.wrap (m : Int) = (m : Int) := by rw [IntKind.wrap_i64]; omega
      have e3 : IntKind.i64.wrap ((a : Int) + (c.toNat : Int)) = (a : Int) + (c.toNat : Int) := by rw [IntKind.wrap_i64]; omega
      clear hy hA2 hil hmm hcast hyl hm
      go_enter Tryz.func136, Tryz.ntmps136
      go_wp2_with fail
      refine HL.out.mono ?_
      rintro e w1 ⟨rfl, rfl⟩
      go_wp2
      go_ret2
      exact ⟨.inl ⟨m, rfl, HIX.out⟩, rfl⟩
    · have hy2 := HRD.out.2 hm y hy
      have HM := Lib.hid hm
      obtain ⟨y1, y2⟩ := y
      dsimp only at hyl hy2
      simp only [scC, List.getElem?_cons_zero, List.getElem?_cons_succ, Nat.add_zero] at z0 z1
      have e1 : IntKind.i64.wrap ((s : Int) + 1) = (s : Int) + 1 := by rw [IntKind.wrap_i64]; omega
      have e2 : IntKind.i64.wrap (y1 : Int) = (y1 : Int) := by rw [IntKind.wrap_i64]; omega
      have e3 : IntKind.i64.wrap ((a : Int) + (c.toNat : Int)) = (a : Int) + (c.toNat : Int) := by rw [IntKind.wrap_i64]; omega
      have hne : ((y1 : Int) == (s : Int) + 1) = false := by rw [beq_eq_false_iff_ne]; omega
      have hne2 : ((y1 : Int) != (s : Int) + 1) = true := by rw [bne_iff_ne]; omega
      clear hy hA2 hm hy2 z1
      go_enter Tryz.func136, Tryz.ntmps136
      go_wp2_with fail
      refine HL.out.mono ?_
      rintro e w1 ⟨rfl, rfl⟩
      go_wp2
      go_ret2
      exact ⟨.inr ⟨rfl, HM.out⟩, rfl⟩
  · have hlti : (nC : Int) ≤ (a : Int) + (c.toNat : Int) := by omega
    have hno : p ++ [c] ∉ statesL l := fun hm => by
      have := (List.getElem?_eq_some_iff.1 (HRD.out.1 hm)).1
      rw [HNC.out] at this
      omega
    have HM := Lib.hid hno
    have e3 : IntKind.i64.wrap ((a : Int) + (c.toNat : Int)) = (a : Int) + (c.toNat : Int) := by rw [IntKind.wrap_i64]; omega
    clear hno
    go_enter Tryz.func136, Tryz.ntmps136
    go_wp2_with fail
    refine HL.out.mono ?_
    rintro e w1 ⟨rfl, rfl⟩
    go_wp2
    go_ret2
    exact ⟨.inr ⟨rfl, HM.out⟩, rfl⟩

set_option maxHeartbeats 4000000 in
theorem sstep_ (g : Nat) (l : List (List UInt8)) (k : Int) (c : UInt8) (w : World) (h : SpI w g l) : Calls Tryz.prog 96 #[.pointer (some ⟨g, 0, none⟩), .int .i64 k, .int .u8 (c.toNat : Int)] w fun e w' => e = .returned (.int .i64 (stepZ l k c)) ∧ Pure' w w' := by
  have HL := Lib.hid (slen_ g l w h)
  by_cases hk : 0 ≤ k ∧ k < ((statesL l).length : Int)
  · obtain ⟨s, rfl⟩ : ∃ s : Nat, k = (s : Int) := ⟨k.toNat, by omega⟩
    have hs : s < (statesL l).length := by omega
    obtain ⟨p, hp⟩ : ∃ p, (statesL l)[s]? = some p := ⟨_, List.getElem?_eq_getElem hs⟩
    rw [stepZ_in c hp]
    have HNX := Lib.hid (fun (t : Nat) (q : List UInt8) (hq : (statesL l)[t]? = some q) => snext_ g l t q c w h hq)
    obtain ⟨H, bb, fb, C, A, cc, bf, ff, h1, h2, h3, h4⟩ := h.ex
    have HST := Lib.hid h.sts
    have hfew := h.few
    have c2 := h1.sc.box.cell 2
    have HFC := Lib.hid (fun (t : Nat) (q : List UInt8) (hq : (statesL l)[t]? = some q) => show w.cell? ⟨fb, t, none⟩ = some (.int .i64 (lsuf (statesL l) q.tail : Int)) by
      have ht := (List.getElem?_eq_some_iff.1 hq).1
      rw [h1.fa.cell, numV_at ff ht, h3 t q ht hq])
    have HP := Lib.hid hp
    obtain ⟨R, hR⟩ : ∃ R, lsuf (statesL l) (p ++ [c]) = R := ⟨_, rfl⟩
    have HR := Lib.hid hR
    rw [hR]
    obtain ⟨n, hn⟩ : ∃ k, (statesL l).length = k := ⟨_, rfl⟩
    have HN := Lib.hid hn
    rw [hn] at c2 hs HL hfew
    have hcl := c.toNat_lt
    clear h h1 h2 h3 h4 hp hR hn hk
    have hsi : ¬ (s : Int) < 0 := by omega
    have hsn : ¬ (n : Int) ≤ (s : Int) := by omega
    have hsd : decide (n ≤ s) = false := by simp; omega
    go_enter Tryz.func96, Tryz.ntmps96
    go_wp2_with fail
    refine HL.out.mono ?_
    rintro e w1 ⟨rfl, rfl⟩
    go_wp2
    clear hsi hsn hsd
    go_loopg [1, 7, 8] s (fun gh v1 v7 v8 wr => (∃ (t1 : Nat) (p1 : List UInt8), t1 ≤ gh ∧ t1 < n ∧ v1 = .int .i64 (t1 : Int) ∧ RowKit.Hid ((statesL l)[t1]? = some p1) ∧ RowKit.Hid (lsuf (statesL l) (p1 ++ [c]) = R)) ∧ wr = w1)
    case atStart => exact ⟨⟨s, p, Nat.le_refl _, hs, rfl, HP, HR⟩, rfl⟩
    case round =>
      obtain ⟨⟨t1, p1, hg, htn, rfl, HP1, HR1⟩, rfl⟩ := hrel
      go_wp2_with fail
      refine (HNX.out t1 p1 HP1.out).mono ?_
      rintro e w2 ⟨hcase, rfl⟩
      rcases hcase with ⟨m, rfl, hm⟩ | ⟨rfl, hno⟩
      · obtain rfl : R = m := by rw [← HR1.out]; exact lsuf_in HST.out hm
        clear hm
        go_wp2
        go_ret
        exact ⟨rfl, Keeps.refl _ _⟩
      · have HNO := Lib.hid hno
        clear hno
        rcases Nat.eq_zero_or_pos t1 with h0 | h0
        · subst h0
          have hp0 : p1 = [] := by have := HP1.out; rw [HST.out.zero] at this; cases this; rfl
          subst hp0
          have hR0 : R = 0 := by rw [← HR1.out]; exact fall_end HNO.out
          subst hR0
          go_wp2
          go_ret
          exact ⟨rfl, Keeps.refl _ _⟩
        · obtain ⟨hlt, q, hq, _⟩ := fall_less HST.out HP1.out h0
          have hne : p1 ≠ [] := by
            rintro rfl
            have := HST.out.idx HP1.out
            rw [HST.out.idx HST.out.zero] at this
            omega
          have f1 := HFC.out t1 p1 HP1.out
          have HR2 := Lib.hid (show lsuf (statesL l) (q ++ [c]) = R by rw [← fall_step HST.out HNO.out hne hq]; exact HR1.out)
          have HQ := Lib.hid hq
          generalize lsuf (statesL l) p1.tail = t2 at *
          have ht1 : ((t1 : Int) == 0) = false := by rw [beq_eq_false_iff_ne]; omega
          clear hq hne
          cases gk with
          | zero => omega
          | succ g3 =>
            go_wp2
            go_roundg g3
            case measure => omega
            case rel => exact ⟨⟨t2, q, by omega, by omega, rfl, HQ, HR2⟩, rfl⟩
  · rw [stepZ_out c hk]
    obtain ⟨n, hn⟩ : ∃ k, (statesL l).length = k := ⟨_, rfl⟩
    rw [hn] at hk HL
    clear h hn
    by_cases hk0 : k < 0
    · clear hk
      go_enter Tryz.func96, Tryz.ntmps96
      go_wp2_with fail
      go_ret
      exact ⟨rfl, Keeps.refl _ _⟩
    · have hkn : (n : Int) ≤ k := by omega
      clear hk
      go_enter Tryz.func96, Tryz.ntmps96
      go_wp2_with fail
      refine HL.out.mono ?_
      rintro e w1 ⟨rfl, rfl⟩
      go_wp2
      go_ret
      exact ⟨rfl, Keeps.refl _ _⟩

end Go.Proofs.YtkbdfnmeomkpjaaGreat
