/- A trie made out of a set, by the program; no condition but the sizes. -/
import Derived.Test.YtkbdfnmeomkpjaaGreatTriC
namespace Go.Proofs.YtkbdfnmeomkpjaaGreat
open Go.RowKit
set_option linter.unusedVariables false
set_option linter.unusedSimpArgs false
set_option maxRecDepth 100000

theorem roundL_len : ∀ (l out : List (List UInt8)) (n : Nat), (roundL l out n).length ≤ out.length + l.length
  | [], out, n => by simp [roundL]
  | x :: l, out, n => by
    have h := roundL_len l (stepL n out x) n
    have h2 : (stepL n out x).length ≤ out.length + 1 := by unfold stepL; split <;> simp
    show (roundL l (stepL n out x) n).length ≤ _
    simp only [List.length_cons]
    omega
theorem statesN_len (l : List (List UInt8)) : ∀ k, (statesN l k).length ≤ 1 + k * l.length
  | 0 => by simp [statesN]
  | k + 1 => by
    rw [statesN_succ]
    have h1 := roundL_len l (statesN l k) (k + 1)
    have h2 := statesN_len l k
    rw [Nat.succ_mul]
    omega
theorem mostL_max : ∀ (l : List (List UInt8)) (a M : Nat), a ≤ M → (∀ x ∈ l, x.length ≤ M) → l.foldl (fun m x => max m x.length) a ≤ M
  | [], a, M, ha, _ => ha
  | x :: l, a, M, ha, h => mostL_max l _ M (Nat.max_le.2 ⟨ha, h x (by simp)⟩) fun y hy => h y (by simp [hy])
theorem states_few {l : List (List UInt8)} (h1 : l.length ≤ 12) (h2 : ∀ x ∈ l, x.length ≤ 20) : (statesL l).length ≤ 241 := by
  have h3 := statesN_len l (mostL l)
  have h4 : mostL l ≤ 20 := mostL_max l 0 20 (by omega) h2
  have h5 : mostL l * l.length ≤ 20 * 12 := Nat.mul_le_mul h4 h1
  unfold statesL
  omega

def NewTriePost (l : List (List UInt8)) (w : World) (e : Ending) (w' : World) : Prop :=
  ∃ (g b cap : Nat) (S : List TSt), e = .returned (.pointer (some ⟨g, 0, none⟩)) ∧ TrA w' g b cap S ∧ TrieOk l S ∧ w.heap.size ≤ g ∧ w.heap.size ≤ b ∧ Pure' w w'

set_option maxHeartbeats 4000000 in
theorem newTrie_ (x : Option Addr) (lp : List ByteArray) (w : World) (h : SetP w x lp) (hn : lp.length ≤ 12) (hll : ∀ y ∈ bl lp, y.length ≤ 20) (hl : (bl lp).Pairwise (· < ·)) :
    Calls Tryz.prog 120 #[.pointer x] w fun e w' => NewTriePost (bl lp) w e w' := by
  have HL0 := Lib.hid (list_ x lp w h (by omega))
  have HLs := Lib.hid hl
  have HLL := Lib.hid hll
  have hst := states_few (l := bl lp) (by simpa [bl] using hn) hll
  obtain ⟨n, hnn⟩ : ∃ n, lp.length = n := ⟨_, rfl⟩
  have HNL := Lib.hid (show (bl lp).length = n by simpa [bl] using hnn)
  rw [hnn] at HL0 hn
  rw [strVs_bl] at HL0
  clear h hl hll hnn
  generalize bl lp = l at *
  go_enter Tryz.func120, Tryz.ntmps120
  go_wp2_with fail
  refine HL0.out.mono ?_
  rintro e w1 ⟨⟨A, c, rfl, hs⟩, hk1⟩
  have HS1 := Lib.hid hs
  have HK1 := Lib.hid hk1
  clear hs hk1 HL0
  go_wp2
  have hz1 : w.heap.size ≤ w1.heap.size := HK1.out.size
  have htr : TrA (((w1.alloc (.cells #[.int .i64 (-1), .int .u8 0, .int .i64 0, .int .i64 (-1), .int .i64 0, .int .i64 0] 183)).alloc (.cells #[.slice (some ⟨w1.heap.size, 0, none⟩) 1 1] 186)).alloc (.cells #[.int .i64 0, .int .i64 0, .int .i64 (n : Int)] 203)) (w1.heap.size + 1) w1.heap.size 1 [tst0] := by
    refine ⟨(Blk.newAt (by simp)).alloc _, ?_⟩
    refine ⟨by rw [tsVs_len], .inr ⟨w1.heap.size, 1, _, rfl, Nat.zero_le _, ((Blk.new w1 _ _).alloc _).alloc _, Nat.le_refl _, by decide, by simp, by simp [tsVs, tsC, tst0]⟩⟩
  have hqa : QA (((w1.alloc (.cells #[.int .i64 (-1), .int .u8 0, .int .i64 0, .int .i64 (-1), .int .i64 0, .int .i64 0] 183)).alloc (.cells #[.slice (some ⟨w1.heap.size, 0, none⟩) 1 1] 186)).alloc (.cells #[.int .i64 0, .int .i64 0, .int .i64 (n : Int)] 203)) (w1.heap.size + 1 + 1) 0 1 [(0, 0, n)] := by
    refine ⟨by simp, by simp, _, Blk.newAt (by simp), by simp, fun j u hu => ?_⟩
    rw [Nat.zero_add]
    simpa [jbVs, jbC] using hu
  have hkp : Pure' w1 (((w1.alloc (.cells #[.int .i64 (-1), .int .u8 0, .int .i64 0, .int .i64 (-1), .int .i64 0, .int .i64 0] 183)).alloc (.cells #[.slice (some ⟨w1.heap.size, 0, none⟩) 1 1] 186)).alloc (.cells #[.int .i64 0, .int .i64 0, .int .i64 (n : Int)] 203)) := (((Keeps.refl (fun _ => False) w1).alloc _).alloc _).alloc _
  have HTR := Lib.hid htr
  have HQA := Lib.hid hqa
  have HKP := Lib.hid hkp
  have HB0 := Lib.hid (show BI l [[]] [tst0] 0 [(0, 0, n)] by rw [← HNL.out]; exact BI.start l)
  clear htr hqa hkp
  generalize hW0 : ((w1.alloc (.cells #[.int .i64 (-1), .int .u8 0, .int .i64 0, .int .i64 (-1), .int .i64 0, .int .i64 0] 183)).alloc (.cells #[.slice (some ⟨w1.heap.size, 0, none⟩) 1 1] 186)).alloc (.cells #[.int .i64 0, .int .i64 0, .int .i64 (n : Int)] 203) = W0 at *
  clear hW0
  obtain ⟨z, hzz⟩ : ∃ z, w1.heap.size = z := ⟨_, rfl⟩
  have HZZ := Lib.hid hzz
  rw [hzz] at HTR HQA HS1 hz1
  simp only [hzz]
  clear hzz
  obtain ⟨M, hM⟩ : ∃ M, (statesL l).length = M := ⟨_, rfl⟩
  have HM := Lib.hid hM
  rw [hM] at hst
  clear hM
  go_loopg [5] M (fun gh v5 wr => ∃ (P : List (List UInt8)) (S : List TSt) (k : Nat) (J : List (Nat × Nat × Nat)) (b cap q o jc nj : Nat), k + gh = M ∧ v5 = .slice (some ⟨q, o, none⟩) nj jc ∧ nj = J.length ∧ nj ≤ 241 ∧ RowKit.Hid (BI l P S k J) ∧ RowKit.Hid (TrA wr (z + 1) b cap S) ∧ RowKit.Hid (J ≠ [] → QA wr q o jc J) ∧ RowKit.Hid (Pure' w1 wr) ∧ z ≤ b ∧ z ≤ q)
  case atStart => exact ⟨[[]], [tst0], 0, [(0, 0, n)], z, 1, z + 1 + 1, 0, 1, 1, by omega, rfl, rfl, by decide, HB0, HTR, Lib.hid fun _ => HQA.out, HKP, Nat.le_refl _, by omega⟩
  case round =>
    obtain ⟨P, S, k, J, b, cap, q, o, jc, nj, hkg, rfl, hnj, hnj2, HB, HT, HQ, HK, hzb, hzq⟩ := hrel
    clear HTR HQA HB0
    cases J with
    | nil =>
      obtain rfl : nj = 0 := hnj
      have HBD := Lib.hid (HB.out.done HLs.out)
      go_wp2
      go_ret
      exact ⟨z + 1, b, cap, S, rfl, HT.out, HBD.out, by omega, by omega, HK1.out.trans HK.out (fun _ _ hf => hf)⟩
    | cons j0 J =>
      obtain ⟨k0, f, t⟩ := j0
      have hj0 := HB.out.jobs 0 (k0, f, t) rfl
      obtain ⟨e0, p, hp, hR⟩ := hj0
      obtain rfl : k0 = k := e0
      rw [Nat.add_zero] at hp
      have hPl := HB.out.few HLs.out
      rw [HM.out] at hPl
      have hSl := HB.out.len
      have hjl := HB.out.jlen
      simp at hjl
      simp at hnj
      have hkP := (List.getElem?_eq_some_iff.1 hp).1
      have hs := List.getElem?_eq_getElem (l := S) (i := k0) (by omega)
      generalize S[k0]'(by omega) = s at hs
      have hfr := HB.out.fresh k0 s (Nat.le_refl _) hs
      have hdp := HB.out.depth k0 p s hp hs
      have hpl : p.length ≤ 20 := by
        rcases HB.out.mem p (List.mem_of_getElem? hp) with e | ⟨x, hx, hpx⟩
        · rw [e]; simp
        · have := hpx.length_le
          have := HLL.out x hx
          omega
      have HPT := Lib.hid (part_ A n c z l (z + 1) b cap q o jc S k0 f t J p s wr HLs.out (by omega) (fun x hx => by have := HLL.out x hx; omega) (HS1.out.keep HK.out (by rw [HZZ.out]; exact Nat.le_refl _) (fun _ _ hf => hf)) (by rw [← HZZ.out]; exact HK.out.size) (by omega) hzb hzq HT.out (HQ.out (by simp)) hs hdp (by omega) hR hfr.2.1 hfr.1 (by omega) (by omega))
      have HP := Lib.hid hp
      have HS := Lib.hid hs
      have HSl := Lib.hid hSl
      have hjp : (0 : Int) < (nj : Int) := by omega
      subst hnj
      have hidp : (∀ j : Nat, l[j]? = some p → (if f < t ∧ l[f]? = some p then (f : Int) else -1) = (j : Int)) ∧ (p ∉ l → (if f < t ∧ l[f]? = some p then (f : Int) else -1) = -1) := by
        by_cases hc : f < t ∧ l[f]? = some p
        · rw [if_pos hc]
          exact ⟨fun j hj => by rw [(first_is HLs.out hR hj).1], fun hm => absurd (List.mem_of_getElem? hc.2) hm⟩
        · rw [if_neg hc]
          refine ⟨fun j hj => ?_, fun _ => rfl⟩
          obtain ⟨e1, e2⟩ := first_is HLs.out hR hj
          subst e1
          exact absurd ⟨e2, hj⟩ hc
      have HID := Lib.hid hidp
      clear hp hR hfr hdp hs hSl hidp
      cases gk with
      | zero => omega
      | succ g3 =>
        go_wp2_with fail
        refine HPT.out.mono ?_
        rintro e w2 ⟨gs, b', cap', q', o', jc', rfl, hT2, hTr2, hQ2, hk2, hb2, hq2⟩
        have hB2 := HB.out.step HLs.out HP.out HS.out hT2 HID.out
        have hTr3 : TrA w2 (z + 1) b' cap' (stepS S k0 p.length (if f < t ∧ l[f]? = some p then (f : Int) else -1) P.length gs s) := by rw [← HSl.out]; exact hTr2
        have hnl : (((k0, f, t) :: J) ++ numJ S.length gs).length = (J ++ numJ P.length gs).length + 1 := by simp [numJ_len]
        have hQ3 : J ++ numJ P.length gs ≠ [] → QA w2 q' (o' + 3) (jc' - 1) (J ++ numJ P.length gs) := fun hne => by
          have := hQ2
          rw [HSl.out] at this
          exact this.tail hne
        have hPl2 := hB2.few HLs.out
        have hjl2 := hB2.jlen
        rw [HM.out] at hPl2
        have HB2 := Lib.hid hB2
        have HTr3 := Lib.hid hTr3
        have HQ3 := Lib.hid hQ3
        have hroom := hQ2.room
        rw [hnl] at hroom ⊢
        have HK2 := Lib.hid (show Pure' w1 w2 from HK.out.trans hk2 (fun x hx hm => by rw [HZZ.out] at hx; omega))
        generalize hn2 : (J ++ numJ P.length gs).length = n2 at *
        have hn2l : n2 ≤ 241 := by omega
        have HN2 := Lib.hid hn2
        clear hT2 hTr2 hQ2 hk2 hB2 HID hTr3 hQ3 hn2 hnl HPT HB HT HQ
        go_wp2
        · have h0 : n2 = 0 := by omega
          go_roundg g3
          case measure => omega
          case rel => exact ⟨_, _, k0 + 1, J ++ numJ P.length gs, b', cap', q', o', 0, n2, by omega, rfl, HN2.out.symm, hn2l, HB2, HTr3, Lib.hid (fun hne => absurd (List.length_eq_zero_iff.1 (by rw [HN2.out]; exact h0)) hne), HK2, hb2, hq2⟩
        · go_roundg g3
          case measure => omega
          case rel => exact ⟨_, _, k0 + 1, J ++ numJ P.length gs, b', cap', q', o' + 3, jc' - 1, n2, by omega, rfl, HN2.out.symm, hn2l, HB2, HTr3, HQ3, HK2, hb2, hq2⟩

end Go.Proofs.YtkbdfnmeomkpjaaGreat
