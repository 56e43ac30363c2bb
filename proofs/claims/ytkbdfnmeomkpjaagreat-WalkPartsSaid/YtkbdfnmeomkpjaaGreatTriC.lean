/- A state of a trie parted, by the program; no condition but the sizes. -/
import Derived.Test.YtkbdfnmeomkpjaaGreatTriB
import Derived.WalkMore
import Derived.Deep.LoopGhost
import Derived.Deep.AppendLies
import Derived.Deep.RegionLaw
namespace Go.Proofs.YtkbdfnmeomkpjaaGreat
open Go.RowKit
set_option linter.unusedVariables false
set_option linter.unusedSimpArgs false
set_option maxRecDepth 100000

theorem stInfo : (Tryz.prog.info? 183).map (fun i => (i.zero, i.size, i.bytes)) = some (some (.agg #[.int .i64 0, .int .u8 0, .int .i64 0, .int .i64 0, .int .i64 0, .int .i64 0]), 6, 48) := by kernel_rfl
theorem jbInfo : (Tryz.prog.info? 203).map (fun i => (i.zero, i.size, i.bytes)) = some (some (.agg #[.int .i64 0, .int .i64 0, .int .i64 0]), 3, 24) := by kernel_rfl
theorem news6 (w : World) {a b c d e f : Value} {T : TypeId} : ∀ j x, [a, b, c, d, e, f][j]? = some x → (w.alloc (.cells #[a, b, c, d, e, f] T)).cell? ((⟨w.heap.size, 0, none⟩ : Addr).add j) = some x := by
  intro j u hu
  rw [show (⟨w.heap.size, 0, none⟩ : Addr).add j = ⟨w.heap.size, j, none⟩ from by unfold Addr.add; split <;> simp_all, (Blk.new w T #[a, b, c, d, e, f]).cell]
  simpa using hu
theorem news3 (w : World) {a b c : Value} {T : TypeId} : ∀ j x, [a, b, c][j]? = some x → (w.alloc (.cells #[a, b, c] T)).cell? ((⟨w.heap.size, 0, none⟩ : Addr).add j) = some x := by
  intro j u hu
  rw [show (⟨w.heap.size, 0, none⟩ : Addr).add j = ⟨w.heap.size, j, none⟩ from by unfold Addr.add; split <;> simp_all, (Blk.new w T #[a, b, c]).cell]
  simpa using hu
theorem jbC_one (j : Nat × Nat × Nat) : ∀ u ∈ jbC j, u.oneCell' = true := by
  intro u hu; simp [jbC] at hu; rcases hu with rfl | rfl | rfl <;> rfl

def PartPost (l : List (List UInt8)) (p : List UInt8) (f t k : Nat) (s : TSt) (S : List TSt) (J : List (Nat × Nat × Nat)) (B g b q : Nat) (w : World) (e : Ending) (w' : World) : Prop :=
  ∃ (gs : List (UInt8 × Nat × Nat)) (b' cap' q' o' jc' : Nat), e = .returned (.slice (some ⟨q', o', none⟩) (((k, f, t) :: J) ++ numJ S.length gs).length jc') ∧ Tile l p.length t (skipF l p f t) t gs ∧
    TrA w' g b' cap' (stepS S k p.length (if f < t ∧ l[f]? = some p then (f : Int) else -1) S.length gs s) ∧ QA w' q' o' jc' (((k, f, t) :: J) ++ numJ S.length gs) ∧ Keeps (fun x => x = g ∨ x = b ∨ x = q) w w' ∧ B ≤ b' ∧ B ≤ q'

/-- The states in the midst of the groups. -/
def midS (S : List TSt) (k d : Nat) (idv : Int) (gs : List (UInt8 × Nat × Nat)) (s : TSt) : List TSt :=
  S.set k ⟨s.above, s.by_, s.depth, idv, S.length, gs.length⟩ ++ gs.map (fun g => ⟨(k : Int), g.1, d + 1, -1, 0, 0⟩)

set_option maxHeartbeats 4000000 in
theorem part_ (A : Option Addr) (n c B : Nat) (l : List (List UInt8)) (g b cap q o jc : Nat) (S : List TSt) (k f t : Nat) (J : List (Nat × Nat × Nat)) (p : List UInt8) (s : TSt) (w : World)
    (hl : l.Pairwise (· < ·)) (hn : n ≤ 10000) (hll : ∀ x ∈ l, x.length ≤ 10000) (hs : Sees w B 1 A n (strVs l)) (hBw : B ≤ w.heap.size) (hBg : B ≤ g) (hBb : B ≤ b) (hBq : B ≤ q)
    (hT : TrA w g b cap S) (hQ : QA w q o jc ((k, f, t) :: J)) (hk : S[k]? = some s) (hd : s.depth = p.length) (hp : p.length ≤ 10000) (hR : Rng l p f t) (hm : s.many = 0) (hid : s.id = -1) (hS : S.length ≤ 1000000) (hJ : J.length ≤ 1000000) :
    Calls Tryz.prog 157 #[.pointer (some ⟨g, 0, none⟩), .slice A n c, .slice (some ⟨q, o, none⟩) (J.length + 1) jc] w fun e w' => PartPost l p f t k s S J B g b q w e w' := by
  obtain ⟨i6, h61, h62, h63, h64⟩ := info_parts stInfo
  obtain ⟨i3, h31, h32, h33, h34⟩ := info_parts jbInfo
  have hln : l.length = n := by have := hs.1; rw [strVs_len] at this; omega
  have hgl := hT.box.lt
  have hbl := hT.row.lt b rfl
  have hql := hQ.lt
  have hft := hR.le
  have htn := hR.hi
  have hkS := (List.getElem?_eq_some_iff.1 hk).1
  have q0 : w.cell? ⟨q, o, none⟩ = some (.int .i64 k) := hQ.cell (j := 0) rfl
  have q1 : w.cell? ⟨q, o + 1, none⟩ = some (.int .i64 f) := hQ.cell (j := 1) rfl
  have q2 : w.cell? ⟨q, o + 2, none⟩ = some (.int .i64 t) := hQ.cell (j := 2) rfl
  have HPS0 := Lib.hid (show PS w (w.alloc (.cells #[.int .i64 k, .int .i64 f, .int .i64 t] 203)) B g b q b cap q o jc S ((k, f, t) :: J) #[.int .i64 k, .int .i64 f, .int .i64 t] from
    ⟨hT.alloc _, hQ.keep ((Keeps.refl (fun _ => False) w).alloc _) (fun hf => hf), Blk.new w _ _, (Keeps.refl _ w).alloc _, by omega, hBb, hBq, .inl rfl, .inl rfl⟩)
  have HSX := Lib.hid (fun W (hW : Keeps (fun x => x = g ∨ x = b ∨ x = q) w W) => hs.keep hW hBw (fun x hx hm => by omega))
  have HL := Lib.hid hll
  have HLs := Lib.hid hl
  have HR := Lib.hid hR
  have HK := Lib.hid hk
  have HD := Lib.hid hd
  have HM := Lib.hid hm
  have HID := Lib.hid hid
  have HLN := Lib.hid hln
  clear hl hll hs hT hQ hk hR hm hid
  obtain ⟨d, hdl⟩ : ∃ d, p.length = d := ⟨_, rfl⟩
  have HDL := Lib.hid hdl
  rw [hdl] at HD hd hp
  clear hdl hd
  obtain ⟨nj, hnj⟩ : ∃ nj, J.length + 1 = nj := ⟨_, rfl⟩
  rw [hnj]
  have hnj0 : 0 < nj := by omega
  have HNJ := Lib.hid hnj
  clear hnj
  go_enter Tryz.func157, Tryz.ntmps157
  go_wp2
  go_step3
  go_upto_region 2 with fail
  generalize hW1 : w.alloc (.cells #[.int .i64 k, .int .i64 f, .int .i64 t] 203) = W1 at *
  have hz1 : w.heap.size < W1.heap.size := by rw [← hW1]; show _ < (w.heap.push _).size; rw [Array.size_push]; omega
  clear hW1 q0 q1 q2
  have c0 := HPS0.out.tr.box.cell 0
  have j0 := HPS0.out.jb.cell 0
  have j1 := HPS0.out.jb.cell 1
  have j2 := HPS0.out.jb.cell 2
  have d2 : W1.cell? ⟨b, k * 6 + 2, none⟩ = some (.int .i64 (d : Int)) := by rw [HPS0.out.tr.cell HK.out 2 (by decide), ← HD.out]; rfl
  go_quiet (fail)
  go_upto_region 4 with fail
  have HPS1 := Lib.hid (HPS0.out.dn nq)
  have hz1n : w.heap.size < (W1.drewN nq).heap.size := hz1
  generalize W1.drewN nq = W2 at *
  have hz2 : w.heap.size < W2.heap.size := hz1n
  clear c0 j0 j1 j2 d2 HPS0
  have c0 := HPS1.out.tr.box.cell 0
  have j0 := HPS1.out.jb.cell 0
  have j1 := HPS1.out.jb.cell 1
  have j2 := HPS1.out.jb.cell 2
  obtain ⟨bb, hbb⟩ : ∃ bb : Bool, decide (f < t ∧ l[f]? = some p) = bb := ⟨_, rfl⟩
  have HBB := Lib.hid hbb
  clear hbb
  go_cut [38] (fun v38 wx => v38 = .bool bb ∧ wx = W2)
  case first =>
    by_cases hf : f < t
    · obtain ⟨ad, x0, rfl, hx0, xc⟩ := word_at (HSX.out _ HPS1.out.keep) (show f < n by omega)
      have hpre := (HR.out.mem f x0 hx0).2 ⟨Nat.le_refl _, hf⟩
      have hx0l := HL.out x0 (List.mem_of_getElem? hx0)
      have hfi : (f : Int) < (t : Int) := by omega
      by_cases hxd : x0.length = d
      · have e1 : bb = true := by
          rw [← HBB.out, decide_eq_true_eq]
          refine ⟨hf, ?_⟩
          rw [hx0, hpre.eq_of_length (by rw [HDL.out, hxd])]
        have hxb : ((x0.length : Int) == (d : Int)) = true := by simp [hxd]
        clear hx0 hpre hxd
        go_wp2
        go_meet
        exact ⟨by rw [e1], rfl⟩
      · have e1 : bb = false := by
          rw [← HBB.out, decide_eq_false_iff_not]
          rintro ⟨_, h2⟩
          rw [hx0] at h2
          cases h2
          exact hxd HDL.out
        have hxb : ((x0.length : Int) == (d : Int)) = false := by rw [beq_eq_false_iff_ne]; omega
        clear hx0 hpre hxd
        go_wp2
        go_meet
        exact ⟨by rw [e1], rfl⟩
    · have e1 : bb = false := by
        rw [← HBB.out, decide_eq_false_iff_not]
        exact fun h2 => hf h2.1
      go_wp2
      go_meet
      exact ⟨by rw [e1], rfl⟩
  case rest =>
    obtain ⟨rfl, rfl⟩ := hcut
    obtain ⟨f1, hf1⟩ : ∃ f1, skipF l p f t = f1 := ⟨_, rfl⟩
    obtain ⟨idv, hidv⟩ : ∃ idv : Int, (if f < t ∧ l[f]? = some p then (f : Int) else -1) = idv := ⟨_, rfl⟩
    have HF1 := Lib.hid hf1
    have HIDV := Lib.hid hidv
    have hf1t : f1 ≤ t := by rw [← hf1]; exact (skip_le hft).2
    clear hf1 hidv
    go_upto_if 38 with fail
    go_cut [9] (fun v9 wx => v9 = .int .i64 (f1 : Int) ∧ PS w wx B g b q b cap q o jc (S.set k ⟨s.above, s.by_, s.depth, idv, s.first, s.many⟩) ((k, f, t) :: J) #[.int .i64 k, .int .i64 f, .int .i64 t])
    case first =>
      cases bb with
      | true =>
        have h2 := of_decide_eq_true HBB.out
        have e1 : f1 = f + 1 := by rw [← HF1.out]; unfold skipF; rw [if_pos h2]
        have e2 : idv = (f : Int) := by rw [← HIDV.out, if_pos h2]
        subst e1; subst e2
        have HPS2 := Lib.hid ((HPS1.out.drew).set (k := k) (r := 3) (u := .int .i64 (f : Int)) HK.out (by decide) (s' := ⟨s.above, s.by_, s.depth, (f : Int), s.first, s.many⟩) rfl)
        have d3 : wc.frozen? ⟨b, k * 6 + 3, none⟩ = false := HPS1.out.tr.row.free
        have d3c : wc.cell? ⟨b, k * 6 + 3, none⟩ = some (.int .i64 s.id) := by rw [HPS1.out.tr.cell HK.out 3 (by decide)]; rfl
        clear h2
        go_wp2
        go_region
        go_wp2
        go_meet
        exact ⟨by simp, HPS2.out⟩
      | false =>
        have h2 := of_decide_eq_false HBB.out
        have e1 : f1 = f := by rw [← HF1.out]; unfold skipF; rw [if_neg h2]
        have e2 : idv = -1 := by rw [← HIDV.out, if_neg h2]
        have e3 : S.set k ⟨s.above, s.by_, s.depth, idv, s.first, s.many⟩ = S := by
          rw [show (⟨s.above, s.by_, s.depth, idv, s.first, s.many⟩ : TSt) = s by rw [e2, ← HID.out]]
          exact set_same S k s HK.out
        clear h2
        go_wp2
        go_meet
        exact ⟨by rw [e1], by rw [e3]; exact HPS1.out⟩
    case rest =>
      obtain ⟨rfl, hps⟩ := hcut
      have HPS2 := Lib.hid hps
      clear hps c0 j0 j1 j2 HPS1 hz1 hz1n hz2
      have HK2 := Lib.hid (show (S.set k ⟨s.above, s.by_, s.depth, idv, s.first, s.many⟩)[k]? = some ⟨s.above, s.by_, s.depth, idv, s.first, s.many⟩ from List.getElem?_set_self hkS)
      have c0 := HPS2.out.tr.box.cell 0
      rw [List.length_set] at c0
      have j0 := HPS2.out.jb.cell 0
      have j2 := HPS2.out.jb.cell 2
      have d4 : wc.frozen? ⟨b, k * 6 + 4, none⟩ = false := HPS2.out.tr.row.free
      have d4c : wc.cell? ⟨b, k * 6 + 4, none⟩ = some (.int .i64 s.first) := by rw [HPS2.out.tr.cell HK2.out 4 (by decide)]; rfl
      have HPS3 := Lib.hid (show PS w (wc.drew.setCell ⟨b, k * 6 + 4, none⟩ (.int .i64 (S.length : Int))) B g b q b cap q o jc (midS S k d idv [] s) ((k, f, t) :: J) #[.int .i64 k, .int .i64 f, .int .i64 t] by
        have := (HPS2.out.drew).set (k := k) (r := 4) (u := .int .i64 (S.length : Int)) HK2.out (by decide) (s' := ⟨s.above, s.by_, s.depth, idv, S.length, s.many⟩) rfl
        rw [List.set_set, HM.out] at this
        unfold midS
        simpa using this)
      obtain ⟨N, hN⟩ : ∃ N, S.length = N := ⟨_, rfl⟩
      have HNN := Lib.hid hN
      rw [hN] at hkS hS c0 HPS3
      clear hN
      go_upto_region 7 with fail
      go_region
      go_wp2
      go_step3
      go_wp2
      have HTi0 := Lib.hid (Tile.start l d t f1)
      have hf0 : f ≤ f1 := by rw [← HF1.out]; exact (skip_le hft).1
      clear c0 j0 j2 d4 d4c HPS2 HK2
      go_loopg [2, 9] (t - f1) (fun gh v2 v9 wr => ∃ (x : Nat) (gs : List (UInt8 × Nat × Nat)) (b1 cap1 q1 o1 jc1 : Nat), x + gh = t ∧ f1 ≤ x ∧ v9 = .int .i64 (x : Int) ∧ v2 = .slice (some ⟨q1, o1, none⟩) (nj + gs.length) jc1 ∧ gs.length ≤ x ∧ RowKit.Hid (Tile l d t f1 x gs) ∧ RowKit.Hid (PS w wr B g b q b1 cap1 q1 o1 jc1 (midS S k d idv gs s) (((k, f, t) :: J) ++ numJ N gs) #[.int .i64 k, .int .i64 f, .int .i64 t]))
      case atStart => exact ⟨f1, [], b, cap, q, o, jc, by omega, Nat.le_refl _, rfl, rfl, Nat.zero_le _, HTi0, Lib.hid (by simp only [numJ, List.append_nil]; exact HPS3.out)⟩
      case round =>
        obtain ⟨x, gs, b1, cap1, q1, o1, jc1, hxg, hfx, rfl, rfl, hgl2, HTi, HP⟩ := hrel
        clear HTi0 HPS3
        have hml : (midS S k d idv gs s).length = N + gs.length := by unfold midS; simp [HNN.out]
        have hjl : (((k, f, t) :: J) ++ numJ N gs).length = nj + gs.length := by have := HNJ.out; simp [numJ_len]; omega
        obtain ⟨N1, hN1⟩ : ∃ N1, N + gs.length = N1 := ⟨_, rfl⟩
        obtain ⟨n1, hn1⟩ : ∃ n1, nj + gs.length = n1 := ⟨_, rfl⟩
        have HN1 := Lib.hid hN1
        have HNn := Lib.hid hn1
        have hN1l : N1 ≤ 1010000 := by omega
        have hn1l : n1 ≤ 1010001 := by have := HNJ.out; omega
        rw [hN1] at hml
        rw [hn1] at hjl
        rw [hn1]
        clear hN1 hn1
        have HML := Lib.hid hml
        have HJL := Lib.hid hjl
        have j2 := HP.out.jb.cell 2
        have c0 := HP.out.tr.box.cell 0
        rw [hml] at c0
        clear hml hjl
        cases gk with
        | zero =>
          obtain rfl : x = t := by omega
          clear c0
          go_wp2
          try rw [Exit.noGoto_ret]
          go_ret
          refine ⟨gs, b1, cap1, q1, o1, jc1, ?_, ?_, ?_, ?_, HP.out.keep, HP.out.hb, HP.out.hq⟩
          · rw [HNN.out, HJL.out]; rfl
          · rw [HDL.out, HF1.out]; exact HTi.out
          · rw [HIDV.out, HDL.out]
            have := HP.out.tr
            unfold midS at this
            exact this
          · rw [HNN.out]; exact HP.out.qa
        | succ gh0 =>
          obtain ⟨ad, x0, rfl, hx0, xc⟩ := word_at (HSX.out _ HP.out.keep) (show x < n by omega)
          have hgo := (goes_on HLs.out HR.out hx0).2 ⟨by rw [HF1.out]; exact hfx, by omega⟩
          rw [HDL.out] at hgo
          have hx0l := HL.out x0 (List.mem_of_getElem? hx0)
          obtain ⟨cc, _, hcc, hga⟩ := at_c hgo.2
          have hdl : d < x0.length := hgo.2
          have hccl := cc.toNat_lt
          have HX0 := Lib.hid hx0
          have HCC := Lib.hid hcc
          have hxt : (x : Int) < (t : Int) := by omega
          clear hgo hx0 hcc
          go_wp2
          have HJ0 : Hid (∀ (i : Nat) (x' : List UInt8), l[i]? = some x' → x ≤ i → i < x + 1 → x'[d]? = some cc) := Lib.hid (fun i x' h1 h2 h3 => by
            obtain rfl : i = x := by omega
            rw [HX0.out] at h1
            cases h1
            exact HCC.out)
          clear xc hga hdl hx0l
          go_loopg [2, 9, 11] (t - (x + 1)) (fun g2 v2 v9 v11 wy => ∃ y : Nat, y + g2 = t ∧ x < y ∧ v2 = .slice (some ⟨q1, o1, none⟩) n1 jc1 ∧ v9 = .int .i64 (x : Int) ∧ v11 = .int .i64 (y : Int) ∧ RowKit.Hid (∀ (i : Nat) (x' : List UInt8), l[i]? = some x' → x ≤ i → i < y → x'[d]? = some cc) ∧ wy = wr)
          case atStart => exact ⟨x + 1, by omega, by omega, rfl, rfl, by go_num, HJ0, rfl⟩
          case round =>
            obtain ⟨y, hyg, hxy, rfl, rfl, rfl, HJ, rfl⟩ := hrel
            clear HJ0
            obtain ⟨lv, hlv⟩ : ∃ lv : Bool, decide (y < t ∧ ∃ y0, l[y]? = some y0 ∧ y0[d]? = some cc) = lv := ⟨_, rfl⟩
            have HLV := Lib.hid hlv
            clear hlv
            go_upto_region 12 with fail
            go_cut [90] (fun v90 wx => v90 = .bool lv ∧ wx = wr)
            case first =>
              by_cases hyt : y < t
              · obtain ⟨ad2, y0, had, hy0, yc⟩ := word_at (HSX.out _ HP.out.keep) (show y < n by omega)
                obtain rfl : ad = ad2 := by injection had
                have hgo := (goes_on HLs.out HR.out hy0).2 ⟨by rw [HF1.out]; omega, by omega⟩
                rw [HDL.out] at hgo
                have hy0l := HL.out y0 (List.mem_of_getElem? hy0)
                obtain ⟨dd, _, hdd, hgb⟩ := at_c hgo.2
                have hdl : d < y0.length := hgo.2
                have hddl := dd.toNat_lt
                have hyi : (y : Int) < (t : Int) := by omega
                by_cases hcd : dd = cc
                · have e1 : lv = true := by
                    rw [← HLV.out, decide_eq_true_eq]
                    exact ⟨hyt, y0, hy0, by rw [hdd, hcd]⟩
                  have hb1 : ((dd.toNat : Int) == (cc.toNat : Int)) = true := by simp [hcd]
                  clear hgo hy0 hdd hcd
                  go_wp2
                  go_meet
                  exact ⟨by rw [e1], rfl⟩
                · have e1 : lv = false := by
                    rw [← HLV.out, decide_eq_false_iff_not]
                    rintro ⟨_, y1, h1, h2⟩
                    rw [hy0] at h1
                    cases h1
                    rw [hdd] at h2
                    cases h2
                    exact hcd rfl
                  have hb1 : ((dd.toNat : Int) == (cc.toNat : Int)) = false := by
                    rw [beq_eq_false_iff_ne]
                    intro e
                    exact hcd (UInt8.toNat_inj.1 (by omega))
                  clear hgo hy0 hdd hcd
                  go_wp2
                  go_meet
                  exact ⟨by rw [e1], rfl⟩
              · have e1 : lv = false := by
                  rw [← HLV.out, decide_eq_false_iff_not]
                  exact fun h2 => hyt h2.1
                have hyi : ¬ (y : Int) < (t : Int) := by omega
                go_wp2
                go_meet
                exact ⟨by rw [e1], rfl⟩
            case rest =>
              obtain ⟨rfl, rfl⟩ := hcut
              cases lv with
              | true =>
                obtain ⟨hyt, y0, hy0, hyd⟩ := of_decide_eq_true HLV.out
                have HY0 := Lib.hid hy0
                have HYD := Lib.hid hyd
                clear hy0 hyd
                cases gk with
                | zero => omega
                | succ g3 =>
                  go_wp2
                  go_roundg g3
                  case measure => omega
                  case rel =>
                    refine ⟨y + 1, by omega, by omega, rfl, rfl, by go_num, Lib.hid (fun i x' h1 h2 h3 => ?_), rfl⟩
                    rcases Nat.lt_or_ge i y with h4 | h4
                    · exact HJ.out i x' h1 h2 h4
                    · obtain rfl : i = y := by omega
                      rw [HY0.out] at h1
                      cases h1
                      exact HYD.out
              | false =>
                have HTn := Lib.hid (HTi.out.snoc hxy HJ.out (fun h2 x' h3 h4 => (of_decide_eq_false HLV.out) ⟨h2, x', h3, h4⟩))
                have hyt : y ≤ t := by omega
                go_upto_region 13 with fail
                go_cut [2] (fun v2 wx => ∃ (q2 o2 jc2 : Nat), v2 = .slice (some ⟨q2, o2, none⟩) (n1 + 1) jc2 ∧ RowKit.Hid (PS w wx B g b q b1 cap1 q2 o2 jc2 (midS S k d idv gs s) (((k, f, t) :: J) ++ numJ N (gs ++ [(cc, x, y)])) #[.int .i64 k, .int .i64 f, .int .i64 t]))
                case first =>
                  have HNS := Lib.hid (show ((k, f, t) :: J) ++ numJ N (gs ++ [(cc, x, y)]) = (((k, f, t) :: J) ++ numJ N gs) ++ [(N1, x, y)] by
                    rw [numJ_snoc, HN1.out, List.append_assoc])
                  go_wp2_with (at_builtin; refine wpList_append_arg _ rfl (.tmp 91) (.tmp 100) 204 rfl 203 i3 (.agg #[.int .i64 0, .int .i64 0, .int .i64 0]) 3 24 Tryz.underlying204 h31 h32 h33 h34 rfl (by decide) q1 o1 n1 jc1 (jbVs (((k, f, t) :: J) ++ numJ N gs)) rfl ?lo ?olds ⟨wc.heap.size, 0, none⟩ 1 1 [.int .i64 (N1 : Int), .int .i64 (x : Int), .int .i64 (y : Int)] rfl rfl ?c1 ?c2 ?spare ?maxLen ?bytes ?room ?grow)
                  case lo => rw [jbVs_len, HJL.out]
                  case olds => exact fun i u hu => (HP.out.qa.keep ((Keeps.refl (fun _ => False) wc).alloc _) (fun hf => hf)).cell hu
                  case c1 => exact news3 _
                  case c2 => exact jbC_one (N1, x, y)
                  case spare =>
                    intro hr i hi
                    obtain ⟨cur, hb, hc1, _⟩ := (HP.out.qa.keep ((Keeps.refl (fun _ => False) wc).alloc (.cells #[.int .i64 (N1 : Int), .int .i64 (x : Int), .int .i64 (y : Int)] 203)) (fun hf => hf)).blk
                    simp at hi
                    refine ⟨?_, hb.frozen _⟩
                    rw [hb.cell, Array.getElem?_eq_getElem (by omega)]
                    rfl
                  case maxLen => unfold maxLen; omega
                  case bytes => omega
                  case room =>
                    intro hr
                    have HPn := Lib.hid (HP.out.jobPut (by rw [HJL.out]; exact hr) (N1, x, y) (.cells #[.int .i64 (N1 : Int), .int .i64 (x : Int), .int .i64 (y : Int)] 203))
                    rw [HJL.out] at HPn
                    go_wp2
                    go_meet
                    exact ⟨q1, o1, jc1, rfl, by rw [HNS.out]; exact HPn⟩
                  case grow =>
                    intro hr v' w' hrow hgr
                    have hrow' : w'.ownsRow (wc.alloc (.cells #[.int .i64 (N1 : Int), .int .i64 (x : Int), .int .i64 (y : Int)] 203)).heap.size 203 3 v' ((((k, f, t) :: J) ++ numJ N gs).length + 1) (jbVs ((((k, f, t) :: J) ++ numJ N gs) ++ [(N1, x, y)])) := by
                      rw [HJL.out, jbVs_app, alloc_size]; exact hrow
                    obtain ⟨q2, jc2, rfl, hps2⟩ := HP.out.jobNew HP.out.jb.lt hBw hgr hrow'
                    have HPn := Lib.hid hps2
                    rw [HJL.out]
                    clear hrow hrow' hgr hps2
                    go_wp2
                    go_meet
                    exact ⟨q2, 0, jc2, rfl, by rw [HNS.out]; exact HPn⟩
                case rest =>
                  obtain ⟨q2, o2, jc2, rfl, HP2⟩ := hcut
                  clear c0 j2 HP
                  have c0 := HP2.out.tr.box.cell 0
                  rw [HML.out] at c0
                  have j0 := HP2.out.jb.cell 0
                  have f0 : wc.frozen? ⟨g, 0, none⟩ = false := HP2.out.tr.box.frozen 0
                  go_upto_region 14 with fail
                  go_cut [8] (fun v8 wx => v8 = .int .i64 (d : Int) ∧ ∃ (b2 cap2 : Nat), RowKit.Hid (PS w wx B g b q b2 cap2 q2 o2 jc2 (midS S k d idv gs s ++ [⟨(k : Int), cc, d + 1, -1, 0, 0⟩]) (((k, f, t) :: J) ++ numJ N (gs ++ [(cc, x, y)])) #[.int .i64 k, .int .i64 f, .int .i64 t]))
                  case first =>
                    have HDC := Lib.hid HP2.out.drew
                    have HRw := Lib.hid (show Row wc.drew 183 6 (.slice (some ⟨b1, 0, none⟩) N1 cap1) N1 (tsVs (midS S k d idv gs s)) by have := HDC.out.tr.row; rw [HML.out] at this; exact this)
                    have hwd : IntKind.i64.wrap ((d : Int) + 1) = (d : Int) + 1 := by rw [IntKind.wrap_i64]; omega
                    have HTC := Lib.hid (show tsC ⟨(k : Int), cc, d + 1, -1, 0, 0⟩ = [.int .i64 (k : Int), .int .u8 cc.toNat, .int .i64 ((d : Int) + 1), .int .i64 (-1), .int .i64 0, .int .i64 0] by simp [tsC])
                    have HNW := Lib.hid (show ∀ (j : Nat) (u : Value), ([.int .i64 (k : Int), .int .u8 cc.toNat, .int .i64 ((d : Int) + 1), .int .i64 (-1), .int .i64 0, .int .i64 0] : List Value)[j]? = some u → ((wc.alloc (.cells #[.int .i64 (k : Int), .int .u8 cc.toNat, .int .i64 ((d : Int) + 1), .int .i64 (-1), .int .i64 0, .int .i64 0] 183)).drew).cell? ((⟨wc.heap.size, 0, none⟩ : Addr).add j) = some u from fun j u hu => news6 wc j u hu)
                    have c0A : (wc.alloc (.cells #[.int .i64 (k : Int), .int .u8 cc.toNat, .int .i64 ((d : Int) + 1), .int .i64 (-1), .int .i64 0, .int .i64 0] 183)).drew.cell? ⟨g, 0, none⟩ = some (.slice (some ⟨b1, 0, none⟩) N1 cap1) := by
                      rw [(HP2.out.tr.box.alloc (.cells #[.int .i64 (k : Int), .int .u8 cc.toNat, .int .i64 ((d : Int) + 1), .int .i64 (-1), .int .i64 0, .int .i64 0] 183)).drew.cell, HML.out]
                      rfl
                    have HRm := Lib.hid (fun (W : World) (g6 cap6 : Nat) (h : W.ownsRow 0 183 6 (.slice (some ⟨g6, 0, none⟩) (N1 + 1) cap6) (N1 + 1) (tsVs (midS S k d idv gs s) ++ [.int .i64 (k : Int), .int .u8 cc.toNat, .int .i64 ((d : Int) + 1), .int .i64 (-1), .int .i64 0, .int .i64 0])) =>
                      (show Row W 183 6 (.slice (some ⟨g6, 0, none⟩) ((midS S k d idv gs s).length + 1) cap6) ((midS S k d idv gs s).length + 1) (tsVs (midS S k d idv gs s) ++ tsC ⟨(k : Int), cc, d + 1, -1, 0, 0⟩) by rw [HTC.out, HML.out]; exact h))
                    have HZm := Lib.hid (fun (W : World) (g6 cap6 : Nat) (hr : Row W 183 6 (.slice (some ⟨g6, 0, none⟩) ((midS S k d idv gs s).length + 1) cap6) ((midS S k d idv gs s).length + 1) (tsVs (midS S k d idv gs s) ++ tsC ⟨(k : Int), cc, d + 1, -1, 0, 0⟩)) (hg : (wc.drew.alloc (.cells #[.int .i64 (k : Int), .int .u8 cc.toNat, .int .i64 ((d : Int) + 1), .int .i64 (-1), .int .i64 0, .int .i64 0] 183)).grownBy W (some b1)) (hw : some b1 = some g6 ∨ g6 = wc.drew.heap.size + 1) =>
                      (show PS w (W.setCell ⟨g, 0, none⟩ (.slice (some ⟨g6, 0, none⟩) (N1 + 1) cap6)) B g b q g6 cap6 q2 o2 jc2 (midS S k d idv gs s ++ [⟨(k : Int), cc, d + 1, -1, 0, 0⟩]) (((k, f, t) :: J) ++ numJ N (gs ++ [(cc, x, y)])) #[.int .i64 k, .int .i64 f, .int .i64 t] by
                        have := HDC.out.state (Nat.le_of_lt HP2.out.jb.lt) hBw hg hr hw
                        rw [HML.out] at this
                        exact this))
                    have HFm := Lib.hid (fun (W : World) (hg : (wc.drew.alloc (.cells #[.int .i64 (k : Int), .int .u8 cc.toNat, .int .i64 ((d : Int) + 1), .int .i64 (-1), .int .i64 0, .int .i64 0] 183)).grownBy W (some b1)) =>
                      (show W.frozen? ⟨g, 0, none⟩ = false ∧ W.cell? ⟨g, 0, none⟩ = some (.slice (some ⟨b1, 0, none⟩) N1 cap1) by
                        have hb := (HDC.out.tr.box.alloc (.cells #[.int .i64 (k : Int), .int .u8 cc.toNat, .int .i64 ((d : Int) + 1), .int .i64 (-1), .int .i64 0, .int .i64 0] 183)).grown hg (fun e => HDC.out.tr.ne (Option.some.inj e))
                        refine ⟨hb.frozen 0, ?_⟩
                        rw [hb.cell, HML.out]
                        rfl))
                    go_region_law ((with_reducible refine at_step ⟨some 114, _, _, _, _, _⟩ ?_); refine step_append_lies _ rfl (.tmp 106) (.tmp 113) 184 rfl 0 183 i6 (.agg #[.int .i64 0, .int .u8 0, .int .i64 0, .int .i64 0, .int .i64 0, .int .i64 0]) 6 48 Tryz.underlying184 h61 h62 h63 h64 rfl (by decide) (.slice (some ⟨b1, 0, none⟩) N1 cap1) N1 (tsVs (midS S k d idv gs s)) rfl (Row.alloc HRw.out _) ⟨wc.heap.size, 0, none⟩ 1 1 [.int .i64 (k : Int), .int .u8 cc.toNat, .int .i64 ((d : Int) + 1), .int .i64 (-1), .int .i64 0, .int .i64 0] rfl rfl HNW.out (by rw [← HTC.out]; exact tsC_one _) (by decide) (by unfold maxLen; omega) (by omega) (Nat.zero_le _) (wc.heap.size + 1) (by simp) ?_; intro g6 cap6 w5 hr6 hg6 hw6 hl6; have HR6 := HRm.out w5 g6 cap6 hr6; have hgr : (wc.drew.alloc (.cells #[.int .i64 (k : Int), .int .u8 cc.toNat, .int .i64 ((d : Int) + 1), .int .i64 (-1), .int .i64 0, .int .i64 0] 183)).grownBy w5 (some b1) := hg6; have hwr : some b1 = some g6 ∨ g6 = wc.drew.heap.size + 1 := hw6; have HZ6 := HZm.out w5 g6 cap6 HR6 hgr hwr; have f6 := (HFm.out w5 hgr).1; have f6c := (HFm.out w5 hgr).2; clear hr6 hg6 hw6 hgr hwr HR6)
                    all_goals
                      go_wp2_with fail
                      go_meet
                      exact ⟨rfl, _, _, Lib.hid HZ6⟩
                  case rest =>
                    obtain ⟨rfl, b2, cap2, HP3⟩ := hcut
                    clear c0 j0 f0 HP2
                    have hkm : (midS S k d idv gs s ++ [(⟨(k : Int), cc, d + 1, -1, 0, 0⟩ : TSt)])[k]? = some ⟨s.above, s.by_, s.depth, idv, S.length, gs.length⟩ := by
                      have hk0 : k < S.length := by rw [HNN.out]; exact hkS
                      unfold midS
                      rw [List.append_assoc, List.getElem?_append_left (by simpa using hk0), List.getElem?_set_self hk0]
                    have hset : (midS S k d idv gs s ++ [(⟨(k : Int), cc, d + 1, -1, 0, 0⟩ : TSt)]).set k ⟨s.above, s.by_, s.depth, idv, S.length, gs.length + 1⟩ = midS S k d idv (gs ++ [(cc, x, y)]) s := by
                      have hk0 : k < S.length := by rw [HNN.out]; exact hkS
                      unfold midS
                      rw [List.append_assoc, List.set_append_left _ _ (by simpa using hk0), List.set_set, List.map_append]
                      simp
                    have hlen : (midS S k d idv gs s ++ [(⟨(k : Int), cc, d + 1, -1, 0, 0⟩ : TSt)]).length = N1 + 1 := by rw [List.length_append, HML.out]; rfl
                    have HKM := Lib.hid hkm
                    have HSet := Lib.hid hset
                    have c0 := HP3.out.tr.box.cell 0
                    rw [hlen] at c0
                    have j0 := HP3.out.jb.cell 0
                    have f5 : wc.frozen? ⟨b2, k * 6 + 5, none⟩ = false := HP3.out.tr.row.free
                    have d5 : wc.cell? ⟨b2, k * 6 + 5, none⟩ = some (.int .i64 (gs.length : Int)) := by rw [HP3.out.tr.cell HKM.out 5 (by decide)]; rfl
                    have hkn : k < N1 + 1 := by have := HN1.out; omega
                    have hgw : IntKind.i64.wrap ((gs.length : Int) + 1) = (gs.length : Int) + 1 := by rw [IntKind.wrap_i64]; omega
                    have HP4 := Lib.hid (show PS w (wc.drew.setCell ⟨b2, k * 6 + 5, none⟩ (.int .i64 ((gs.length : Int) + 1))) B g b q b2 cap2 q2 o2 jc2 (midS S k d idv (gs ++ [(cc, x, y)]) s) (((k, f, t) :: J) ++ numJ N (gs ++ [(cc, x, y)])) #[.int .i64 k, .int .i64 f, .int .i64 t] by
                      have := HP3.out.drew.set (r := 5) (u := .int .i64 ((gs.length : Int) + 1)) HKM.out (by decide) (s' := ⟨s.above, s.by_, s.depth, idv, S.length, gs.length + 1⟩) (by simp [tsC])
                      rw [HSet.out] at this
                      exact this)
                    clear hkm hset hlen
                    go_upto_region 15 with fail
                    go_region
                    go_wp2
                    go_roundg (t - y)
                    case measure => omega
                    case rel =>
                      refine ⟨y, gs ++ [(cc, x, y)], b2, cap2, q2, o2, jc2, by omega, by omega, by go_num, ?_, by simp; omega, HTn, HP4⟩
                      have := HNn.out
                      simp
                      omega
end Go.Proofs.YtkbdfnmeomkpjaaGreat
