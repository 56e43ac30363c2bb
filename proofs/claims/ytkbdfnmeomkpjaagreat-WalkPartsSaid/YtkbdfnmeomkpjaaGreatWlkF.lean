/- However a stream is parted, the hits are those that the whole has; no condition. -/
import Derived.Test.YtkbdfnmeomkpjaaGreatWlkE
namespace Go.Proofs.YtkbdfnmeomkpjaaGreat
open Go.RowKit
set_option linter.unusedVariables false
set_option linter.unusedSimpArgs false
set_option maxRecDepth 100000

theorem and_one (n : Int) : bits .and .i64 n 1 = n % 2 := by
  have h1 : (BitVec.ofInt 64 1).toNat = 2 ^ 1 - 1 := by decide
  have key : (BitVec.ofInt 64 n &&& BitVec.ofInt 64 1).toNat = (n % ((2 ^ 64 : Nat) : Int)).toNat % 2 ^ 1 := by
    rw [BitVec.toNat_and, BitVec.toNat_ofInt, h1, Nat.and_two_pow_sub_one_eq_mod]
  show IntKind.i64.wrap ((BitVec.ofInt 64 n &&& BitVec.ofInt 64 1).toNat : Nat) = n % 2
  rw [key, IntKind.wrap_i64]
  omega
def FeedNone (l : List (List UInt8)) (g : Nat) (kind : Int) (s t : List UInt8) (nh : Nat) (w : World) : Prop :=
  Calls Tryz.prog 28 #[.pointer (some ⟨g, 0, none⟩), .string ⟨t.toArray⟩] w fun e w' => ∃ A c, e = .returned (.slice A 0 c) ∧ Keeps (fun b => b = g) w w'
theorem hW_box {w : World} {g : Nat} {kind : Int} {l : List (List UInt8)} {s : List UInt8} {nh : Nat} (h : WalkI w g kind l s nh) : ∃ cs, Blk w g 108 cs := by
  obtain ⟨ag, w0, _, _, _, hb⟩ := h
  exact ⟨_, hb⟩
set_option maxHeartbeats 8000000 in
theorem parts_row (w : World) (A : Option Addr) (m c : Nat) (l0 : List ByteArray) (k0 : Int) (s0 : ByteArray) (Az : Option Addr) (nz cz : Nat) (zs : List Int) (t0 : ByteArray) (h0 : m ≤ c ∧ m ≤ maxLen ∧ Sees w w.heap.size 1 A m (l0.map Value.string) ∧ ∀ s ∈ l0, s.size ≤ maxLen) (h1 : -9223372036854775808 ≤ k0 ∧ k0 ≤ 9223372036854775807)
    (h2 : s0.size ≤ maxLen) (h3 : nz ≤ cz ∧ nz ≤ maxLen ∧ Sees w w.heap.size 1 Az nz (zs.map (Value.int .i64)) ∧ ∀ z ∈ zs, -9223372036854775808 ≤ z ∧ z ≤ 9223372036854775807) (h4 : t0.size ≤ maxLen) :
    Calls Tryz.prog 6 #[.slice A m c, .int .i64 k0, .string s0, .slice Az nz cz, .string t0] w fun e w' => e = .returned (.bool true) ∧ Pure' w w' := by
  obtain ⟨sl, hsl⟩ : ∃ sl, s0.data.toList = sl := ⟨_, rfl⟩
  have hs0 : s0 = ⟨sl.toArray⟩ := by rw [← hsl]
  subst hs0
  clear hsl
  have hbs : (⟨sl.toArray⟩ : ByteArray).size = sl.length := Lib.size_eq _
  obtain ⟨sn, hsn⟩ : ∃ sn, sl.length = sn := ⟨_, rfl⟩
  have HSN := Lib.hid hsn
  rw [hsn] at hbs
  rw [hbs] at h2
  clear hsn
  obtain ⟨tl, htl⟩ : ∃ sl, t0.data.toList = sl := ⟨_, rfl⟩
  have ht0 : t0 = ⟨tl.toArray⟩ := by rw [← htl]
  subst ht0
  clear htl
  have hbt : (⟨tl.toArray⟩ : ByteArray).size = tl.length := Lib.size_eq _
  obtain ⟨tn, htn⟩ : ∃ sn, tl.length = sn := ⟨_, rfl⟩
  have HTN := Lib.hid htn
  rw [htn] at hbt
  rw [hbt] at h4
  clear htn
  obtain ⟨_, hm, hse, hsz⟩ := h0
  obtain ⟨_, hnz, hzs, hzb⟩ := h3
  have hll : l0.length = m := by have := hse.1; simpa using this
  have HFEW := Lib.hid (few_ A m c w.heap.size l0 w hse 8 12 (by decide) (by decide) hm hsz)
  have HAW := Lib.hid awake23_
  have HSE := Lib.hid hse
  have HLL := Lib.hid hll
  have HZS := Lib.hid (fun (W : World) (hW : Pure' w W) => hzs.pure hW (Nat.le_refl _))
  have HZB := Lib.hid hzb
  clear hse hsz hll hzs hzb
  go_enter Tryz.func6, Tryz.ntmps6
  go_wp2_with fail
  refine HFEW.out.mono ?_
  rintro e w1 ⟨⟨b0, rfl, hb0⟩, rfl⟩
  cases b0 with
  | false =>
    clear hb0
    go_wp2_with fail
    refine (HAW.out _).mono ?_
    rintro e w2 ⟨rfl, hk⟩
    have HK := Lib.hid hk
    clear hk
    go_wp2
    go_ret
    exact ⟨rfl, HK.out⟩
  | true =>
    obtain ⟨hf1, hf2⟩ := hb0.1 rfl
    have HF2 := Lib.hid hf2
    clear hb0 hf2
    by_cases q1 : 80 < sn
    · have q1i : (80 : Int) < (sn : Int) := by omega
      go_wp2_with fail
      refine (HAW.out _).mono ?_
      rintro e w2 ⟨rfl, hk⟩
      have HK := Lib.hid hk
      clear hk
      go_wp2
      go_ret
      exact ⟨rfl, HK.out⟩
    have q1i : ¬ (80 : Int) < (sn : Int) := by omega
    by_cases q2 : 50 < nz
    · have q2i : (50 : Int) < (nz : Int) := by omega
      go_wp2_with fail
      refine (HAW.out _).mono ?_
      rintro e w2 ⟨rfl, hk⟩
      have HK := Lib.hid hk
      clear hk
      go_wp2
      go_ret
      exact ⟨rfl, HK.out⟩
    have q2i : ¬ (50 : Int) < (nz : Int) := by omega
    by_cases q3 : 80 < tn
    · have q3i : (80 : Int) < (tn : Int) := by omega
      go_wp2_with fail
      refine (HAW.out _).mono ?_
      rintro e w2 ⟨rfl, hk⟩
      have HK := Lib.hid hk
      clear hk
      go_wp2
      go_ret
      exact ⟨rfl, HK.out⟩
    have q3i : ¬ (80 : Int) < (tn : Int) := by omega
    have hm12 : m ≤ 12 := by rw [← HLL.out]; omega
    have hf3 : ∀ s ∈ l0, s.size ≤ 20 := fun s hs => by have := HF2.out s hs; omega
    have HNEW := Lib.hid (new_ A m c _ l0 w HSE.out (Nat.le_refl _) hm12 hf3)
    have HRN := Lib.hid (fun (W : World) (hW : Pure' w W) => rnew_ A m c _ l0 W (HSE.out.pure hW (Nat.le_refl _)) hW.size hm12 hf3)
    have HF3 := Lib.hid hf3
    clear hf3
    go_wp2_with fail
    refine HNEW.out.mono ?_
    rintro e w1 ⟨x, er, lp, rfl, hc, hset, hk⟩
    have HC := Lib.hid hc
    have HSET := Lib.hid hset
    have HK1 := Lib.hid hk
    clear hc hset hk HNEW
    go_wp2_with fail
    refine (HRN.out _ HK1.out).mono ?_
    rintro e w2 ⟨A2, c2, lq, er2, rfl, hc2, hs2, hk⟩
    have hSW := SetW.of HC.out hc2 HSET.out hk hs2 (by rw [HLL.out]; exact hm12) HF3.out
    obtain ⟨nq, hnq⟩ : ∃ k, lq.length = k := ⟨_, rfl⟩
    rw [hnq] at hSW ⊢
    have HNW := Lib.hid (newWalk_ x lp (wrap64 (1 + bits BinOp.and IntKind.i64 k0 1)) w2 hSW.set hSW.few hSW.short hSW.ord hSW.ne)
    obtain ⟨l, hl⟩ : ∃ l, bl lp = l := ⟨_, rfl⟩
    have HSH := Lib.hid (show ∀ y ∈ l, y.length ≤ 20 by rw [← hl]; exact hSW.short)
    have HST := Lib.hid (show Sts l (statesL l) by rw [← hl]; exact states_sts hSW.ord hSW.ne)
    have HS2 := Lib.hid (show Sees w2 w2.heap.size 1 A2 nq (strVs l) by rw [← hl]; exact hSW.sees)
    have hnq12 := hSW.len
    have HL12 := Lib.hid (show l.length = nq by have := HS2.out.1; rw [strVs_len] at this; omega)
    have HK2 := Lib.hid (HK1.out.trans hk (fun _ _ hf => hf))
    rw [hl] at HNW
    clear hSW hl hnq hc2 hs2 hk HSET HC HRN
    go_wp2_with fail
    refine HNW.out.mono ?_
    rintro e w3 ⟨hcase, hk⟩
    have HK3 := Lib.hid (HK2.out.trans hk (fun _ _ hf => hf))
    have HK23 := Lib.hid hk
    clear hk HNW
    have hkb : 1 ≤ wrap64 (1 + bits BinOp.and IntKind.i64 k0 1) ∧ wrap64 (1 + bits BinOp.and IntKind.i64 k0 1) ≤ 3 := by
      rw [and_one]
      unfold wrap64
      omega
    rcases hcase with ⟨_, _, g, rfl, hwi, hg⟩ | ⟨hno, _⟩
    case inr => exact absurd hkb hno
    generalize wrap64 (1 + bits BinOp.and IntKind.i64 k0 1) = kd at *
    have HWI := Lib.hid (show WalkI w3 g kd l [] 0 from hwi)
    have HG := Lib.hid hg
    have HRC := Lib.hid (fun (W : World) (hW : Pure' w W) => rcut_ sl Az nz cz w.heap.size zs W (HZS.out W hW) hW.size (by rw [HSN.out]; omega) (by omega) HZB.out)
    clear hwi hg hkb
    go_wp2_with fail
    refine (HRC.out _ HK3.out).mono ?_
    rintro e w4 ⟨PL, Ap, cp, rfl, htx, hfl, hpn⟩
    have HWI4 := Lib.hid (HWI.out.pure htx.pure)
    have HK24 := Lib.hid (HK23.out.trans htx.pure (fun _ _ hf => hf))
    have HFL := Lib.hid hfl
    obtain ⟨mp, hmp⟩ : ∃ q, PL.length = q := ⟨_, rfl⟩
    rw [hmp] at hpn ⊢
    have HMP := Lib.hid hmp
    have HTX := Lib.hid (show Row w4 9 1 (.slice Ap mp cp) mp (strVs PL) by have := htx.row; rw [hmp] at this; exact this)
    have HPLn := Lib.hid (show ∀ x ∈ PL, x.length ≤ 80 from fun x hx => by
      have h1 := (List.sublist_flatten_of_mem hx).length_le
      rw [hfl, HSN.out] at h1
      omega)
    have hgl : g < w4.heap.size := by obtain ⟨_, hb4⟩ := hW_box HWI4.out; exact hb4.lt
    clear htx hfl hmp HRC HWI HK23
    go_wp2
    have HR0 := Lib.hid (show HsG (fun b => b = g) w4 w4 (.slice none 0 0) (progL l [] ((PL.take 0).flatten)) from ⟨Row.nil _ _ _, fun b hb => by simp [Value.ownBlock] at hb, Keeps.refl _ _⟩)
    go_loopg [17, 19] mp (fun gh v17 v19 wr => ∃ i : Nat, i + gh = mp ∧ v19 = .int .i64 (i : Int) ∧ RowKit.Hid (HsG (fun b => b = g) w4 wr v17 (progL l [] ((PL.take i).flatten))) ∧ RowKit.Hid (WalkI wr g kd l ((PL.take i).flatten) (progL l [] ((PL.take i).flatten)).length) ∧ RowKit.Hid (Row wr 9 1 (.slice Ap mp cp) mp (strVs PL)))
    case atStart => exact ⟨0, by omega, rfl, HR0, HWI4, HTX⟩
    case round =>
      obtain ⟨i, hig, rfl, HR, HW, HT⟩ := hrel
      clear HR0 HWI4 HTX
      obtain ⟨a17, c17, rfl⟩ := HR.out.form
      cases gk with
      | zero =>
        obtain rfl : i = mp := by omega
        have htk : (PL.take i).flatten = sl := by rw [List.take_of_length_le (by rw [HMP.out]; exact Nat.le_refl _), HFL.out]
        rw [htk] at HR HW ⊢
        have HK2r := Lib.hid (show Pure' w2 wr from HK24.out.trans HR.out.keeps (fun b hb e => by have := HG.out; have e : b = g := e; omega))
        have HRA := Lib.hid (show ∀ W, Pure' w2 W → Calls Tryz.prog 37 #[.slice A2 nq c2, .string ⟨sl.toArray⟩] W fun e w' => ∃ A' c', e = .returned (.slice A' (progL l [] sl).length c') ∧ Hs W w' (.slice A' (progL l [] sl).length c') (progL l [] sl) from fun W hW => by
          have := rall_ A2 nq c2 _ l sl W (HS2.out.pure hW (Nat.le_refl _)) hW.size (by omega) (by rw [HSN.out]; omega) (fun y hy => by have := HSH.out y hy; omega)
          rwa [all_is HST.out.pats] at this)
        have hlen := progL_len l [] sl
        rw [HL12.out, HSN.out] at hlen
        have hlb : (progL l [] sl).length ≤ 100000 := by
          have : (([] : List UInt8).length + sn + 1) * nq ≤ 81 * 12 := Nat.mul_le_mul (by simp; omega) hnq12
          omega
        obtain ⟨L, hL⟩ : ∃ L, progL l [] sl = L := ⟨_, rfl⟩
        rw [hL] at HR HW HRA hlb ⊢
        obtain ⟨nL, hnL⟩ : ∃ q, L.length = q := ⟨_, rfl⟩
        rw [hnL] at HR HW HRA hlb ⊢
        have HNL := Lib.hid hnL
        have HRL := Lib.hid (fun (W : World) (hW : Pure' w2 W) => rleast_ A2 nq c2 _ l W (HS2.out.pure hW (Nat.le_refl _)) (by omega) HSH.out)
        have hopb := open_le HST.out HSH.out sl
        clear htk hlen hL hnL
        go_wp2_with fail
        refine (HRA.out _ HK2r.out).mono ?_
        rintro e w5 ⟨A5, c5, rfl, hh⟩
        have HW5 := Lib.hid (HW.out.pure hh.pure)
        have HK5 := Lib.hid (HK2r.out.trans hh.pure (fun _ _ hf => hf))
        have HR5 := Lib.hid (show Row w5 103 2 (.slice a17 nL c17) nL (htVs L) by have := HR.out.row.keep hh.pure (fun _ _ hf => hf); rw [HNL.out] at this; exact this)
        have HQ5 := Lib.hid (show Row w5 103 2 (.slice A5 nL c5) nL (htVs L) by have := hh.row; rw [HNL.out] at this; exact this)
        clear hh
        go_wp2_with fail
        refine (hsame_ a17 A5 nL c17 c5 _ _ L w5 HR5.out.sees HQ5.out.sees (by omega)).mono ?_
        rintro e w6 ⟨rfl, hk⟩
        have HW6 := Lib.hid (HW5.out.pure hk)
        have HK6 := Lib.hid (HK5.out.trans hk (fun _ _ hf => hf))
        clear hk HW5 HK5 HR5 HQ5 HW
        go_wp2_with fail
        refine (whits_ g kd l sl nL _ HW6.out).mono ?_
        rintro e w7 ⟨rfl, rfl⟩
        go_wp2_with fail
        refine (HRL.out _ HK6.out).mono ?_
        rintro e w8 ⟨⟨ln, rfl, hln1, hln2⟩, rfl⟩
        have HLN := Lib.hid hln1
        have HCL := Lib.hid (wclear_ g kd l sl nL (ln : Int) w8 HW6.out (by omega) (by omega))
        obtain ⟨cn, hcn⟩ : ∃ cn : Nat, (cn : Int) = max 0 ((ln : Int) - 1 - (openV l sl : Int)) := ⟨(max 0 ((ln : Int) - 1 - (openV l sl : Int))).toNat, by omega⟩
        have hcb : cn ≤ 20 := by omega
        have HCN := Lib.hid (show cn = 0 ∨ cn + openV l sl + 1 ≤ ln by omega)
        rw [← hcn] at HCL
        clear hln1 hcn
        go_wp2_with fail
        refine HCL.out.mono ?_
        rintro e w9 ⟨rfl, hk⟩
        have HW9 := Lib.hid (HW6.out.pure hk)
        have HK9 := Lib.hid (HK6.out.trans hk (fun _ _ hf => hf))
        clear hk
        have hc0 : ¬ (cn : Int) < 0 := by omega
        have hc20 : ¬ (20 : Int) < (cn : Int) := by omega
        have fin : ∀ (k : Nat), k ≤ cn → k ≤ tn → FeedNone l g kd sl (tl.take k) nL w9 := fun k hk1 hk2 => by
          refine (feed_ g kd l sl (tl.take k) nL w9 HW9.out (by rw [HSN.out]; omega) (by rw [List.length_take]; omega) (by omega)).mono ?_
          rintro e w' ⟨A', c', rfl, hf, hwi, hnil⟩
          have hpn : progL l sl (tl.take k) = [] := by
            refine clear_none HST.out HLN.out sl _ ?_
            rcases HCN.out with q | q
            · exact .inr (by rw [show k = 0 by omega]; rfl)
            · exact .inl (by rw [List.length_take]; omega)
          rw [hpn]
          exact ⟨_, _, rfl, hf.keeps⟩
        have HFIN := Lib.hid fin
        have HXT := Lib.hid (fun (k : Nat) => show (⟨tl.toArray⟩ : ByteArray).extract 0 k = ⟨(tl.take k).toArray⟩ from bytes_eq (by simp [ByteArray.extract, ByteArray.copySlice]))
        clear fin
        by_cases hct : tn < cn
        · have hcti : (tn : Int) < (cn : Int) := by omega
          have HFD := Lib.hid (HFIN.out tn (by omega) (Nat.le_refl _))
          have hxt := HXT.out tn
          unfold FeedNone at HFD
          go_wp2_with fail
          refine HFD.out.mono ?_
          rintro e wa ⟨A9, c9, rfl, hkp⟩
          have HKA := Lib.hid (show Pure' w2 wa from HK9.out.trans hkp (fun b hb e => by have := HG.out; have e : b = g := e; omega))
          clear hkp
          go_wp2_with fail
          refine (HAW.out _).mono ?_
          rintro e wb ⟨rfl, hk⟩
          have HKB := Lib.hid ((HK2.out.trans HKA.out (fun _ _ hf => hf)).trans hk (fun _ _ hf => hf))
          clear hk
          go_wp2
          go_ret
          exact ⟨rfl, HKB.out⟩
        · have hcti : ¬ (tn : Int) < (cn : Int) := by omega
          have hcle : (cn : Int) ≤ (tn : Int) := by omega
          have HFD := Lib.hid (HFIN.out cn (Nat.le_refl _) (by omega))
          have hxt := HXT.out cn
          unfold FeedNone at HFD
          go_wp2_with fail
          refine HFD.out.mono ?_
          rintro e wa ⟨A9, c9, rfl, hkp⟩
          have HKA := Lib.hid (show Pure' w2 wa from HK9.out.trans hkp (fun b hb e => by have := HG.out; have e : b = g := e; omega))
          clear hkp
          go_wp2_with fail
          refine (HAW.out _).mono ?_
          rintro e wb ⟨rfl, hk⟩
          have HKB := Lib.hid ((HK2.out.trans HKA.out (fun _ _ hf => hf)).trans hk (fun _ _ hf => hf))
          clear hk
          go_wp2
          go_ret
          exact ⟨rfl, HKB.out⟩
      | succ g3 =>
        have hii : (i : Int) < (mp : Int) := by omega
        obtain ⟨ad, pt, rfl, hpt, xc⟩ := word_at HT.out.sees (show i < mp by omega)
        have hptl := HPLn.out pt (List.mem_of_getElem? hpt)
        have HUN := Lib.hid (show (PL.take (i + 1)).flatten = (PL.take i).flatten ++ pt by rw [List.take_add_one, hpt, List.flatten_append]; simp)
        have hul : ((PL.take i).flatten).length ≤ 80 := by
          have h1 := congrArg (fun z => (List.flatten z).length) (List.take_append_drop i PL)
          simp only [List.flatten_append, List.length_append, HFL.out, HSN.out] at h1
          omega
        clear hpt
        obtain ⟨u, hu⟩ : ∃ u, (PL.take i).flatten = u := ⟨_, rfl⟩
        rw [hu] at HUN HR HW hul ⊢
        clear hu
        have HPA := Lib.hid (show progL l [] (u ++ pt) = progL l [] u ++ progL l u pt by have := prog_app l [] u pt; rwa [List.nil_append] at this)
        have hlu := progL_len l [] u
        have hlp := progL_len l u pt
        rw [HL12.out] at hlu hlp
        have hlub : (progL l [] u).length ≤ 100000 := by
          have : (([] : List UInt8).length + u.length + 1) * nq ≤ 81 * 12 := Nat.mul_le_mul (by simp; omega) hnq12
          omega
        have hlpb : (progL l u pt).length ≤ 100000 := by
          have : (u.length + pt.length + 1) * nq ≤ 161 * 12 := Nat.mul_le_mul (by omega) hnq12
          omega
        have HFD := Lib.hid (feed_ g kd l u pt _ wr HW.out (by omega) (by omega) (by omega))
        obtain ⟨L0, hL0⟩ : ∃ L, progL l [] u = L := ⟨_, rfl⟩
        obtain ⟨L1, hL1⟩ : ∃ L, progL l u pt = L := ⟨_, rfl⟩
        unfold FeedPost at HFD
        rw [hL0] at HR HW HPA hlub HFD ⊢
        rw [hL1] at HPA hlpb HFD
        obtain ⟨n0, hn0⟩ : ∃ q, L0.length = q := ⟨_, rfl⟩
        obtain ⟨n1, hn1⟩ : ∃ q, L1.length = q := ⟨_, rfl⟩
        rw [hn0] at HR HW hlub HFD ⊢
        rw [hn1] at hlpb HFD
        have HN0 := Lib.hid hn0
        have HN1 := Lib.hid hn1
        obtain ⟨bcs, hbcs⟩ := hW_box HW.out
        have HBX := Lib.hid hbcs
        have hlb2 : n0 + n1 ≤ 200000 := by omega
        clear hL0 hL1 hn0 hn1 hlu hlp hbcs
        go_wp2_with fail
        refine HFD.out.mono ?_
        rintro e w5 ⟨A5, c5, rfl, hf, hwi, hnil⟩
        have HK5 := Lib.hid hf.keeps
        have HR17 := Lib.hid (show Row w5 103 2 (.slice a17 n0 c17) n0 (htVs L0) by have := HR.out.row.keep hf.keeps (fun b hb e => HR.out.row.blk_ne HBX.out (by decide) (by rw [hb]; exact congrArg some e)); rw [HN0.out] at this; exact this)
        have HRN := Lib.hid (show Row w5 103 2 (.slice A5 n1 c5) n1 (htVs L1) by have := hf.row; rw [HN1.out] at this; exact this)
        have HT5 := Lib.hid (HT.out.keep hf.keeps (fun b hb e => HT.out.blk_ne HBX.out (by decide) (by rw [hb]; exact congrArg some e)))
        have HO5 := Lib.hid (show ∀ b, (Value.slice a17 n0 c17).ownBlock = some b → w4.heap.size ≤ b from HR.out.own)
        have HKE := Lib.hid (show Keeps (fun b => b = g) w4 w5 from HR.out.keeps.trans hf.keeps (fun _ _ h => h))
        have HWN := Lib.hid hwi
        have HNL := Lib.hid hnil
        clear hf hwi hnil HR HW HT HFD xc
        by_cases hn1 : n1 = 0
        · have hL1 : L1 = [] := List.length_eq_zero_iff.1 (by rw [HN1.out]; exact hn1)
          obtain ⟨rfl, rfl⟩ := HNL.out hL1
          subst hn1
          obtain ⟨i0, hi, hz0, hz1, hz2⟩ := info_parts htInfo
          have HRE := Lib.hid (show HsG (fun b => b = g) w4 w5 (.slice a17 n0 c17) (progL l [] (u ++ pt)) by rw [HPA.out, hL1, List.append_nil]; exact ⟨by rw [HN0.out]; exact HR17.out, HO5.out, HKE.out⟩)
          have HWE := Lib.hid (show WalkI w5 g kd l (u ++ pt) (progL l [] (u ++ pt)).length by rw [HPA.out, List.length_append, HN0.out, HN1.out]; exact HWN.out)
          go_wp2_with (at_builtin; refine wpList_append_own_none rfl (.tmp 73) (.tmp 79) 58 rfl 0 103 i0 2 Tryz.underlying58 hi (.slice a17 n0 c17) n0 (htVs L0) rfl HR17.out rfl ?_)
          go_roundg g3
          case measure => omega
          case rel => exact ⟨i + 1, by omega, by go_num, by rw [HUN.out]; exact HRE, by rw [HUN.out]; exact HWE, HT5⟩
        · obtain ⟨bN, capN, hA5, _, _⟩ := HRN.out.some_ (by omega)
          obtain ⟨rfl, rfl⟩ : A5 = some ⟨bN, 0, none⟩ ∧ c5 = capN := by injection hA5 with q1 q2 q3; exact ⟨q1, q3⟩
          obtain ⟨i0, hi, hz0, hz1, hz2⟩ := info_parts htInfo
          obtain ⟨bcs, hbcs⟩ := hW_box HWN.out
          have HBX5 := Lib.hid hbcs
          have HNW := Lib.hid (show ∀ j v, (htVs L1)[j]? = some v → w5.cell? ((⟨bN, 0, none⟩ : Addr).add j) = some v from World.ownsRow.cells HRN.out (g := bN) rfl)
          have HON := Lib.hid (show ∀ v ∈ htVs L1, v.oneCell' = true from fun v hv => by
            unfold htVs at hv
            obtain ⟨x, _, hv⟩ := List.mem_flatMap.1 hv
            simp [htC] at hv
            rcases hv with rfl | rfl <;> rfl)
          have HLN := Lib.hid (show (htVs L1).length = n1 * 2 by rw [htVs_len, HN1.out])
          clear hA5 hbcs
          go_wp2_with (at_builtin; refine wpl_append _ rfl (.tmp 73) (.tmp 79) 58 rfl 103 i0 (.agg #[.int .i64 0, .int .i64 0]) 2 16 Tryz.underlying58 hi hz0 hz1 hz2 rfl (by decide) (.slice a17 n0 c17) n0 (htVs L0) rfl HR17.out ⟨bN, 0, none⟩ n1 c5 (htVs L1) rfl HLN.out HNW.out HON.out (by omega) (by unfold maxLen; omega) (by omega) ?kk)
          case kk =>
            intro b1 cap1 w6 ho1 hg1 hb1 hl1
            have HRE := Lib.hid (show HsG (fun b => b = g) w4 w6 (.slice (some ⟨b1, 0, none⟩) (n0 + n1) cap1) (progL l [] (u ++ pt)) by
              rw [HPA.out]
              refine ⟨?_, fun b e => ?_, HKE.out.grown hg1 (fun k hk => .inr (HO5.out k hk))⟩
              · rw [List.length_append, HN0.out, HN1.out, htVs_app]; exact ho1
              · simp [Value.ownBlock] at e
                subst e
                rcases hb1 with q | q
                · exact HO5.out _ q
                · rw [q]; exact HKE.out.size)
            have HWE := Lib.hid (show WalkI w6 g kd l (u ++ pt) (progL l [] (u ++ pt)).length by
              rw [HPA.out, List.length_append, HN0.out, HN1.out]
              obtain ⟨ag, w0, q1, q2, q3, q4⟩ := HWN.out
              refine ⟨ag, w0, q1, ?_, q3, q4.grown hg1 (fun e => HR17.out.blk_ne q4 (by decide) e)⟩
              have hw4 : w0.heap.size ≤ w4.heap.size := by omega
              exact q2.grown hg1 (fun k hk => .inr (by have := HO5.out k hk; omega)))
            have HT6 := Lib.hid (HT5.out.grown_ hg1 (fun b hb e => by
              obtain ⟨cs, hcs⟩ := HT5.out.blk hb
              exact HR17.out.blk_ne hcs (by decide) e))
            clear ho1 hg1 hb1 hl1
            go_wp2
            go_roundg g3
            case measure => omega
            case rel => exact ⟨i + 1, by omega, by go_num, by rw [HUN.out]; exact HRE, by rw [HUN.out]; exact HWE, HT6⟩

end Go.Proofs.YtkbdfnmeomkpjaaGreat
