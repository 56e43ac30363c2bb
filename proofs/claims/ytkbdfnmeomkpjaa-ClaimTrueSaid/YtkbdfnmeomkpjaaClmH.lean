/- What holds is true, walked; no condition. -/
import Derived.Test.YtkbdfnmeomkpjaaClmG
import Derived.Test.YtkbdfnmeomkpjaaPatF
namespace Go.Proofs.Ytkbdfnmeomkpjaa
open Go.RowKit
set_option linter.unusedVariables false
set_option linter.unusedSimpArgs false
set_option maxRecDepth 100000

/-- What comes of texts by the reference. -/
def RNewE (l : List ByteArray) (w : World) (e : Ending) (w' : World) : Prop :=
  ∃ (A : Option Addr) (c : Nat) (l' : List ByteArray) (er : Int), e = .returned (.tuple #[.slice A l'.length c, .int .i64 er]) ∧ ((OkL l ∧ er = 0 ∧ l'.Perm l ∧ InOrd l') ∨ (¬ OkL l ∧ er ≠ 0 ∧ l' = [])) ∧ Sees w' w'.heap.size 1 A l'.length (l'.map Value.string) ∧ Pure' w w'

set_option maxHeartbeats 2000000 in
theorem rnewE_ (A : Option Addr) (m c B : Nat) (l : List ByteArray) (w : World) (h : Sees w B 1 A m (l.map Value.string)) (hB : B ≤ w.heap.size) (hm : m ≤ 12) (hl : ∀ s ∈ l, s.size ≤ 20) :
    Calls Try.prog 13 #[.slice A m c] w fun e w' => RNewE l w e w' := by
  have hll : l.length = m := by have := h.1; simpa using this
  have HS := Lib.hid h
  have HN := Lib.hid hll
  have HL := Lib.hid hl
  clear h hll hl
  by_cases h0 : m = 0
  · subst h0
    have HE : Hid (l = []) := Lib.hid (List.eq_nil_of_length_eq_zero HN.out)
    go_enter Try.func13, Try.ntmps13
    go_wp2
    go_ret2
    exact ⟨none, 0, [], 14, rfl, .inr ⟨fun hk => hk.1 HE.out, by decide, rfl⟩, Sees.nil _ _ _ _, Keeps.refl _ _⟩
  have h0' : ((m : Int) == 0) = false := by rw [beq_eq_false_iff_ne]; omega
  have h0n : 0 < m := by omega
  clear h0
  go_enter Try.func13, Try.ntmps13
  go_wp2
  go_loopw [4, 5] (fun v4 v5 wr => ∃ k : Nat, k ≤ m ∧ v5 = .int .i64 k ∧ v4 = .int .i64 (sumL (l.take k) : Nat) ∧ sumL (l.take k) ≤ 20 * k ∧ (∀ s ∈ l.take k, s.size ≠ 0) ∧ wr = w) (fun _ v5 _ => m - (intOf v5).toNat)
  case atStart => exact ⟨0, Nat.zero_le _, rfl, rfl, by simp [sumL], by simp, rfl⟩
  case round =>
    obtain ⟨k, hk, rfl, rfl, hsu, hne, rfl⟩ := hrel
    have HNE := Lib.hid hne
    clear hne
    by_cases hlt : k < m
    · obtain ⟨ad, s, rfl, hs, hc⟩ := text_at HS.out hlt
      have hs20 := HL.out s (List.mem_of_getElem? hs)
      have HSN := Lib.hid (take_snoc hs)
      have HMEM := Lib.hid (List.mem_of_getElem? hs)
      have HE3 := Lib.hid (show sumL (l.take (k + 1)) = sumL (l.take k) + s.size by rw [take_snoc hs]; exact sum_snoc _ _)
      clear hs
      generalize sumL (l.take k) = x at *
      by_cases hz : s.size = 0
      · have HZ := Lib.hid hz
        have he : s = ByteArray.empty := by
          cases s with | mk d => cases d with | mk d => cases d with | nil => rfl | cons _ _ => simp [ByteArray.size] at hz
        clear hz
        subst he
        go_wp2
        go_ret2
        exact ⟨none, 0, [], 7, rfl, .inr ⟨fun hk => hk.2.1 _ HMEM.out rfl, by decide, rfl⟩, Sees.nil _ _ _ _, Keeps.refl _ _⟩
      · have HZ := Lib.hid hz
        have hq : s.toList.isEmpty = false := by
          rw [ByteArray.toList_eq]
          cases s with | mk d => cases d with | mk d => cases d with | nil => exact absurd rfl hz | cons _ _ => rfl
        clear hz
        go_wp2
        go_roundw
        case rel =>
          refine ⟨k + 1, by omega, by go_num, by rw [HE3.out]; go_num, by rw [HE3.out]; omega, fun t ht => ?_, trivial⟩
          rw [HSN.out] at ht
          rcases List.mem_append.1 ht with ht | ht
          · exact HNE.out t ht
          · rw [List.mem_singleton.1 ht]; exact HZ.out
        case measure => simp [intOf] <;> omega
    · obtain rfl : k = m := by omega
      have hlk : l.take k = l := List.take_of_length_le (by rw [HN.out]; exact Nat.le_refl _)
      have HNE2 : Hid (∀ s ∈ l, s.size ≠ 0) := Lib.hid (by have := HNE.out; rwa [hlk] at this)
      clear HNE hlk
      generalize sumL (l.take k) = x at *
      have HTW := Lib.hid (rtwice_ A k c B l wr HS.out (by omega))
      have HSO := Lib.hid (fun w1 (hp : Pure' wr w1) => rsorted_ A k c B l w1 (HS.out.pure hp hB) (Nat.le_trans hB hp.size) hm)
      go_wp2_with fail
      refine HTW.out.mono ?_
      rintro e w1 ⟨t, rfl, ht, q, rfl⟩
      have HP1 := Lib.hid ((Keeps.refl (fun _ => False) wr).drewN q)
      rcases ht with ⟨rfl, hnd⟩ | ⟨ht0, hnd⟩
      · have HND := Lib.hid hnd
        clear hnd
        go_wp2_with fail
        refine (HSO.out _ HP1.out).mono ?_
        rintro e w2 ⟨A2, c2, l', rfl, hperm, hsees, hp2⟩
        have HH := Lib.hid (And.intro hperm (And.intro hsees (HP1.out.then_ hp2)))
        clear hperm hsees hp2
        go_wp2
        go_ret2
        exact ⟨A2, c2, l', 0, rfl, .inl ⟨⟨fun e => by have := HN.out; rw [e] at this; simp at this; omega, HNE2.out, HND.out⟩, rfl, HH.out.1.1, HH.out.1.2⟩, HH.out.2.1, HH.out.2.2⟩
      · have HND := Lib.hid hnd
        clear hnd
        go_wp2
        go_ret2
        exact ⟨none, 0, [], 8, rfl, .inr ⟨fun hk => HND.out hk.2.2, by decide, rfl⟩, Sees.nil _ _ _ _, HP1.out⟩
theorem allL_len2 (l : List (List UInt8)) (s : List UInt8) : (Hg.allL l s).length ≤ (s.length + 1) * l.length := by
  have key : ∀ n, (Hg.allE l s n).length ≤ n * l.length := by
    intro n
    induction n with
    | zero => simp [Hg.allE]
    | succ n ih =>
      rw [Hg.allE_succ, List.length_append, Nat.succ_mul]
      have := Hg.rowK_len l s n l.length
      omega
  exact key _
theorem cov_small {lp : List ByteArray} {s : List UInt8} {kind n : Int} {zs : List Int} (h : hoB lp s kind n zs = true) : coV kind n ≤ (minL lp : Int) + 1 := by
  unfold coV
  by_cases h12 : kind = 1 ∨ kind = 2
  · rw [if_pos h12]
    by_cases hn : n < 0
    · rw [if_pos hn]; omega
    · rw [if_neg hn]
      unfold hoB at h
      split at h
      · cases h
      · split at h
        · cases h
        · rcases h12 with rfl | rfl
          · rw [if_pos rfl] at h
            unfold skB at h
            split at h
            · unfold skipB at h
              rw [Bool.and_eq_true, Bool.and_eq_true, decide_eq_true_iff, decide_eq_true_iff] at h
              have := h.1.2
              omega
            · cases h
          · rw [if_neg (by decide), if_pos rfl] at h
            unfold leB at h
            split at h
            · unfold leapB at h
              rw [Bool.and_eq_true, Bool.and_eq_true, decide_eq_true_iff, decide_eq_true_iff] at h
              have := h.1.2
              omega
            · cases h
  · rw [if_neg h12]
    split <;> omega
def namK (L : List Hg.HitT) (a : Nat) (c : Int) (k : Nat) : List Int := ((L.take k).filter (inR a c)).map (fun x => x.2)
theorem namK_succ {L : List Hg.HitT} {a : Nat} {c : Int} {k : Nat} {x : Hg.HitT} (h : L[k]? = some x) : namK L a c (k + 1) = namK L a c k ++ (if inR a c x = true then [x.2] else []) := by
  unfold namK
  rw [List.take_add_one, h, List.filter_append, List.map_append]
  congr 1
  show ((List.filter (inR a c) [x]).map _) = _
  rw [List.filter_cons, List.filter_nil]
  split <;> rfl
set_option maxHeartbeats 8000000 in
theorem true_row (w : World) (A : Option Addr) (m c : Nat) (l0 : List ByteArray) (s0 t0 : ByteArray) (k0 n0 q0 : Int) (A4 : Option Addr) (m4 c4 : Nat) (zs : List Int) (h0 : m ≤ c ∧ m ≤ maxLen ∧ Sees w w.heap.size 1 A m (l0.map Value.string) ∧ ∀ s ∈ l0, s.size ≤ maxLen) (h1 : s0.size ≤ maxLen) (h2 : t0.size ≤ maxLen)
    (hkk : -9223372036854775808 ≤ k0 ∧ k0 ≤ 9223372036854775807) (hnn : -9223372036854775808 ≤ n0 ∧ n0 ≤ 9223372036854775807) (hqq : -9223372036854775808 ≤ q0 ∧ q0 ≤ 9223372036854775807)
    (h3 : m4 ≤ maxLen ∧ Sees w w.heap.size 1 A4 m4 (zs.map (Value.int .i64)) ∧ ∀ z ∈ zs, -9223372036854775808 ≤ z ∧ z ≤ 9223372036854775807) :
    Calls Try.prog 8 #[.slice A m c, .string s0, .string t0, .agg #[.int .i64 k0, .int .i64 n0, .int .i64 q0, .slice A4 m4 c4]] w fun e w' => e = .returned (.bool true) ∧ Pure' w w' := by
  obtain ⟨sl, hsl⟩ : ∃ sl, s0.data.toList = sl := ⟨_, rfl⟩
  have hs0 : s0 = ⟨sl.toArray⟩ := by rw [← hsl]
  subst hs0
  clear hsl
  obtain ⟨tl, htl⟩ : ∃ sl, t0.data.toList = sl := ⟨_, rfl⟩
  have ht0 : t0 = ⟨tl.toArray⟩ := by rw [← htl]
  subst ht0
  clear htl
  have hbs : (⟨sl.toArray⟩ : ByteArray).size = sl.length := Lib.size_eq _
  have hbt : (⟨tl.toArray⟩ : ByteArray).size = tl.length := Lib.size_eq _
  obtain ⟨sn, hsn⟩ : ∃ sn, sl.length = sn := ⟨_, rfl⟩
  have HSN := Lib.hid hsn
  obtain ⟨tn, htn⟩ : ∃ sn, tl.length = sn := ⟨_, rfl⟩
  have HTN := Lib.hid htn
  rw [hsn] at hbs
  rw [htn] at hbt
  rw [hbs] at h1
  rw [hbt] at h2
  clear hsn htn
  obtain ⟨_, hm, hse, hsz⟩ := h0
  obtain ⟨hm4, hz4, _⟩ := h3
  have hll : l0.length = m := by have := hse.1; simpa using this
  have HK0 := Lib.hid (show Pure' w (w.alloc (.cells #[.int .i64 k0, .int .i64 n0, .int .i64 q0, .slice A4 m4 c4] 68)) from (Keeps.refl _ w).alloc _)
  have HBR := Lib.hid (show Blk (w.alloc (.cells #[.int .i64 k0, .int .i64 n0, .int .i64 q0, .slice A4 m4 c4] 68)) w.heap.size 68 #[.int .i64 k0, .int .i64 n0, .int .i64 q0, .slice A4 m4 c4] from Blk.newAt rfl)
  have HFEW := Lib.hid (fun (W : World) (hW : Pure' w W) => few_ A m c w.heap.size l0 W (hse.pure hW (Nat.le_refl _)) 8 12 (by decide) (by decide) hm hsz)
  have HAW := Lib.hid awake36_
  have HSE := Lib.hid hse
  have HZ4 := Lib.hid hz4
  have HLL := Lib.hid hll
  clear hse hsz hll hz4
  go_enter Try.func8, Try.ntmps8
  go_wp2_with fail
  generalize (w.alloc (.cells #[.int .i64 k0, .int .i64 n0, .int .i64 q0, .slice A4 m4 c4] 68)) = W0 at *
  obtain ⟨br, hbr⟩ : ∃ b, w.heap.size = b := ⟨_, rfl⟩
  have HBRE := Lib.hid hbr
  rw [hbr] at HBR ⊢
  clear hbr
  refine (HFEW.out W0 HK0.out).mono ?_
  rintro e w1 ⟨⟨b0, rfl, hb0⟩, rfl⟩
  have r3 := HBR.out.cell 3
  cases b0 with
  | false =>
    clear hb0
    go_wp2_with fail
    refine (HAW.out _).mono ?_
    rintro e w2 ⟨rfl, hk⟩
    have HK := Lib.hid (HK0.out.trans hk (fun _ _ hf => hf))
    clear hk
    go_wp2_with fail
    go_ret
    exact ⟨rfl, HK.out⟩
  | true =>
    obtain ⟨hf1, hf2⟩ := hb0.1 rfl
    have hm12 : m ≤ 8 := by rw [← HLL.out]; omega
    have HF2 := Lib.hid hf2
    clear hb0 hf1 hf2
    by_cases hs60 : 60 < sn
    · have hs60i : (60 : Int) < (sn : Int) := by omega
      go_wp2_with fail
      refine (HAW.out _).mono ?_
      rintro e w2 ⟨rfl, hk⟩
      have HK := Lib.hid (HK0.out.trans hk (fun _ _ hf => hf))
      clear hk
      go_wp2_with fail
      go_ret
      exact ⟨rfl, HK.out⟩
    have hs60i : ¬ (60 : Int) < (sn : Int) := by omega
    by_cases ht60 : 60 < tn
    · have ht60i : (60 : Int) < (tn : Int) := by omega
      go_wp2_with fail
      refine (HAW.out _).mono ?_
      rintro e w2 ⟨rfl, hk⟩
      have HK := Lib.hid (HK0.out.trans hk (fun _ _ hf => hf))
      clear hk
      go_wp2_with fail
      go_ret
      exact ⟨rfl, HK.out⟩
    have ht60i : ¬ (60 : Int) < (tn : Int) := by omega
    by_cases hm30 : 30 < m4
    · have hm30i : (30 : Int) < (m4 : Int) := by omega
      go_wp2_with fail
      refine (HAW.out _).mono ?_
      rintro e w2 ⟨rfl, hk⟩
      have HK := Lib.hid (HK0.out.trans hk (fun _ _ hf => hf))
      clear hk
      go_wp2_with fail
      go_ret
      exact ⟨rfl, HK.out⟩
    have hm30i : ¬ (30 : Int) < (m4 : Int) := by omega
    have HNR := Lib.hid (rnewE_ A m c w.heap.size l0 W0 (HSE.out.pure HK0.out (Nat.le_refl _)) HK0.out.size (by omega) (fun s hs => by have := HF2.out s hs; omega))
    go_wp2_with fail
    refine HNR.out.mono ?_
    rintro e w2 ⟨A2, c2, l2, er, rfl, hc2, hs2, hk⟩
    have HK2 := Lib.hid (HK0.out.trans hk (fun _ _ hf => hf))
    have HK02 := Lib.hid hk
    rcases hc2 with ⟨hok, rfl, hp2, ho2⟩ | ⟨hno, her, rfl⟩
    case inr =>
      have heri : (er != 0) = true := by simpa using her
      clear her hs2 hk hno
      go_wp2_with fail
      refine (HAW.out _).mono ?_
      rintro e w3 ⟨rfl, hk⟩
      have HK := Lib.hid (HK2.out.trans hk (fun _ _ hf => hf))
      clear hk
      go_wp2_with fail
      go_ret
      exact ⟨rfl, HK.out⟩
    have HOK := Lib.hid hok
    have HPO := Lib.hid (And.intro hp2 ho2)
    have HS2 := Lib.hid hs2
    have HSI := Lib.hid (sight_ A m c w.heap.size l0 sl 0 w2 hok (HSE.out.pure HK2.out (Nat.le_refl _)) HK2.out.size (by omega) (fun s hs => by have := HF2.out s hs; omega) (by rw [HSN.out]; omega) (by decide))
    have HBR2 := Lib.hid (HBR.out.keep hk (fun hf => hf))
    clear hok hp2 ho2 hs2 hk HNR r3
    go_wp2_with fail
    refine HSI.out.mono ?_
    rintro e w3 ⟨g, p, gr, x, lp, size, rfl, hsg, hsb, hp3, ho3, hk⟩
    have HK3 := Lib.hid hk
    have HSG := Lib.hid (fun (W : World) (hW : Pure' w3 W) => hsg.pure hW)
    have HSB := Lib.hid hsb
    have HBR3 := Lib.hid (HBR2.out.keep hk (fun hf => hf))
    have hbl := lst_lists (l := l0) (lp := lp) (lq := l2) (er := 0) (.inl ⟨HOK.out, rfl, hp3, ho3⟩) (.inl ⟨HOK.out, HPO.out.1, HPO.out.2⟩)
    have HRA := Lib.hid (fun (u : List UInt8) (W : World) (hW : Pure' w3 W) (hu : u.length ≤ 200) => by
      have hs := HS2.out.pure (hk.trans hW (fun _ _ hf => hf)) (Nat.le_refl _)
      rw [strVs_bl, hbl] at hs
      exact Hg.rall_ A2 l2.length c2 w2.heap.size (bl lp) u W hs (by have := hk.size; have := hW.size; omega) (by
        have h1 := HPO.out.1.length_eq
        rw [HLL.out] at h1
        omega) (by omega) (fun y hy => by have := hsb.len y hy; omega))
    have HLAW := Lib.hid (fun (h : hoB lp sl k0 n0 zs = true) => holds_true (t := tl) hsb.ne hsb.mle h)
    have HHO := Lib.hid (fun (W : World) (hW : Pure' w3 W) => holds_ g p gr size x lp sl k0 n0 q0 A4 m4 c4 w.heap.size zs W (HSG.out W hW) hsb (HZ4.out.pure (HK2.out.trans (hk.trans hW (fun _ _ hf => hf)) (fun _ _ hf => hf)) (Nat.le_refl _)) (by have := HK2.out.size; have := hk.size; have := hW.size; omega) (by omega))
    unfold sgV rcV at HHO
    unfold sgV
    have r0 := (HBR3.out.alloc (.cells #[.pointer (some ⟨g, 0, none⟩), .pointer (some ⟨p, 0, none⟩)] 71)).cell 0
    clear r0
    clear hsg hsb hp3 ho3 hbl hk HSI HBR2 HS2
    obtain ⟨ho, hho⟩ : ∃ b, hoB lp sl k0 n0 zs = b := ⟨_, rfl⟩
    have HHB := Lib.hid hho
    rw [hho] at HHO
    clear hho
    have HBW := Lib.hid (HBR3.out.alloc (.cells #[.pointer (some ⟨g, 0, none⟩), .pointer (some ⟨p, 0, none⟩)] 71))
    have HBS := Lib.hid (show Blk (w3.alloc (.cells #[.pointer (some ⟨g, 0, none⟩), .pointer (some ⟨p, 0, none⟩)] 71)) w3.heap.size 71 #[.pointer (some ⟨g, 0, none⟩), .pointer (some ⟨p, 0, none⟩)] from Blk.newAt rfl)
    have r0 := HBW.out.cell 0
    have r1 := HBW.out.cell 1
    have r2 := HBW.out.cell 2
    have r3 := HBW.out.cell 3
    go_wp2_with fail
    refine (HHO.out _ ((Keeps.refl _ w3).alloc _)).mono ?_
    rintro e w4 ⟨rfl, hk⟩
    have HK4 := Lib.hid (((Keeps.refl (fun _ => False) w3).alloc (.cells #[.pointer (some ⟨g, 0, none⟩), .pointer (some ⟨p, 0, none⟩)] 71)).trans hk (fun _ _ hf => hf))
    have HB4 := Lib.hid (HBW.out.keep hk (fun hf => hf))
    clear hk r0 r1 r2 r3 HHO HBW HBS
    cases ho with
    | false =>
      go_wp2_with fail
      refine (HAW.out _).mono ?_
      rintro e w5 ⟨rfl, hk⟩
      have HK := Lib.hid (HK2.out.trans (HK3.out.trans (HK4.out.trans hk (fun _ _ hf => hf)) (fun _ _ hf => hf)) (fun _ _ hf => hf))
      clear hk
      go_wp2_with fail
      go_ret
      exact ⟨rfl, HK.out⟩
    | true =>
      have r0 := HB4.out.cell 0
      have r1 := HB4.out.cell 1
      have r2 := HB4.out.cell 2
      have r3 := HB4.out.cell 3
      obtain ⟨hcv1, hnam⟩ := HLAW.out HHB.out
      have hcv2 := cov_small HHB.out
      have hm20 := HSB.out.m20
      have HCO := Lib.hid (rcovers_ k0 n0 q0 A4 m4 c4 w4)
      unfold rcV at HCO
      generalize coV k0 n0 = cv at *
      have HNAM := Lib.hid hnam
      clear hnam HLAW
      go_wp2_with fail
      refine HCO.out.mono ?_
      rintro e w5 ⟨rfl, hk⟩
      have HK5 := Lib.hid (HK4.out.trans hk (fun _ _ hf => hf))
      have HB5 := Lib.hid (HB4.out.keep hk (fun hf => hf))
      have hcat : (⟨sl.toArray⟩ : ByteArray) ++ ⟨tl.toArray⟩ = ⟨(sl ++ tl).toArray⟩ := bytes_eq (by simp)
      have HALL := Lib.hid (HRA.out (sl ++ tl) w5 HK5.out (by rw [List.length_append, HSN.out, HTN.out]; omega))
      clear hk r0 r1 r2 r3 HCO
      go_wp2_with fail
      refine HALL.out.mono ?_
      rintro e w6 ⟨A6, c6, rfl, hhs⟩
      have HSL := Lib.hid (fun (W : World) (hW : Pure' w6 W) => hhs.row.sees.pure hW (Nat.le_refl _))
      have HK6 := Lib.hid (HK5.out.trans hhs.pure (fun _ _ hf => hf))
      have HR6 := Lib.hid (fun (W : World) (hW : Pure' w6 W) => (HB5.out.keep (hhs.pure.trans hW (fun _ _ hf => hf)) (fun hf => hf)).cell 3)
      have HNL := Lib.hid (show namK (Hg.allL (bl lp) (sl ++ tl)) sl.length cv (Hg.allL (bl lp) (sl ++ tl)).length = zs by
        rw [← HNAM.out]; unfold namK namedL; rw [List.take_of_length_le (Nat.le_refl _)])
      have hlen : (Hg.allL (bl lp) (sl ++ tl)).length ≤ 2000 := by
        have h1 := allL_len2 (bl lp) (sl ++ tl)
        have h2 := HSB.out.bll
        rw [List.length_append, HSN.out, HTN.out] at h1
        have h3 : (sn + tn + 1) * (bl lp).length ≤ 121 * 12 := Nat.mul_le_mul (by omega) h2
        omega
      rw [HSN.out] at HNL
      generalize Hg.allL (bl lp) (sl ++ tl) = L at *
      obtain ⟨N, hN⟩ : ∃ N, L.length = N := ⟨_, rfl⟩
      have HLN := Lib.hid hN
      rw [hN] at HSL HNL hlen ⊢
      obtain ⟨i1, hi, hz0, hz1, hz2⟩ := info_parts intInfoG
      clear hhs hN hcat HALL
      go_wp2_with fail
      go_loopg [15, 16] N (fun gh v15 v16 wr => ∃ (i : Nat) (a : Option Addr) (cp : Nat) (F : List Int), i + gh = N ∧ v16 = .int .i64 (i : Int) ∧ v15 = .slice a F.length cp ∧ RowKit.Hid (F = namK L sn cv i) ∧ F.length ≤ i ∧ RowKit.Hid (Row wr 3 1 (.slice a F.length cp) F.length (F.map (Value.int .i64))) ∧ RowKit.Hid (∀ b, (Value.slice a F.length cp).ownBlock = some b → w6.heap.size ≤ b) ∧ RowKit.Hid (Pure' w6 wr))
      case atStart => exact ⟨0, none, 0, [], by omega, rfl, rfl, Lib.hid (by simp [namK]), Nat.le_refl _, Lib.hid (Row.nil _ _ _), Lib.hid (fun b hb => by simp [Value.ownBlock] at hb), Lib.hid (Keeps.refl _ _)⟩
      case round =>
        obtain ⟨i, a, cp, F, hig, rfl, rfl, HF, hFl, HR, HO, HP⟩ := hrel
        cases gk with
        | zero =>
          obtain rfl : i = N := by omega
          have r3 := HR6.out wr HP.out
          have hFz : F = zs := by rw [HF.out, HNL.out]
          have HSA := Lib.hid (lst_same a A4 F.length m4 cp c4 wr.heap.size w.heap.size F zs wr HR.out.sees (HZ4.out.pure (HK2.out.trans (HK3.out.trans (HK6.out.trans HP.out (fun _ _ hf => hf)) (fun _ _ hf => hf)) (fun _ _ hf => hf)) (Nat.le_refl _)) (by omega) (by omega))
          rw [decide_eq_true hFz] at HSA
          generalize F.length = fn at *
          clear hFz
          go_wp2_with fail
          refine HSA.out.mono ?_
          rintro e w7 ⟨rfl, hk⟩
          have HP7 := Lib.hid (HP.out.trans (lst_dn hk) (fun _ _ hf => hf))
          clear hk r3
          go_wp2_with fail
          refine (HAW.out _).mono ?_
          rintro e w8 ⟨rfl, hk⟩
          have HK := Lib.hid (HK2.out.trans (HK3.out.trans (HK6.out.trans (HP7.out.trans hk (fun _ _ hf => hf)) (fun _ _ hf => hf)) (fun _ _ hf => hf)) (fun _ _ hf => hf))
          clear hk
          go_wp2_with fail
          go_ret
          exact ⟨rfl, HK.out⟩
        | succ g3 =>
          have hii : (i : Int) < (N : Int) := by omega
          obtain ⟨hb, ho, y, rfl, hx, y1, y2⟩ := Hg.hit_at (HSL.out wr HP.out) (show i < N by omega)
          have HX := Lib.hid (namK_succ (a := sn) (c := cv) hx)
          clear hx
          obtain ⟨fn, hfn⟩ : ∃ fn, F.length = fn := ⟨_, rfl⟩
          have HFN := Lib.hid hfn
          rw [hfn] at hFl HR HO ⊢
          clear hfn
          by_cases h1 : sn ≤ y.1
          · have h1i : (sn : Int) ≤ (y.1 : Int) := by omega
            by_cases h2 : (y.1 : Int) < (sn : Int) + cv
            · have HF2 := Lib.hid (show F ++ [y.2] = namK L sn cv (i + 1) by
                rw [HX.out, if_pos (by unfold inR; rw [decide_eq_true h1, decide_eq_true h2]; rfl), HF.out])
              obtain ⟨ye, yi⟩ := y
              simp only at h1 h2 h1i y1 y2 HF2
              go_wp2_with (at_builtin; refine wpl_append _ rfl (.tmp 91) (.tmp 97) 41 rfl 3 i1 (.int .i64 0) 1 8 Try.underlying41 hi hz0 hz1 hz2 rfl (by decide) (.slice a fn cp) fn (F.map (Value.int .i64)) rfl ?own ⟨wr.heap.size, 0, none⟩ 1 1 [.int .i64 yi] rfl rfl ?news ?one (by decide) ?b1 ?b2 ?kk)
              case own => exact Row.alloc HR.out _
              case one => first | rfl | (intro u hu; simp at hu; subst hu; rfl)
              case b1 => unfold maxLen; omega
              case b2 => omega
              case kk =>
                intro b1 cap1 w8 ho1 hg1 hb1 hl1
                have hkp := Lib.hid ((HP.out.alloc (.cells #[.int .i64 yi] 3)).grown hg1 (fun b hb => .inr (HO.out b hb)))
                have HD : RowKit.Hid (w6.heap.size ≤ b1) := by
                  rcases hb1 with h | h
                  · exact Lib.hid (HO.out _ h)
                  · exact Lib.hid (by rw [h]; have := HP.out.size; omega)
                have HL2 := Lib.hid (show (F ++ [yi]).length = fn + 1 by rw [List.length_append, HFN.out]; rfl)
                have HR8 := Lib.hid (show Row w8 3 1 (.slice (some ⟨b1, 0, none⟩) (F ++ [yi]).length cap1) (F ++ [yi]).length ((F ++ [yi]).map (Value.int .i64)) by
                  rw [HL2.out, List.map_append]; exact ho1)
                clear ho1 hg1 hb1
                go_wp2_with fail
                go_roundg g3
                case measure => omega
                case rel => exact ⟨i + 1, _, cap1, F ++ [yi], by omega, by go_num, by rw [HL2.out], HF2, by rw [HL2.out]; omega, HR8, Lib.hid (fun b hb => by rw [HL2.out] at hb; simp [Value.ownBlock] at hb; rw [← hb]; exact HD.out), hkp⟩
            · have HF2 := Lib.hid (show F = namK L sn cv (i + 1) by
                rw [HX.out, if_neg (by unfold inR; rw [decide_eq_false h2, Bool.and_false]; decide), List.append_nil, HF.out])
              go_wp2_with fail
              go_roundg g3
              case measure => omega
              case rel => exact ⟨i + 1, a, cp, F, by omega, by go_num, by rw [HFN.out], HF2, by rw [HFN.out]; omega, by rw [HFN.out]; exact HR, by rw [HFN.out]; exact HO, HP⟩
          · have h1i : ¬ (sn : Int) ≤ (y.1 : Int) := by omega
            have HF2 := Lib.hid (show F = namK L sn cv (i + 1) by
              rw [HX.out, if_neg (by unfold inR; rw [decide_eq_false h1, Bool.false_and]; decide), List.append_nil, HF.out])
            go_wp2_with fail
            go_roundg g3
            case measure => omega
            case rel => exact ⟨i + 1, a, cp, F, by omega, by go_num, by rw [HFN.out], HF2, by rw [HFN.out]; omega, by rw [HFN.out]; exact HR, by rw [HFN.out]; exact HO, HP⟩
end Go.Proofs.Ytkbdfnmeomkpjaa
