/- A sight: the numbers of the patterns that end there; whether a record holds; no condition but the sizes. -/
import Derived.Test.YtkbdfnmeomkpjaaGreatClmB
namespace Go.Proofs.YtkbdfnmeomkpjaaGreat
open Go.RowKit
set_option linter.unusedVariables false
set_option linter.unusedSimpArgs false
set_option maxRecDepth 100000

/-- Are two rows of numbers alike, by the library? -/
theorem eqI_ (A1 A2 : Option Addr) (n1 n2 c1 c2 B1 B2 : Nat) (zs ws : List Int) (w : World) (h1 : Sees w B1 1 A1 n1 (zs.map (Value.int .i64))) (h2 : Sees w B2 1 A2 n2 (ws.map (Value.int .i64))) (hn : n1 ≤ 1000000000) (hn2 : n2 ≤ 1000000000) :
    Calls Tryz.prog 46 #[.slice A1 n1 c1, .slice A2 n2 c2] w fun e w' => e = .returned (.bool (decide (zs = ws))) ∧ ∃ k, w' = w.drewN k := by
  have HL1 := Lib.hid (show zs.length = n1 by have := h1.1; simpa using this)
  have HL2 := Lib.hid (show ws.length = n2 by have := h2.1; simpa using this)
  have HS1 := Lib.hid h1
  have HS2 := Lib.hid h2
  clear h1 h2
  obtain ⟨r, hr⟩ : ∃ r, decide (zs = ws) = r := ⟨_, rfl⟩
  rw [hr]
  have HR := Lib.hid hr
  clear hr
  by_cases hnn : n1 = n2
  · subst hnn
    go_enter Tryz.func46, Tryz.ntmps46
    go_wp2
    go_loopw [5, 13] (fun v5 v13 wr => ∃ k : Nat, k ≤ n1 ∧ v13 = .int .i64 k ∧ RowKit.Hid (zs.take k = ws.take k) ∧ ∃ q, wr = w.drewN q) (fun v5 v13 _ => n1 - (intOf v13).toNat)
    case atStart => exact ⟨0, Nat.zero_le _, rfl, Lib.hid (by simp), 0, rfl⟩
    case round =>
      obtain ⟨k, hk, rfl, HT, q, rfl⟩ := hrel
      by_cases hlt : k < n1
      · obtain ⟨ad1, z, rfl, hz1, hc1⟩ := lst_ints HS1.out hlt
        obtain ⟨ad2, z2, rfl, hz2, hc2⟩ := lst_ints HS2.out hlt
        by_cases he : z = z2
        · subst he
          have HT2 := Lib.hid (take_eq HT.out hz1 hz2)
          clear hz1 hz2
          go_wp2
          go_quiet (fail)
          go_wp2
          go_roundw
          case rel => exact ⟨k + 1, by omega, by go_num, HT2, _, rfl⟩
          case measure => simp [intOf]; omega
        · have HF := Lib.hid (show false = r by
            rw [← HR.out]
            refine (decide_eq_false fun e => he ?_).symm
            subst e
            rw [hz1] at hz2
            injection hz2)
          have hne : (z != z2) = true := by simpa using he
          clear hz1 hz2 he
          go_wp2
          go_quiet (fail)
          go_wp2
          go_ret
          exact ⟨congrArg (fun b => Ending.returned (Value.bool b)) HF.out, _, World.drewN_drewN _ _ _⟩
      · obtain rfl : k = n1 := by omega
        have HF := Lib.hid (show true = r by
          rw [← HR.out]
          have := HT.out
          rw [List.take_of_length_le (by rw [HL1.out]; exact Nat.le_refl _), List.take_of_length_le (by rw [HL2.out]; exact Nat.le_refl _)] at this
          exact (decide_eq_true this).symm)
        go_wp2
        go_ret
        exact ⟨congrArg (fun b => Ending.returned (Value.bool b)) HF.out, _, rfl⟩
  · have HF := Lib.hid (show false = r by
      rw [← HR.out]
      refine (decide_eq_false fun e => hnn ?_).symm
      rw [← HL1.out, ← HL2.out, e])
    go_enter Tryz.func46, Tryz.ntmps46
    go_wp2
    go_ret
    exact ⟨congrArg (fun b => Ending.returned (Value.bool b)) HF.out, 0, rfl⟩
theorem endsP_suffix {s y : List UInt8} {size : Nat} (h : y.length < size) : Pn.endsP s size y = decide (y <:+ s) := by
  unfold Pn.endsP
  rw [Bool.eq_iff_iff, decide_eq_true_iff, Bool.and_eq_true, decide_eq_true_iff, beq_iff_eq]
  constructor
  · rintro ⟨_, e⟩
    rw [← e]
    exact List.drop_suffix _ _
  · intro hs
    have hl := hs.length_le
    refine ⟨by omega, ?_⟩
    obtain ⟨r, rfl⟩ := hs
    rw [List.length_append, Nat.add_sub_cancel, List.drop_left]
def sfx (lp : List ByteArray) (s : List UInt8) (i : Nat) : Bool := decide ((bl lp).getD i [] <:+ s)
/-- The numbers of the patterns that end there. -/
def idB (lp : List ByteArray) (s : List UInt8) : List Nat := match s.reverse[0]? with
  | some c => (endK (bl lp) c.toNat (bl lp).length).filter (sfx lp s)
  | none => []
theorem sfx_last {y s : List UInt8} (hy : y ≠ []) (h : y <:+ s) : y.reverse[0]? = s.reverse[0]? := by
  obtain ⟨r, rfl⟩ := h
  rw [List.reverse_append, List.getElem?_append_left (by simp; exact List.length_pos_iff.2 hy)]
theorem idB_hits {lp : List ByteArray} {s : List UInt8} (hne : ∀ y ∈ bl lp, y ≠ []) : idB lp s = hitsL (bl lp) s := by
  unfold idB hitsL
  cases hc : s.reverse[0]? with
  | none =>
    have hs : s = [] := by
      rw [List.getElem?_eq_none_iff] at hc
      simp at hc
      exact hc
    subst hs
    symm
    show List.filter _ _ = []
    rw [List.filter_eq_nil_iff]
    intro i hi h
    have hi := List.mem_range.1 hi
    rw [List.isSuffixOf_iff_suffix, List.suffix_nil] at h
    rw [List.getD_eq_getElem?_getD, List.getElem?_eq_getElem hi] at h
    exact hne _ (List.getElem_mem hi) h
  | some c =>
    show List.filter _ (endK _ _ _) = _
    unfold endK
    rw [List.filter_filter]
    refine List.filter_congr fun i hi => ?_
    have hi := List.mem_range.1 hi
    have hg : (bl lp).getD i [] = (bl lp)[i] := by rw [List.getD_eq_getElem?_getD, List.getElem?_eq_getElem hi]; rfl
    unfold sfx
    rw [hg, Bool.eq_iff_iff, Bool.and_eq_true, decide_eq_true_iff, decide_eq_true_iff, List.isSuffixOf_iff_suffix]
    constructor
    · rintro ⟨h, _⟩; exact h
    · intro h
      refine ⟨h, ?_⟩
      rw [sfx_last (hne _ (List.getElem_mem hi)) h, hc]
      simp
set_option maxHeartbeats 4000000 in
theorem cids_ (g p gr size : Nat) (x : Option Addr) (lp : List ByteArray) (s : List UInt8) (w : World) (h : SgI w g p gr x lp s size) (hb : SgB lp s size) :
    Calls Tryz.prog 19 #[sgV g p] w (IdsPost (idB lp s) w) := by
  obtain ⟨i0, hi, hz0, hz1, hz2⟩ := info_parts intInfoG
  have HL := Lib.hid (fun (W : World) (hW : Pure' w W) => (h.pure hW).last 0 (by have := hb.size2; omega))
  have HEN := Lib.hid (fun (c : UInt8) (W : World) (hW : Pure' w W) => by
    obtain ⟨⟨n0, h1⟩, _, _⟩ := h.pure hW
    exact ending_ n0 g (minL lp) x (bl lp) c W h1 (by have := hb.bll; omega))
  have HSE := Lib.hid (fun (W : World) (hW : Pure' w W) => by
    obtain ⟨⟨n0, h1⟩, _, _⟩ := h.pure hW
    exact set_ n0 g (minL lp) x (bl lp) W h1)
  have HAT := Lib.hid (fun (k : Nat) (W : World) (hW : Pure' w W) (hk : k < lp.length) => sat_ x lp k W (h.pure hW).st hk)
  have HPN := Lib.hid (fun (W : World) (hW : Pure' w W) => (h.pure hW).pn)
  have hlpl : (bl lp).length = lp.length := by simp [bl]
  have HLP := Lib.hid hlpl
  have HB := Lib.hid hb
  have HK0 := Lib.hid (show Pure' w (w.alloc (.cells #[.pointer (some ⟨g, 0, none⟩), .pointer (some ⟨p, 0, none⟩)] 34)) from (Keeps.refl _ w).alloc _)
  have HB1 := Lib.hid (show Blk (w.alloc (.cells #[.pointer (some ⟨g, 0, none⟩), .pointer (some ⟨p, 0, none⟩)] 34)) w.heap.size 34 #[.pointer (some ⟨g, 0, none⟩), .pointer (some ⟨p, 0, none⟩)] from Blk.newAt rfl)
  clear h hb hlpl
  unfold sgV
  go_enter Tryz.func19, Tryz.ntmps19
  go_wp2_with fail
  generalize (w.alloc (.cells #[.pointer (some ⟨g, 0, none⟩), .pointer (some ⟨p, 0, none⟩)] 34)) = W0 at *
  obtain ⟨c, ok, hco, hcall⟩ := HL.out W0 HK0.out
  have HCC := Lib.hid hco
  have HNB := Lib.hid (rfl : w.heap.size = w.heap.size)
  clear hco HL
  obtain ⟨bs, hbs⟩ : ∃ bs, w.heap.size = bs := ⟨_, rfl⟩
  have HBS := Lib.hid hbs
  rw [hbs] at HB1 ⊢
  clear hbs
  have c0 := HB1.out.cell 0
  have c1 := HB1.out.cell 1
  refine hcall.mono ?_
  rintro e w1 ⟨rfl, rfl⟩
  clear hcall
  cases ok with
  | false =>
    have HF := Lib.hid (show idB lp s = [] by unfold idB; rw [HCC.out]; rfl)
    go_wp2_with fail
    go_ret
    exact ⟨none, 0, by rw [HF.out]; rfl, by rw [HF.out]; exact Row.nil _ _ _, fun b hb => by rw [HF.out] at hb; simp [Value.ownBlock] at hb, HK0.out⟩
  | true =>
    have HF := Lib.hid (show idB lp s = (endK (bl lp) c.toNat (bl lp).length).filter (sfx lp s) by unfold idB; rw [HCC.out]; rfl)
    have HE := Lib.hid (HEN.out c W0 HK0.out)
    have HLT := Lib.hid (show ∀ i ∈ endK (bl lp) c.toNat (bl lp).length, i < lp.length from fun i hi => by rw [← HLP.out]; exact endK_lt hi)
    have HLE := Lib.hid (show (endK (bl lp) c.toNat (bl lp).length).length ≤ 12 by have := endK_len (bl lp) c.toNat (bl lp).length; have := HB.out.bll; omega)
    generalize endK (bl lp) c.toNat (bl lp).length = E at *
    clear HEN
    go_wp2_with fail
    refine HE.out.mono ?_
    rintro e w2 ⟨A, cap, rfl, hr, _, hk⟩
    have HK2 := Lib.hid (HK0.out.trans hk (fun _ _ hf => hf))
    have HE2 := Lib.hid (fun (W : World) (hW : Pure' w2 W) => hr.sees.pure hW (Nat.le_refl _))
    have HC0 := Lib.hid (fun (W : World) (hW : Pure' w2 W) => keepc c0 (hk.trans hW (fun _ _ hf => hf)))
    have HC1 := Lib.hid (fun (W : World) (hW : Pure' w2 W) => keepc c1 (hk.trans hW (fun _ _ hf => hf)))
    have hen12 := HLE.out
    obtain ⟨en, hen⟩ : ∃ en, E.length = en := ⟨_, rfl⟩
    have HENN := Lib.hid hen
    rw [hen] at HE2 hen12 ⊢
    clear hr hk c0 c1 HE hen
    go_wp2_with fail
    go_loopg [5, 7, 8, 9, 31] en (fun gh v5 v7 v8 v9 v31 wr => ∃ (k : Nat) (a : Option Addr) (cp : Nat) (F : List Nat), k + gh = en ∧ v31 = .int .i64 (k : Int) ∧ v5 = .slice a F.length cp ∧ RowKit.Hid (F = (E.take k).filter (sfx lp s)) ∧ F.length ≤ k ∧ RowKit.Hid (Row wr 3 1 (.slice a F.length cp) F.length (idVs F)) ∧ RowKit.Hid (∀ b, (Value.slice a F.length cp).ownBlock = some b → w2.heap.size ≤ b) ∧ RowKit.Hid (Pure' w2 wr))
    case atStart => exact ⟨0, none, 0, [], by omega, rfl, rfl, Lib.hid (by simp), Nat.le_refl _, Lib.hid (Row.nil _ _ _), Lib.hid (fun b hb => by simp [Value.ownBlock] at hb), Lib.hid (Keeps.refl _ _)⟩
    case round =>
      obtain ⟨k, a, cp, F, hkg, rfl, rfl, HFF, hFl, HR, HO, HP⟩ := hrel
      cases gk with
      | zero =>
        obtain rfl : k = en := by omega
        have HFE := Lib.hid (show idB lp s = F by rw [HF.out, HFF.out, List.take_of_length_le (by rw [HENN.out]; exact Nat.le_refl _)])
        go_wp2_with fail
        go_ret
        exact ⟨a, cp, by rw [HFE.out]; rfl, by rw [HFE.out]; exact HR.out, by rw [HFE.out]; exact fun b hb => by have := HO.out b hb; have := HK2.out.size; rw [HBS.out]; have := HBS.out; omega, HK2.out.trans HP.out (fun _ _ hf => hf)⟩
      | succ g3 =>
        have hkk : (k : Int) < (en : Int) := by omega
        obtain ⟨ad, u, rfl, hu, hc⟩ := (HE2.out wr HP.out).at_ (show k < en by omega)
        obtain ⟨i, hi2⟩ : ∃ i, E[k]? = some i := ⟨_, List.getElem?_eq_getElem (show k < E.length by rw [HENN.out]; omega)⟩
        have hui : u = .int .i64 (i : Int) := by
          unfold idVs at hu
          rw [List.getElem?_map, hi2] at hu
          simpa using hu.symm
        subst hui
        have HI := Lib.hid hi2
        have HPW := Lib.hid (HK2.out.trans HP.out (fun _ _ hf => hf))
        have HATI := Lib.hid (HAT.out i wr HPW.out (HLT.out i (List.mem_of_getElem? hi2)))
        have HSEI := Lib.hid (HSE.out wr HPW.out)
        have c0 := HC0.out wr HP.out
        have c1 := HC1.out wr HP.out
        obtain ⟨fn, hfn⟩ : ∃ fn, F.length = fn := ⟨_, rfl⟩
        have HFN := Lib.hid hfn
        rw [hfn] at hFl HR HO ⊢
        clear hi2 hu hfn
        go_wp2_with fail
        refine HSEI.out.mono ?_
        rintro e w3 ⟨rfl, rfl⟩
        go_wp2_with fail
        refine HATI.out.mono ?_
        rintro e w3 ⟨⟨y, rfl, hy⟩, rfl⟩
        have hyl := HB.out.len y (List.mem_of_getElem? hy)
        have hym := HB.out.most y (List.mem_of_getElem? hy)
        have HG := Lib.hid (show (bl lp).getD i [] = y by rw [List.getD_eq_getElem?_getD, hy]; rfl)
        have HEQ := Lib.hid (endsP_suffix (s := s) hym)
        obtain ⟨w0, hpm⟩ := HPN.out wr HPW.out
        have hends := hpm.ends ⟨y.toArray⟩ (by have : (⟨y.toArray⟩ : ByteArray).size = y.length := Lib.size_eq _; omega)
        rw [show (⟨y.toArray⟩ : ByteArray).data.toList = y by simp, HEQ.out] at hends
        have HEND := Lib.hid hends
        have b0 := hpm.blk.cell 0
        obtain ⟨r, hr⟩ : ∃ r, decide (y <:+ s) = r := ⟨_, rfl⟩
        have HRR := Lib.hid (show sfx lp s i = r by unfold sfx; rw [HG.out, hr])
        rw [hr] at HEND
        have HTK := Lib.hid (show (E.take (k + 1)).filter (sfx lp s) = F ++ (if r = true then [i] else []) by
          rw [List.take_add_one, HI.out, List.filter_append, ← HFF.out]
          congr 1
          show List.filter (sfx lp s) [i] = _
          rw [List.filter_cons, HRR.out]
          rfl)
        clear hy hends hpm hr hc
        go_wp2_with fail
        refine HEND.out.mono ?_
        rintro e w3 ⟨rfl, rfl⟩
        cases r with
        | true =>
          go_wp2_with (at_builtin; refine wpl_append _ rfl (.tmp 50) (.tmp 52) 23 rfl 3 i0 (.int .i64 0) 1 8 Tryz.underlying23 hi hz0 hz1 hz2 rfl (by decide) (.slice a fn cp) fn (idVs F) rfl ?own ⟨wr.heap.size, 0, none⟩ 1 1 [.int .i64 (i : Int)] rfl rfl ?news ?one (by decide) ?b1 ?b2 ?kk)
          case own => exact Row.alloc HR.out _
          case news => exact news1
          case one => intro u hu; simp at hu; subst hu; rfl
          case b1 => unfold maxLen; omega
          case b2 => omega
          case kk =>
            intro b1 cap1 w4 ho1 hg1 hb1 hl1
            have hkp := Lib.hid ((HP.out.alloc (.cells #[.int .i64 (i : Int)] 3)).grown hg1 (fun b hb => .inr (HO.out b hb)))
            have HD : RowKit.Hid (w2.heap.size ≤ b1) := by
              rcases hb1 with h | h
              · exact Lib.hid (HO.out _ h)
              · exact Lib.hid (by rw [h]; have := HP.out.size; omega)
            have HL2 := Lib.hid (show (F ++ [i]).length = fn + 1 by rw [List.length_append, HFN.out]; rfl)
            have HR8 := Lib.hid (show Row w4 3 1 (.slice (some ⟨b1, 0, none⟩) (F ++ [i]).length cap1) (F ++ [i]).length (idVs (F ++ [i])) by
              rw [HL2.out, show idVs (F ++ [i]) = idVs F ++ [.int .i64 (i : Int)] by simp [idVs]]; exact ho1)
            have HF2 := Lib.hid (show F ++ [i] = (E.take (k + 1)).filter (sfx lp s) by rw [HTK.out]; simp)
            clear ho1 hg1 hb1
            go_wp2_with fail
            go_roundg g3
            case measure => omega
            case rel => exact ⟨k + 1, _, cap1, F ++ [i], by omega, by go_num, by rw [HL2.out], HF2, by rw [HL2.out]; omega, HR8, Lib.hid (fun b hb => by rw [HL2.out] at hb; simp [Value.ownBlock] at hb; rw [← hb]; exact HD.out), hkp⟩
        | false =>
          have HF2 := Lib.hid (show F = (E.take (k + 1)).filter (sfx lp s) by rw [HTK.out]; simp)
          go_wp2_with fail
          go_roundg g3
          case measure => omega
          case rel => exact ⟨k + 1, a, cp, F, by omega, by go_num, by rw [HFN.out], HF2, by rw [HFN.out]; omega, by rw [HFN.out]; exact HR, by rw [HFN.out]; exact HO, HP⟩
end Go.Proofs.YtkbdfnmeomkpjaaGreat
