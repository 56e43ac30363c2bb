/- Links made out of a set; no condition but the sizes. -/
import Derived.Test.YtkbdfnmeomkpjaaGreatLnkO
namespace Go.Proofs.YtkbdfnmeomkpjaaGreat
open Go.RowKit
set_option linter.unusedVariables false
set_option linter.unusedSimpArgs false
set_option maxRecDepth 100000

def NewLinkPost (l : List (List UInt8)) (w : World) (e : Ending) (w' : World) : Prop :=
  ∃ (g tg b cap fb ob : Nat) (S : List TSt) (F O : List Int), e = .returned (.pointer (some ⟨g, 0, none⟩)) ∧ LkA w' g tg b cap fb ob l S F O ∧ FOk l S.length F ∧ OOk l S.length O ∧ w.heap.size ≤ g ∧ Pure' w w'

theorem intInfo : (Tryz.prog.info? 3).map (fun i => (i.zero, i.size, i.bytes)) = some (some (.int .i64 0), 1, 8) := by kernel_rfl
theorem made_ (n : Nat) (hn : n ≤ 1000000) (w : World) : (Instr.makeSlice 23 (.int .i64 (n : Int)) (.int .i64 (n : Int))).run Tryz.prog w = .ok (.slice (some ⟨w.heap.size, 0, none⟩) n n) (w.alloc (.cells ((List.replicate n (0 : Int)).map (Value.int .i64)).toArray 3)) := by
  obtain ⟨i, h1, h2, h3, h4⟩ := info_parts intInfo
  have hr := run_make (P := Tryz.prog) w 23 3 i (.int .i64 0) Tryz.underlying23 h1 h2 .i64 .i64 n n (by omega) (by omega) (by rw [h4]; omega) (by omega)
  simp only [Int.toNat_natCast] at hr
  rw [hr, h3, Nat.mul_one]
  have : madeCells (Value.int .i64 0).cells n = ((List.replicate n (0 : Int)).map (Value.int .i64)).toArray := by
    apply Array.toList_inj.1
    rw [show (Value.int .i64 0).cells = #[.int .i64 0] from rfl, madeCells_one]
    simp
  rw [this]
theorem LkA.made {w : World} {tg b cap n fb ob : Nat} {l : List (List UInt8)} {S : List TSt} {ZS : Array Value} (hT : TI w tg b cap l S) (hn : S.length = n) (hZ : ((List.replicate n (0 : Int)).map (Value.int .i64)).toArray = ZS)
    (h : (fb = w.heap.size ∧ ob = w.heap.size + 1) ∨ (fb = w.heap.size + 1 ∧ ob = w.heap.size)) :
    LkA (((w.alloc (.cells ZS 3)).alloc (.cells ZS 3)).alloc (.cells #[.pointer (some ⟨tg, 0, none⟩), .slice (some ⟨fb, 0, none⟩) n n, .slice (some ⟨ob, 0, none⟩) n n] 161)).drew (w.heap.size + 1 + 1) tg b cap fb ob l S (List.replicate n 0) (List.replicate n 0) := by
  subst hn; subst hZ
  refine ⟨(Blk.newAt (by simp)).drew, ?_, ?_, by simp, by simp, hT.pure (((((Keeps.refl _ w).alloc _).alloc _).alloc _).drew), by omega⟩
  · rcases h with ⟨e, _⟩ | ⟨e, _⟩
    · subst e; exact (((Blk.new w _ _).alloc _).alloc _).drew
    · subst e; exact ((Blk.newAt (by simp)).alloc _).drew
  · rcases h with ⟨_, e⟩ | ⟨_, e⟩
    · subst e; exact ((Blk.newAt (by simp)).alloc _).drew
    · subst e; exact (((Blk.new w _ _).alloc _).alloc _).drew
theorem fall_pos {l S : List (List UInt8)} (h : Sts l S) {j : Nat} {q : List UInt8} {c : UInt8} (hq : S[j]? = some q) (hj : 0 < j) : ∃ r, S[lsuf S q.tail]? = some r ∧ lsuf S (r ++ [c]) = lsuf S (q ++ [c]).tail := by
  obtain ⟨_, r, hr, _⟩ := fall_less h hq hj
  refine ⟨r, hr, ?_⟩
  have hne : q ≠ [] := by
    rintro rfl
    have := h.idx hq
    rw [h.idx h.zero] at this
    omega
  cases q with
  | nil => exact absurd rfl hne
  | cons a q => exact (lsuf_step h c hr).symm
set_option maxHeartbeats 4000000 in
theorem newLink_ (x : Option Addr) (lp : List ByteArray) (w : World) (h : SetP w x lp) (hn : lp.length ≤ 12) (hll : ∀ y ∈ bl lp, y.length ≤ 20) (hl : (bl lp).Pairwise (· < ·)) (hne : ∀ y ∈ bl lp, y ≠ []) :
    Calls Tryz.prog 92 #[.pointer x] w fun e w' => NewLinkPost (bl lp) w e w' := by
  have HT := Lib.hid (newTrie_ x lp w h hn hll hl)
  have HLs := Lib.hid hl
  have HNE := Lib.hid hne
  have hst := states_few (l := bl lp) (by simpa [bl] using hn) hll
  clear h hl hll hne hn
  generalize bl lp = l at *
  go_enter Tryz.func92, Tryz.ntmps92
  go_wp2_with fail
  refine HT.out.mono ?_
  rintro e w1 ⟨tg, b, cap, S, rfl, htr, hok, hgw, hbw, hk1⟩
  have hfew : S.length ≤ 241 := by rw [hok.len]; exact hst
  have HTI := Lib.hid (show TI w1 tg b cap l S from ⟨htr, hok, HLs.out, hfew, HNE.out⟩)
  have HK1 := Lib.hid hk1
  have h0 : 0 < S.length := by
    rw [hok.len]
    exact List.length_pos_iff.2 (fun e => by have := HTI.out.sts.zero; rw [e] at this; simp at this)
  have HLEN := Lib.hid (fun (W : World) (hW : Pure' w1 W) => (tlen_ tg b cap S.length W (htr.box.keep hW (fun hf => hf))))
  clear htr hok hk1 HT
  obtain ⟨n, hn⟩ : ∃ n, S.length = n := ⟨_, rfl⟩
  have HN := Lib.hid hn
  rw [hn] at hfew h0 HLEN
  clear hn
  have hz1 : w.heap.size ≤ w1.heap.size := HK1.out.size
  have hmk := made_ n (by omega)
  generalize hZS : ((List.replicate n (0 : Int)).map (Value.int .i64)).toArray = ZS at hmk
  have HZS := Lib.hid hZS
  clear hZS
  go_upto_region 2 with fail
  go_cut [4] (fun v4 wx => ∃ (g fb ob : Nat), v4 = .pointer (some ⟨g, 0, none⟩) ∧ w1.heap.size ≤ g ∧ w1.heap.size ≤ fb ∧ w1.heap.size ≤ ob ∧ RowKit.Hid (LkA wx g tg b cap fb ob l S (List.replicate n 0) (List.replicate n 0)) ∧ RowKit.Hid (Pure' w1 wx))
  case first =>
    go_region_with ((go_at_call 121; refine (HLEN.out _ (by (repeat (first | exact Keeps.refl _ _ | refine Keeps.drew ?_ | refine Keeps.alloc ?_ _ | refine Keeps.drewN ?_ _)))).mono ?_; rintro e w2 ⟨rfl, rfl⟩))
    all_goals
      go_wp2_with fail
      go_meet
      first
        | exact ⟨_, _, _, rfl, by omega, by omega, by omega, Lib.hid (LkA.made HTI.out HN.out HZS.out (.inl ⟨rfl, rfl⟩)), Lib.hid (by (repeat (first | exact Keeps.refl _ _ | refine Keeps.drew ?_ | refine Keeps.alloc ?_ _ | refine Keeps.drewN ?_ _)))⟩
        | exact ⟨_, _, _, rfl, by omega, by omega, by omega, Lib.hid (LkA.made HTI.out HN.out HZS.out (.inr ⟨rfl, rfl⟩)), Lib.hid (by (repeat (first | exact Keeps.refl _ _ | refine Keeps.drew ?_ | refine Keeps.alloc ?_ _ | refine Keeps.drewN ?_ _)))⟩
  case rest =>
    obtain ⟨g, fb, ob, rfl, hzg, hzf, hzo, HL, HK⟩ := hcut
    clear hmk HZS HLEN
    have HST := Lib.hid HTI.out.sts
    have HOKL := Lib.hid (show n = (statesL l).length by rw [← HN.out]; exact HTI.out.ok.len)
    have c2 : wc.cell? ⟨g, 2, none⟩ = some (.slice (some ⟨ob, 0, none⟩) n n) := by rw [HL.out.box.cell, HN.out]; rfl
    have o0 : wc.cell? ⟨ob, 0, none⟩ = some (.int .i64 0) := HL.out.ocell (by simp [h0])
    have fo : wc.frozen? ⟨ob, 0, none⟩ = false := HL.out.ou.frozen 0
    have HL2 := Lib.hid (HL.out.setO 0 (-1))
    have HK2 := Lib.hid (HK.out.setCell (p := ⟨ob, 0, none⟩) (.inr hzo) (.int .i64 (-1)))
    have HF1 := Lib.hid (show FOk l 1 (List.replicate n 0) from fun t p ht hp => by
      obtain rfl : t = 0 := by omega
      rw [HST.out.zero] at hp
      cases hp
      simp [h0, lsuf])
    have HO1 := Lib.hid (show OOk l 1 ((List.replicate n 0).set 0 (-1)) from fun t p ht hp => by
      obtain rfl : t = 0 := by omega
      rw [HST.out.zero] at hp
      cases hp
      rw [List.getElem?_set_self (by simp [h0])]
      rfl)
    have HZF := Lib.hid (show ∀ t, 1 ≤ t → t < n → (List.replicate n (0 : Int))[t]? = some 0 from fun t _ ht => by simp [ht])
    go_upto_region 4 with fail
    generalize hW : wc.setCell ⟨ob, 0, none⟩ (.int .i64 (-1)) = W0 at *
    clear c2 o0 fo hW HL HK
    go_wp2
    go_loopg [5, 6, 7, 8, 9, 10, 11] (n - 1) (fun gh v5 v6 v7 v8 v9 v10 v11 wr => ∃ (i : Nat) (F O : List Int), i + gh = n ∧ 1 ≤ i ∧ v5 = .int .i64 (i : Int) ∧ RowKit.Hid (LkA wr g tg b cap fb ob l S F O) ∧ RowKit.Hid (FOk l i F) ∧ RowKit.Hid (OOk l i O) ∧ RowKit.Hid (∀ t, i ≤ t → t < n → F[t]? = some 0) ∧ RowKit.Hid (Pure' w1 wr))
    case atStart => exact ⟨1, _, _, by omega, Nat.le_refl _, rfl, HL2, HF1, HO1, HZF, HK2⟩
    case round =>
      obtain ⟨i, F, O, hig, hi1, rfl, HL, HF, HO, HZ, HK⟩ := hrel
      clear HL2 HF1 HO1 HZF HK2
      have HLEN := Lib.hid (tlen_ tg b cap n wr (by have := HL.out.ti.tr.box; rw [HN.out] at this; exact this))
      cases gk with
      | zero =>
        obtain rfl : i = n := by omega
        go_wp2_with fail
        refine HLEN.out.mono ?_
        rintro e w2 ⟨rfl, rfl⟩
        go_wp2
        go_ret
        refine ⟨g, tg, b, cap, fb, ob, S, F, O, rfl, HL.out, by rw [HN.out]; exact HF.out, by rw [HN.out]; exact HO.out, by omega, HK1.out.trans HK.out (fun _ _ hf => hf)⟩
      | succ g3 =>
        have hil : i < n := by omega
        obtain ⟨p, hp⟩ : ∃ p, (statesL l)[i]? = some p := ⟨_, List.getElem?_eq_getElem (by rw [← HOKL.out]; exact hil)⟩
        have HP := Lib.hid hp
        have HAB := Lib.hid (above_ tg b cap l S i p wr HL.out.ti hp (by omega))
        clear hp
        have hii : (i : Int) < (n : Int) := by omega
        go_wp2_with fail
        refine HLEN.out.mono ?_
        rintro e w2 ⟨rfl, rfl⟩
        go_wp2_with fail
        refine HAB.out.mono ?_
        rintro e w3 ⟨⟨j, q, c, rfl, hji, hq, hpq⟩, k3, rfl⟩
        have HQ := Lib.hid hq
        have HPQ := Lib.hid hpq
        have HL3 := Lib.hid (HL.out.pure ((Keeps.refl _ w2).drewN k3))
        have HK3 := Lib.hid (HK.out.drewN k3)
        generalize w2.drewN k3 = w3 at *
        have hcl := c.toNat_lt
        clear hq hpq HL HK HLEN HAB
        obtain ⟨tt, htt⟩ : ∃ tt, lsuf (statesL l) p.tail = tt := ⟨_, rfl⟩
        have HTO := Lib.hid htt
        clear htt
        have htp : i ≠ 0 := by omega
        have hfl := fall_less HST.out HP.out (by omega)
        rw [HTO.out] at hfl
        obtain ⟨htti, r, hr, _⟩ := hfl
        have HR := Lib.hid hr
        clear hr
        go_upto_if 42 with fail
        go_cut [6] (fun v6 wx => ∃ (F' : List Int), RowKit.Hid (LkA wx g tg b cap fb ob l S F' O) ∧ RowKit.Hid (F'[i]? = some (tt : Int)) ∧ RowKit.Hid (∀ t, t ≠ i → F'[t]? = F[t]?) ∧ RowKit.Hid (Pure' w1 wx))
        case first =>
          rcases Nat.eq_zero_or_pos j with hj0 | hj0
          · subst hj0
            have hq0 : q = [] := by have := HQ.out; rw [HST.out.zero] at this; cases this; rfl
            subst hq0
            have ht0 : tt = 0 := by rw [← HTO.out, HPQ.out]; rfl
            subst ht0
            have HFi := Lib.hid (show F[i]? = some ((0 : Nat) : Int) from HZ.out i (Nat.le_refl _) hil)
            go_wp2
            go_meet
            exact ⟨F, HL3, HFi, Lib.hid (fun _ _ => rfl), HK3⟩
          · obtain ⟨r0, hr0, hfal⟩ := fall_pos (c := c) HST.out HQ.out hj0
            rw [← HPQ.out, HTO.out] at hfal
            obtain ⟨hlt, _⟩ := fall_less HST.out HQ.out hj0
            have hfj := HF.out j q hji HQ.out
            obtain ⟨t0, ht0⟩ : ∃ t0, lsuf (statesL l) q.tail = t0 := ⟨_, rfl⟩
            rw [ht0] at hfj hlt hr0
            have HFALL := Lib.hid (fun (W : World) (hW : Pure' w3 W) => by
              have := fall_ g tg b cap fb ob l S F O i t0 r0 c W (HL3.out.pure hW) HF.out (by omega) hr0
              rw [hfal] at this
              exact this)
            have hji0 : (0 : Int) < (j : Int) := by omega
            have hjn : j < n := by omega
            have c1 : w3.cell? ⟨g, 1, none⟩ = some (.slice (some ⟨fb, 0, none⟩) n n) := by rw [HL3.out.box.cell, HN.out]; rfl
            have fj : w3.cell? ⟨fb, j, none⟩ = some (.int .i64 (t0 : Int)) := HL3.out.fcell hfj
            have fi : w3.cell? ⟨fb, i, none⟩ = some (.int .i64 0) := HL3.out.fcell (HZ.out i (Nat.le_refl _) hil)
            have ff : w3.frozen? ⟨fb, i, none⟩ = false := HL3.out.fa.frozen i
            have HLn := Lib.hid (fun (W : World) (hW : Pure' w3 W) => show LkA (W.setCell ⟨fb, i, none⟩ (.int .i64 (tt : Int))) g tg b cap fb ob l S (F.set i (tt : Int)) O ∧ Pure' w1 (W.setCell ⟨fb, i, none⟩ (.int .i64 (tt : Int))) from
              ⟨(HL3.out.pure hW).setF i (tt : Int), (HK3.out.trans hW (fun _ _ hf => hf)).setCell (p := ⟨fb, i, none⟩) (.inr hzf) _⟩)
            have HFs := Lib.hid (show (F.set i (tt : Int))[i]? = some (tt : Int) from List.getElem?_set_self (by rw [HL3.out.fl, HN.out]; exact hil))
            clear hr0 hfal ht0 hfj
            go_upto_region 9 with fail
            go_region_with ((go_at_call 123; refine (HFALL.out _ (by (repeat (first | exact Keeps.refl _ _ | refine Keeps.drew ?_ | refine Keeps.alloc ?_ _ | refine Keeps.drewN ?_ _)))).mono ?_; rintro e w5 ⟨rfl, k5, rfl⟩))
            all_goals
              go_wp2_with fail
              go_meet
              exact ⟨_, Lib.hid (HLn.out _ (by (repeat (first | exact Keeps.refl _ _ | refine Keeps.drew ?_ | refine Keeps.alloc ?_ _ | refine Keeps.drewN ?_ _)))).1, HFs, Lib.hid (fun t ht => List.getElem?_set_ne (fun e => ht e.symm)), Lib.hid (HLn.out _ (by (repeat (first | exact Keeps.refl _ _ | refine Keeps.drew ?_ | refine Keeps.alloc ?_ _ | refine Keeps.drewN ?_ _)))).2⟩
        case rest =>
          obtain ⟨F', HL4, HFi, HFo, HK4⟩ := hcut
          clear HL3 HK3
          have hot := HO.out tt r htti HR.out
          obtain ⟨ov, hov⟩ : ∃ ov, osuf l (statesL l) r.tail = ov := ⟨_, rfl⟩
          have HOV := Lib.hid hov
          rw [hov] at hot
          clear hov
          have c1 : wc.cell? ⟨g, 1, none⟩ = some (.slice (some ⟨fb, 0, none⟩) n n) := by rw [HL4.out.box.cell, HN.out]; rfl
          have c2 : wc.cell? ⟨g, 2, none⟩ = some (.slice (some ⟨ob, 0, none⟩) n n) := by rw [HL4.out.box.cell, HN.out]; rfl
          have fi : wc.cell? ⟨fb, i, none⟩ = some (.int .i64 (tt : Int)) := HL4.out.fcell HFi.out
          have ot : wc.cell? ⟨ob, tt, none⟩ = some (.int .i64 ov) := HL4.out.ocell hot
          have fo : wc.frozen? ⟨ob, i, none⟩ = false := HL4.out.ou.frozen i
          have hoi := List.getElem?_eq_getElem (l := O) (i := i) (by rw [HL4.out.ol, HN.out]; exact hil)
          generalize O[i]'(by rw [HL4.out.ol, HN.out]; exact hil) = z0 at hoi
          have oi : wc.cell? ⟨ob, i, none⟩ = some (.int .i64 z0) := HL4.out.ocell hoi
          have httn : tt < n := by omega
          have HLn := Lib.hid (show LkA ((wc.setCell ⟨ob, i, none⟩ (.int .i64 ov)).drew) g tg b cap fb ob l S F' (O.set i ov) from (HL4.out.setO i ov).pure ((Keeps.refl _ _).drew))
          have HKn := Lib.hid ((HK4.out.setCell (p := ⟨ob, i, none⟩) (.inr hzo) (.int .i64 ov)).drew)
          clear hot hoi
          go_upto_region 11 with fail
          go_region
          go_upto_region 12 with fail
          have HFn := Lib.hid (show FOk l (i + 1) F' from fun t p' ht hp' => by
            rcases Nat.eq_or_lt_of_le (Nat.lt_succ_iff.1 ht) with e | e
            · subst e
              rw [HP.out] at hp'
              cases hp'
              rw [HFi.out, HTO.out]
            · rw [HFo.out t (by omega)]
              exact HF.out t p' e hp')
          have HOn := Lib.hid (fun (O' : List Int) (v : Int) (hv : osuf l (statesL l) p.tail = v) (h1 : O'[i]? = some v) (h2 : ∀ t, t ≠ i → O'[t]? = O[t]?) => show OOk l (i + 1) O' from fun t p' ht hp' => by
            rcases Nat.eq_or_lt_of_le (Nat.lt_succ_iff.1 ht) with e | e
            · subst e
              rw [HP.out] at hp'
              cases hp'
              rw [h1, hv]
            · rw [h2 t (by omega)]
              exact HO.out t p' e hp')
          have HZn := Lib.hid (show ∀ t, i + 1 ≤ t → t < n → F'[t]? = some 0 from fun t h1 h2 => by rw [HFo.out t (by omega)]; exact HZ.out t (by omega) h2)
          have hil2 : i < O.length := by rw [HL4.out.ol, HN.out]; exact hil
          have hos := osuf_step HST.out p.tail r (by rw [HTO.out]; exact HR.out)
          rw [HTO.out, HOV.out] at hos
          have HOS := Lib.hid hos
          clear hos c1 c2 fi ot fo oi HL4 HK4 HF HO HZ
          generalize hW5 : (wc.setCell ⟨ob, i, none⟩ (.int .i64 ov)).drew = W5 at *
          clear hW5
          have HEN := Lib.hid (ends_ tg b cap l S tt r W5 HLn.out.ti HR.out)
          go_wp2_with fail
          refine HEN.out.mono ?_
          rintro e w6 ⟨hcase, rfl⟩
          rcases hcase with ⟨jj, rfl, hjj⟩ | ⟨rfl, hno⟩
          · have hrl : r ∈ l := List.mem_of_getElem? hjj
            have HO2 := Lib.hid (HOn.out ((O.set i ov).set i (tt : Int)) (tt : Int) (by rw [HOS.out, if_pos hrl]) (List.getElem?_set_self (by simpa using hil2)) (fun t ht => by rw [List.getElem?_set_ne (fun e => ht e.symm), List.getElem?_set_ne (fun e => ht e.symm)]))
            have c2 : w6.cell? ⟨g, 2, none⟩ = some (.slice (some ⟨ob, 0, none⟩) n n) := by rw [HLn.out.box.cell, HN.out]; rfl
            have fo : w6.frozen? ⟨ob, i, none⟩ = false := HLn.out.ou.frozen i
            have oi : w6.cell? ⟨ob, i, none⟩ = some (.int .i64 ov) := HLn.out.ocell (List.getElem?_set_self hil2)
            have HL6 := Lib.hid (HLn.out.setO i (tt : Int))
            have HK6 := Lib.hid (HKn.out.setCell (p := ⟨ob, i, none⟩) (.inr hzo) (.int .i64 (tt : Int)))
            clear hjj hrl
            go_wp2
            go_roundg g3
            case measure => omega
            case rel => exact ⟨i + 1, F', _, by omega, by omega, by go_num, HL6, HFn, HO2, HZn, HK6⟩
          · have HO2 := Lib.hid (HOn.out (O.set i ov) ov (by rw [HOS.out, if_neg hno]) (List.getElem?_set_self hil2) (fun t ht => by rw [List.getElem?_set_ne (fun e => ht e.symm)]))
            clear hno
            go_wp2
            go_roundg g3
            case measure => omega
            case rel => exact ⟨i + 1, F', _, by omega, by omega, by go_num, HLn, HFn, HO2, HZn, HKn⟩

end Go.Proofs.YtkbdfnmeomkpjaaGreat
