/- Each fall leads to a shorter state; what is no state answers nothing; no condition. -/
import Derived.Test.YtkbdfnmeomkpjaaLnkT
namespace Go.Proofs.Ytkbdfnmeomkpjaa
open Go.RowKit
set_option linter.unusedVariables false
set_option linter.unusedSimpArgs false
set_option maxRecDepth 100000

theorem noSt_out (g tg b cap fb ob : Nat) (l : List (List UInt8)) (S : List TSt) (F O : List Int) (k : Int) (w : World) (h : LkA w g tg b cap fb ob l S F O) (hk : ¬ (0 ≤ k ∧ k < (S.length : Int))) : NoSt (some ⟨g, 0, none⟩) k w := by
  have := lis_ g tg b cap fb ob l S F O k w h
  rw [isB_out hk] at this
  exact this

set_option maxHeartbeats 4000000 in
theorem falls_row (w : World) (A : Option Addr) (m c : Nat) (l0 : List ByteArray) (k0 c0 : Int) (h0 : m ≤ c ∧ m ≤ maxLen ∧ Sees w w.heap.size 1 A m (l0.map Value.string) ∧ ∀ s ∈ l0, s.size ≤ maxLen) (h1 : -9223372036854775808 ≤ k0 ∧ k0 ≤ 9223372036854775807) (h2 : 0 ≤ c0 ∧ c0 ≤ 255) :
    Calls Try.prog 7 #[.slice A m c, .int .i64 k0, .int .u8 c0] w fun e w' => e = .returned (.bool true) ∧ Pure' w w' := by
  obtain ⟨_, hm, hse, hsz⟩ := h0
  have hll : l0.length = m := by have := hse.1; simpa using this
  have HFEW := Lib.hid (few_ A m c w.heap.size l0 w hse 12 20 (by decide) (by decide) hm hsz)
  have HAW := Lib.hid awake_
  have HSE := Lib.hid hse
  have HLL := Lib.hid hll
  clear hse hsz hll
  go_enter Try.func7, Try.ntmps7
  go_wp2_with fail
  refine HFEW.out.mono ?_
  rintro e w1 ⟨⟨b0, rfl, hb0⟩, rfl⟩
  cases b0 with
  | false =>
    clear hb0
    go_wp2_with fail
    refine (HAW.out _).mono ?_
    rintro e w2 ⟨rfl, hk⟩
    have HK := Lib.hid hk
    clear hk
    go_wp2
    go_ret
    exact ⟨rfl, HK.out⟩
  | true =>
    obtain ⟨hf1, hf2⟩ := hb0.1 rfl
    have HNEW := Lib.hid (new_ A m c _ l0 w HSE.out (Nat.le_refl _) (by rw [← HLL.out]; exact hf1) hf2)
    have HF2 := Lib.hid hf2
    clear hb0 hf2
    go_wp2_with fail
    refine HNEW.out.mono ?_
    rintro e w1 ⟨x, er, lp, rfl, hc, hset, hk⟩
    have hc1 : (OkL l0 ∧ lp.Perm l0 ∧ InOrd lp) ∨ lp = [] := by
      rcases hc with ⟨a1, _, a2, a3⟩ | ⟨_, a, _⟩
      · exact .inl ⟨a1, a2, a3⟩
      · exact .inr a
    have hord := new_ord hc1
    have hfew := new_few (l := l0) (lp := lp) (N := 12) (M := 20) (by rcases hc1 with a | a; exact .inl a.2.1; exact .inr a) hf1 HF2.out
    have HLK := Lib.hid (newLink_ x lp w1 hset hfew.1 hfew.2 hord.1 hord.2)
    have HLP := Lib.hid hfew.2
    have HK1 := Lib.hid hk
    generalize bl lp = l at *
    clear hc hc1 hord hfew hset hk HNEW
    go_wp2_with fail
    refine HLK.out.mono ?_
    rintro e w2 ⟨g, tg, b, cap, fb, ob, S, F, O, rfl, hlk, hf, ho, _, hk2⟩
    have HLI := Lib.hid (show LkI w2 g tg b cap fb ob l S F O from ⟨hlk, hf, ho⟩)
    have HK2 := Lib.hid (HK1.out.trans hk2 (fun _ _ hf => hf))
    have HST := Lib.hid hlk.ti.sts
    have HTR := Lib.hid (ltrie_ g tg b cap fb ob l S F O w2 hlk)
    have HLEN := Lib.hid (tlen_ tg b cap S.length w2 hlk.ti.tr.box)
    have hn241 := hlk.ti.few
    have hnl := HLI.out.len
    obtain ⟨n, hn⟩ : ∃ n, S.length = n := ⟨_, rfl⟩
    have HN := Lib.hid hn
    rw [hn] at HLEN hn241 hnl
    have HNL := Lib.hid hnl
    have hn1 : 1 ≤ n := by
      rw [hnl]
      exact List.length_pos_iff.2 (fun e => by have := HST.out.zero; rw [e] at this; simp at this)
    clear hlk hf ho hk2 hn hnl HLK HK1
    have hn1i : ¬ (n : Int) < 1 := by omega
    go_wp2_with fail
    refine HTR.out.mono ?_
    rintro e w3 ⟨rfl, rfl⟩
    go_wp2_with fail
    refine HLEN.out.mono ?_
    rintro e w3 ⟨rfl, rfl⟩
    go_wp2
    go_loopg [11, 12, 13, 14] (n - 1) (fun gh v11 v12 v13 v14 wr => ∃ i : Nat, i + gh = n ∧ 1 ≤ i ∧ v11 = .int .i64 (i : Int) ∧ wr = w3)
    case atStart => exact ⟨1, by omega, Nat.le_refl _, rfl, rfl⟩
    case round =>
      obtain ⟨i, hig, hi1, rfl, rfl⟩ := hrel
      cases gk with
      | zero =>
        obtain rfl : i = n := by omega
        go_wp2_with fail
        refine HLEN.out.mono ?_
        rintro e w4 ⟨rfl, rfl⟩
        go_wp2_with fail
        refine (out_out none k0 w4 (lis_nil k0 w4)).mono ?_
        rintro e w5 ⟨rfl, rfl⟩
        go_wp2_with fail
        refine (fail_out none k0 _ (lis_nil k0 _)).mono ?_
        rintro e w6 ⟨rfl, rfl⟩
        go_wp2_with fail
        refine (step_out none k0 c0 _ (lis_nil k0 _)).mono ?_
        rintro e w7 ⟨rfl, rfl⟩
        go_wp2_with fail
        refine (hits_out none k0 _ (lis_nil k0 _)).mono ?_
        rintro e w8 ⟨rfl, rfl⟩
        go_wp2_with fail
        refine (ltrie_nil _).mono ?_
        rintro e w4 ⟨rfl, rfl⟩
        by_cases hk0 : 0 ≤ k0
        · by_cases hkn : k0 < (i : Int)
          · go_wp2_with fail
            refine HLEN.out.mono ?_
            rintro e w5 ⟨rfl, rfl⟩
            go_wp2_with fail
            refine (HAW.out _).mono ?_
            rintro e w7 ⟨rfl, hk⟩
            have HK7 := Lib.hid (HK2.out.trans hk (fun _ _ hf => hf))
            clear hk
            go_wp2
            go_ret
            exact ⟨rfl, HK7.out⟩
          · go_wp2_with fail
            refine HLEN.out.mono ?_
            rintro e w4 ⟨rfl, rfl⟩
            have HNO := Lib.hid (noSt_out g tg b cap fb ob l S F O k0 w4 HLI.out.lk (by rw [HN.out]; omega))
            go_wp2_with fail
            refine (out_out _ k0 w4 HNO.out).mono ?_
            rintro e w5 ⟨rfl, rfl⟩
            go_wp2_with fail
            refine (fail_out _ k0 _ HNO.out).mono ?_
            rintro e w6 ⟨rfl, rfl⟩
            go_wp2_with fail
            refine (step_out _ k0 c0 _ HNO.out).mono ?_
            rintro e w6 ⟨rfl, rfl⟩
            go_wp2_with fail
            refine (hits_out _ k0 _ HNO.out).mono ?_
            rintro e w6 ⟨rfl, rfl⟩
            go_wp2_with fail
            refine (HAW.out _).mono ?_
            rintro e w7 ⟨rfl, hk⟩
            have HK7 := Lib.hid (HK2.out.trans hk (fun _ _ hf => hf))
            clear hk
            go_wp2
            go_ret
            exact ⟨rfl, HK7.out⟩
        · have HNO := Lib.hid (noSt_out g tg b cap fb ob l S F O k0 w4 HLI.out.lk (by rw [HN.out]; omega))
          go_wp2_with fail
          refine (out_out _ k0 w4 HNO.out).mono ?_
          rintro e w5 ⟨rfl, rfl⟩
          go_wp2_with fail
          refine (fail_out _ k0 _ HNO.out).mono ?_
          rintro e w6 ⟨rfl, rfl⟩
          go_wp2_with fail
          refine (step_out _ k0 c0 _ HNO.out).mono ?_
          rintro e w6 ⟨rfl, rfl⟩
          go_wp2_with fail
          refine (hits_out _ k0 _ HNO.out).mono ?_
          rintro e w6 ⟨rfl, rfl⟩
          go_wp2_with fail
          refine (HAW.out _).mono ?_
          rintro e w7 ⟨rfl, hk⟩
          have HK7 := Lib.hid (HK2.out.trans hk (fun _ _ hf => hf))
          clear hk
          go_wp2
          go_ret
          exact ⟨rfl, HK7.out⟩
      | succ g3 =>
        have hii : (i : Int) < (n : Int) := by omega
        obtain ⟨p, hp⟩ : ∃ p, (statesL l)[i]? = some p := ⟨_, List.getElem?_eq_getElem (by rw [← HNL.out]; omega)⟩
        obtain ⟨htt, q, hq, hql⟩ := fall_less HST.out hp (by omega)
        have HFA := Lib.hid (fail_ g tg b cap fb ob l S F O i p wr HLI.out hp)
        have HOU := Lib.hid (out_ g tg b cap fb ob l S F O i p wr HLI.out hp)
        have HOL := Lib.hid (fun (k : Nat) (hk : osuf l (statesL l) p.tail = (k : Int)) => out_less HST.out hq hk)
        generalize lsuf (statesL l) p.tail = tt at *
        have HD1 := Lib.hid (depth_ tg b cap l S tt q wr HLI.out.lk.ti hq)
        have HD2 := Lib.hid (depth_ tg b cap l S i p wr HLI.out.lk.ti hp)
        clear hp hq
        have e1 : ¬ (tt : Int) < 0 := by omega
        have e2 : ¬ (i : Int) ≤ (tt : Int) := by omega
        have e3 : ¬ (p.length : Int) ≤ (q.length : Int) := by omega
        go_wp2_with fail
        refine HLEN.out.mono ?_
        rintro e w4 ⟨rfl, rfl⟩
        go_wp2_with fail
        refine HFA.out.mono ?_
        rintro e w4 ⟨rfl, rfl⟩
        go_wp2_with fail
        refine HOU.out.mono ?_
        rintro e w5 ⟨hcase, rfl⟩
        rcases hcase with ⟨rfl, ho⟩ | ⟨k, rfl, ho⟩
        · clear ho
          go_wp2_with fail
          refine HD1.out.mono ?_
          rintro e w6 ⟨rfl, rfl⟩
          go_wp2_with fail
          refine HD2.out.mono ?_
          rintro e w6 ⟨rfl, rfl⟩
          go_wp2
          go_roundg g3
          case measure => omega
          case rel => exact ⟨i + 1, by omega, by omega, by go_num, rfl⟩
        · obtain ⟨hk1, r, hr, hrq⟩ := HOL.out k ho
          have HD3 := Lib.hid (depth_ tg b cap l S k r w5 HLI.out.lk.ti hr)
          have e4 : ¬ (k : Int) < 1 := by omega
          have e5 : ¬ (q.length : Int) < (r.length : Int) := by omega
          clear ho hr
          go_wp2_with fail
          refine HD1.out.mono ?_
          rintro e w6 ⟨rfl, rfl⟩
          go_wp2_with fail
          refine HD2.out.mono ?_
          rintro e w6 ⟨rfl, rfl⟩
          go_wp2_with fail
          refine HD3.out.mono ?_
          rintro e w6 ⟨rfl, rfl⟩
          go_wp2_with fail
          refine HD1.out.mono ?_
          rintro e w6 ⟨rfl, rfl⟩
          go_wp2
          go_roundg g3
          case measure => omega
          case rel => exact ⟨i + 1, by omega, by omega, by go_num, rfl⟩

end Go.Proofs.Ytkbdfnmeomkpjaa
