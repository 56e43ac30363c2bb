/- The way out of a state, by the reference; no condition but the sizes. -/
import Derived.Test.YtkbdfnmeomkpjaaRefC
namespace Go.Proofs.Ytkbdfnmeomkpjaa
open Go.RowKit
set_option linter.unusedVariables false
set_option linter.unusedSimpArgs false
set_option maxRecDepth 100000

/-- The way out, by the beginnings that are cut off. -/
theorem osuf_drop {l LL : List (List UInt8)} {p : List UInt8} {j : Nat} (hj : j < p.length) (h : p.drop j ∉ l) : osuf l LL (p.drop j) = osuf l LL (p.drop (j + 1)) := by
  rw [List.drop_eq_getElem_cons hj] at h ⊢
  rw [osuf, if_neg h]
theorem osuf_here {l LL : List (List UInt8)} {p : List UInt8} (hne : p ≠ []) (h : p ∈ l) : osuf l LL p = (LL.idxOf p : Int) := by
  cases p with
  | nil => exact absurd rfl hne
  | cons c p => rw [osuf, if_pos h]

set_option maxHeartbeats 2000000 in
theorem rout_ (A A2 : Option Addr) (n n2 c c2 B B2 : Nat) (l LL : List (List UInt8)) (t : Nat) (p : List UInt8) (w : World) (h : Sees w B 1 A n (strVs LL)) (h2 : Sees w B2 1 A2 n2 (strVs l)) (hn : n ≤ 100000) (hn2 : n2 ≤ 100000) (hst : Sts l LL) (ht : LL[t]? = some p) (hp : p.length ≤ 100000) :
    Calls Try.prog 37 #[.slice A2 n2 c2, .slice A n c, .int .i64 (t : Int)] w fun e w' => e = .returned (.int .i64 (osuf l LL p.tail)) ∧ w' = w := by
  have hln : LL.length = n := by have := h.1; rw [strVs_len] at this; omega
  have htn : t < n := by rw [← hln]; exact (List.getElem?_eq_some_iff.1 ht).1
  have HF := Lib.hid (fun (q : List UInt8) => rfind16_ A n c B LL q w h hn)
  have HG := Lib.hid (fun (q : List UInt8) => rfind10_ A2 n2 c2 B2 l q w h2 hn2)
  have HST := Lib.hid hst
  obtain ⟨ad, x, rfl, hx, xc⟩ := word_at h htn
  rw [ht] at hx
  cases hx
  obtain ⟨L, hL⟩ : ∃ L, p.length = L := ⟨_, rfl⟩
  have HLE := Lib.hid hL
  have hbs : (⟨p.toArray⟩ : ByteArray).size = L := by rw [← hL]; exact Lib.size_eq _
  have HX := Lib.hid (fun (k : Nat) => show (⟨p.toArray⟩ : ByteArray).extract k L = ⟨(p.drop k).toArray⟩ by rw [← hbs, extract_end])
  rw [hL] at hp
  obtain ⟨R, hR⟩ : ∃ R, osuf l LL p.tail = R := ⟨_, rfl⟩
  have HR := Lib.hid hR
  rw [hR]
  have hw1 : IntKind.i64.wrap ((L : Int) - 1) = (L : Int) - 1 := by rw [IntKind.wrap_i64]; omega
  clear h h2 hst ht hL hR
  go_enter Try.func37, Try.ntmps37
  go_wp2
  go_loopg [8] (L - 1) (fun gh v8 wr => ((∃ k : Nat, k = gh ∧ k < L ∧ v8 = .int .i64 (k : Int) ∧ RowKit.Hid (osuf l LL (p.drop (L - k)) = R)) ∨ (gh = 0 ∧ v8 = .int .i64 (-1) ∧ R = -1)) ∧ wr = w)
  case atStart =>
    refine ⟨?_, rfl⟩
    rcases Nat.eq_zero_or_pos L with h0 | h0
    · subst h0
      have : p = [] := List.length_eq_zero_iff.1 HLE.out
      subst this
      exact .inr ⟨rfl, rfl, by rw [← HR.out]; rfl⟩
    · exact .inl ⟨L - 1, rfl, by omega, by go_num, Lib.hid (by rw [← HR.out, show L - (L - 1) = 1 by omega, List.drop_one])⟩
  case round =>
    obtain ⟨hc, rfl⟩ := hrel
    rcases hc with ⟨k, rfl, hkL, rfl, HK⟩ | ⟨rfl, rfl, rfl⟩
    · cases k with
      | zero =>
        have hR1 : R = -1 := by rw [← HK.out, List.drop_eq_nil_of_le (by rw [HLE.out]; omega)]; rfl
        subst hR1
        go_wp2
        go_ret
        exact ⟨rfl, rfl⟩
      | succ g3 =>
        obtain ⟨j, hj⟩ : ∃ j, L - (g3 + 1) = j := ⟨_, rfl⟩
        have hjk : (L : Int) - ((g3 + 1 : Nat) : Int) = (j : Int) := by omega
        have hjk2 : (L : Int) - ((g3 : Int) + 1) = (j : Int) := by omega
        have hjL : j ≤ L := by omega
        have hxj := HX.out j
        have hre := HK.out
        rw [hj] at hre
        have HRE := Lib.hid hre
        have HGJ := Lib.hid (HG.out (p.drop j))
        have HFJ := Lib.hid (HF.out (p.drop j))
        clear hre
        go_wp2_with fail
        refine HGJ.out.mono ?_
        rintro e w2 ⟨hcase, rfl⟩
        rcases hcase with ⟨t1, rfl, ht⟩ | ⟨rfl, hno⟩
        · have hml := List.mem_of_getElem? ht
          have HML := Lib.hid hml
          have ht0 : (0 : Int) ≤ (t1 : Int) := by omega
          clear ht hml
          go_wp2_with fail
          refine HFJ.out.mono ?_
          rintro e w3 ⟨hcase, rfl⟩
          rcases hcase with ⟨t2, rfl, ht⟩ | ⟨rfl, hno⟩
          · have hRt : R = (t2 : Int) := by
              rw [← HRE.out, osuf_here (HST.out.pats _ HML.out) HML.out, HST.out.idx ht]
            subst hRt
            clear ht
            go_wp2
            go_ret
            exact ⟨rfl, rfl⟩
          · exact absurd (HST.out.sub HML.out) hno
        · have hnx : osuf l LL (p.drop (L - g3)) = R := by
            rw [← HRE.out, osuf_drop (by rw [HLE.out]; omega) hno, show L - g3 = j + 1 by omega]
          have HNX := Lib.hid hnx
          clear hno hnx
          go_wp2
          go_roundg g3
          case measure => omega
          case rel => exact ⟨.inl ⟨g3, rfl, by omega, by go_num, HNX⟩, rfl⟩
    · go_wp2
      go_ret
      exact ⟨rfl, rfl⟩

end Go.Proofs.Ytkbdfnmeomkpjaa
