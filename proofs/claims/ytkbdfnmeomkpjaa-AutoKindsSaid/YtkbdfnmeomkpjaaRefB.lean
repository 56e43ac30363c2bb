/- The longest state with which a text ends, by the reference; no condition but the sizes. -/
import Derived.Test.YtkbdfnmeomkpjaaRefA
namespace Go.Proofs.Ytkbdfnmeomkpjaa
open Go.RowKit
set_option linter.unusedVariables false
set_option linter.unusedSimpArgs false
set_option maxRecDepth 100000

set_option maxHeartbeats 2000000 in
theorem longest_ (A : Option Addr) (n c B : Nat) (l LL : List (List UInt8)) (p : List UInt8) (most : Nat) (w : World) (h : Sees w B 1 A n (strVs LL)) (hn : n ≤ 100000) (hst : Sts l LL) (hm : most ≤ p.length) (hp : p.length ≤ 100000) :
    Calls Try.prog 33 #[.slice A n c, .string ⟨p.toArray⟩, .int .i64 (most : Int)] w fun e w' => e = .returned (.int .i64 (lsuf LL (p.drop (p.length - most)) : Int)) ∧ w' = w := by
  have HFD := Lib.hid (fun (q : List UInt8) => rfind16_ A n c B LL q w h hn)
  have HST := Lib.hid hst
  obtain ⟨L, hL⟩ : ∃ L, p.length = L := ⟨_, rfl⟩
  have HLE := Lib.hid hL
  have hbs : (⟨p.toArray⟩ : ByteArray).size = L := by rw [← hL]; exact Lib.size_eq _
  have HX := Lib.hid (fun (k : Nat) => show (⟨p.toArray⟩ : ByteArray).extract k L = ⟨(p.drop k).toArray⟩ by rw [← hbs, extract_end])
  rw [hL] at hm hp
  rw [hL]
  obtain ⟨R, hR⟩ : ∃ R, lsuf LL (p.drop (L - most)) = R := ⟨_, rfl⟩
  have HR := Lib.hid hR
  rw [hR]
  clear hR hL h hst
  go_enter Try.func33, Try.ntmps33
  go_wp2
  go_loopg [7, 8] (L + 1) (fun gh v7 v8 wr => ∃ k : Nat, k + 1 = gh ∧ k ≤ L ∧ v7 = .int .i64 (k : Int) ∧ RowKit.Hid (k ≤ most → lsuf LL (p.drop (L - k)) = R) ∧ wr = w)
  case atStart => exact ⟨L, rfl, Nat.le_refl _, rfl, Lib.hid (fun hk => by rw [show L = most by omega]; rw [← HR.out]; congr 2; omega), rfl⟩
  case round =>
    obtain ⟨k, hkg, hkL, rfl, HK, rfl⟩ := hrel
    cases gk with
    | zero => omega
    | succ g3 =>
      have hk0 : (0 : Int) ≤ (k : Int) := by omega
      by_cases hkm : most < k
      · have hkmi : (most : Int) < (k : Int) := by omega
        cases k with
        | zero => omega
        | succ k' =>
          have hdec : IntKind.i64.wrap (((k' + 1 : Nat) : Int) - 1) = (k' : Int) := by rw [IntKind.wrap_i64]; omega
          go_wp2
          go_roundg g3
          case measure => omega
          case rel => exact ⟨k', by omega, by omega, by go_num, Lib.hid (fun hk => by rw [← HR.out]; congr 2; omega), rfl⟩
      · have hkmi : ¬ (most : Int) < (k : Int) := by omega
        have hre := HK.out (by omega)
        obtain ⟨j, hj⟩ : ∃ j, L - k = j := ⟨_, rfl⟩
        have hjk : (L : Int) - (k : Int) = (j : Int) := by omega
        have hjL : j ≤ L := by omega
        have hxj := HX.out j
        have hfd := HFD.out (p.drop j)
        rw [hj] at hre
        have HRE := Lib.hid hre
        have HFJ := Lib.hid hfd
        clear hre hfd
        go_wp2_with fail
        refine HFJ.out.mono ?_
        rintro e w2 ⟨hcase, rfl⟩
        rcases hcase with ⟨t, rfl, ht⟩ | ⟨rfl, hno⟩
        · obtain rfl : t = R := by rw [← HRE.out]; exact (lsuf_in HST.out ht).symm
          have ht0 : (0 : Int) ≤ (t : Int) := by omega
          clear ht
          go_wp2
          go_ret
          exact ⟨rfl, rfl⟩
        · cases k with
          | zero =>
            refine absurd ?_ hno
            rw [List.drop_eq_nil_of_le (by rw [HLE.out]; omega)]
            exact List.mem_of_getElem? HST.out.zero
          | succ k' =>
            have hjl : j < p.length := by rw [HLE.out]; omega
            have hnx : lsuf LL (p.drop (L - k')) = R := by
              rw [← HRE.out, List.drop_eq_getElem_cons hjl] at *
              rw [lsuf_out hno, show L - k' = j + 1 by omega]
            have HNX := Lib.hid hnx
            have hdec : IntKind.i64.wrap (((k' + 1 : Nat) : Int) - 1) = (k' : Int) := by rw [IntKind.wrap_i64]; omega
            clear hno hnx hjl
            go_wp2
            go_roundg g3
            case measure => omega
            case rel => exact ⟨k', by omega, by omega, by go_num, Lib.hid (fun _ => HNX.out), rfl⟩

end Go.Proofs.Ytkbdfnmeomkpjaa
