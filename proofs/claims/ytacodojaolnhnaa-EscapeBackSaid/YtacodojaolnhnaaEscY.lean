/- What EscapeReads and EscapeBack answer; no condition. -/
import Derived.Test.YtacodojaolnhnaaEscX
import Derived.Test.YtacodojaolnhnaaEscS
namespace Go.Proofs.Ytacodojaolnhnaa
open Go.RowKit
set_option linter.unusedVariables false
set_option linter.unusedSimpArgs false
set_option maxRecDepth 100000

theorem unqV_form (l : List UInt8) : ∃ (o : ByteArray) (e : Int), unqV l = .tuple #[.string o, .int .i64 e] := by
  unfold unqV
  cases unqL l with
  | none => exact ⟨_, _, rfl⟩
  | some o => exact ⟨_, _, rfl⟩

set_option maxHeartbeats 1000000 in
theorem reads_walk (l : List UInt8) (w : World) (hs : l.length ≤ maxLen) : Calls Try.prog 9 #[.string ⟨l.toArray⟩] w fun e w' => e = .returned (.bool true) ∧ Pure' w w' := by
  have hsz : ((⟨l.toArray⟩ : ByteArray)).size = l.length := by simp [ByteArray.size]
  unfold maxLen at hs
  have H5 := Lib.hid awake_
  by_cases h : 300 < l.length
  · go_enter Try.func9, Try.ntmps9
    go_wp2_with (go_at_call 23; refine (H5.out _).mono ?_; rintro e w1 ⟨rfl, hp1⟩)
    go_ret
    exact ⟨rfl, by assumption⟩
  · have hw := (Lib.hid (wordsF_len l []).1)
    obtain ⟨o, er, hv⟩ := unqV_form l
    have h1 := fun w => unquote_ l w (by omega)
    have h2 := fun w => runquote_ l w (by omega)
    have h3 := fun w => words_ l w (by omega)
    have h4 := fun w => rwords_ l w (by omega)
    unfold WordsPost at h3 h4
    rw [hv] at h1 h2
    have hL : ((wordsL l).map (fun x => (⟨x.toArray⟩ : ByteArray))).length = (wordsL l).length := by simp
    have hN : (wordsL l).length ≤ 1000000000 := by unfold wordsL; have := hw.out; omega
    generalize ((wordsL l).map (fun x => (⟨x.toArray⟩ : ByteArray))) = L at *
    generalize (wordsL l).length = N at *
    have H1 := Lib.hid h1
    have H2 := Lib.hid h2
    have H3 := Lib.hid h3
    have H4 := Lib.hid h4
    have H6 := Lib.hid same_
    clear h1 h2 h3 h4 hv hw
    go_enter Try.func9, Try.ntmps9
    go_wp2_with (first
      | (go_at_call 41; refine (H1.out _).mono ?_; rintro e w1 ⟨rfl, hk⟩; have HK1 := Lib.hid hk; clear hk)
      | (go_at_call 42; refine (H2.out _).mono ?_; rintro e w2 ⟨rfl, hk⟩; have HK2 := Lib.hid hk; clear hk)
      | (go_at_call 44; refine (H3.out _).mono ?_; rintro e w3 ⟨A3, c3, rfl, hs3, hk⟩; have HK3 := Lib.hid hk; have HS3 := Lib.hid hs3; clear hk hs3)
      | (go_at_call 45; refine (H4.out _).mono ?_; rintro e w4 ⟨A4, c4, rfl, hs4, hk⟩; have HK4 := Lib.hid hk; have HS4 := Lib.hid hs4; clear hk hs4)
      | (go_at_call 43; refine (H6.out _ _ _ _ _ w4.heap.size L _ ((HS3.out.pure HK4.out (Nat.le_refl _)).more HK4.out.size) HS4.out hN).mono ?_; rintro e w5 ⟨rfl, q, rfl⟩)
      | (go_at_call 23; refine (H5.out _).mono ?_; rintro e w6 ⟨rfl, hk⟩; have HK6 := Lib.hid hk; clear hk))
    go_ret
    exact ⟨rfl, ((((HK1.out.then_ HK2.out).then_ HK3.out).then_ HK4.out).drewN q).then_ HK6.out⟩

theorem reads_row (w : World) (s : ByteArray) (hs : s.size ≤ maxLen) :
    Calls Try.prog 9 #[.string s] w fun e w' => e = .returned (.bool true) ∧ Pure' w w' := by
  have hl : s.data.toList.length ≤ maxLen := by
    rw [← Lib.size_eq]; exact hs
  exact reads_walk s.data.toList w hl
end Go.Proofs.Ytacodojaolnhnaa
