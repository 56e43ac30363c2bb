/- The fall of a state, by the reference; no condition but the sizes. -/
import Derived.Test.YtkbdfnmeomkpjaaRefB
namespace Go.Proofs.Ytkbdfnmeomkpjaa
open Go.RowKit
set_option linter.unusedVariables false
set_option linter.unusedSimpArgs false
set_option maxRecDepth 100000

set_option maxHeartbeats 2000000 in
theorem rfail_ (A : Option Addr) (n c B : Nat) (l LL : List (List UInt8)) (t : Nat) (p : List UInt8) (w : World) (h : Sees w B 1 A n (strVs LL)) (hn : n ≤ 100000) (hst : Sts l LL) (ht : LL[t]? = some p) (hp : p.length ≤ 100000) :
    Calls Try.prog 39 #[.slice A n c, .int .i64 (t : Int)] w fun e w' => e = .returned (.int .i64 (lsuf LL p.tail : Int)) ∧ ∃ k, w' = w.drewN k := by
  have hln : LL.length = n := by have := h.1; rw [strVs_len] at this; omega
  have htn : t < n := by rw [← hln]; exact (List.getElem?_eq_some_iff.1 ht).1
  rcases Nat.eq_zero_or_pos t with h0 | h0
  · subst h0
    have hp0 : p = [] := by rw [hst.zero] at ht; cases ht; rfl
    subst hp0
    rw [show lsuf LL ([] : List UInt8).tail = 0 from rfl]
    clear h hst ht
    go_enter Try.func39, Try.ntmps39
    go_wp2
    go_ret
    exact ⟨rfl, 0, rfl⟩
  · have hne : 0 < p.length := by
      refine List.length_pos_iff.2 ?_
      rintro rfl
      have := hst.idx ht
      rw [hst.idx hst.zero] at this
      omega
    obtain ⟨ad, x, rfl, hx, xc⟩ := word_at h htn
    rw [ht] at hx
    cases hx
    obtain ⟨L, hL⟩ : ∃ L, p.length = L + 1 := ⟨p.length - 1, by omega⟩
    have HLO := Lib.hid (fun (k : Nat) => show Calls Try.prog 33 #[.slice (some ad) n c, .string ⟨p.toArray⟩, .int .i64 (L : Int)] (w.drewN k) fun e w' => e = .returned (.int .i64 (lsuf LL p.tail : Int)) ∧ w' = w.drewN k from by
      have := longest_ (some ad) n c B l LL p L (w.drewN k) ⟨h.1, h.2⟩ hn hst (by omega) hp
      rw [show p.length - L = 1 by omega, List.drop_one] at this
      exact this)
    have hbs : (⟨p.toArray⟩ : ByteArray).size = L + 1 := by rw [← hL]; exact Lib.size_eq _
    have ht0 : ((t : Int) == 0) = false := by rw [beq_eq_false_iff_ne]; omega
    rw [hL] at hp
    generalize lsuf LL p.tail = r at *
    clear h hst ht hne hL
    go_enter Try.func39, Try.ntmps39
    go_wp2_with fail
    go_quiet ((go_at_call 33; refine (HLO.out _).mono ?_; rintro e w1 ⟨rfl, rfl⟩; exact ⟨rfl, _, rfl⟩))
    go_wp2
    go_ret
    exact ⟨rfl, _, rfl⟩

end Go.Proofs.Ytkbdfnmeomkpjaa
