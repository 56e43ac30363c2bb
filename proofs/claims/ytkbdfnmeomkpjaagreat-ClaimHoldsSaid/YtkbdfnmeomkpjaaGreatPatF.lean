/- A set's texts by the reference, and what does not hang on their order; no condition but the sizes. -/
import Derived.Test.YtkbdfnmeomkpjaaGreatPatE
namespace Go.Proofs.YtkbdfnmeomkpjaaGreat
open Go.RowKit
set_option linter.unusedVariables false
set_option linter.unusedSimpArgs false
set_option maxRecDepth 100000

/-- What comes of texts by the reference. -/
def RNewPost (l : List ByteArray) (w : World) (e : Ending) (w' : World) : Prop :=
  ∃ (A : Option Addr) (c : Nat) (l' : List ByteArray) (er : Int), e = .returned (.tuple #[.slice A l'.length c, .int .i64 er]) ∧ ((OkL l ∧ l'.Perm l ∧ InOrd l') ∨ (¬ OkL l ∧ l' = [])) ∧ Sees w' w'.heap.size 1 A l'.length (l'.map Value.string) ∧ Pure' w w'

set_option maxHeartbeats 2000000 in
theorem rnew_ (A : Option Addr) (m c B : Nat) (l : List ByteArray) (w : World) (h : Sees w B 1 A m (l.map Value.string)) (hB : B ≤ w.heap.size) (hm : m ≤ 12) (hl : ∀ s ∈ l, s.size ≤ 20) :
    Calls Tryz.prog 9 #[.slice A m c] w fun e w' => RNewPost l w e w' := by
  have hll : l.length = m := by have := h.1; simpa using this
  have HS := Lib.hid h
  have HN := Lib.hid hll
  have HL := Lib.hid hl
  clear h hll hl
  by_cases h0 : m = 0
  · subst h0
    have HE : Hid (l = []) := Lib.hid (List.eq_nil_of_length_eq_zero HN.out)
    go_enter Tryz.func9, Tryz.ntmps9
    go_wp2
    go_ret2
    exact ⟨none, 0, [], 14, rfl, .inr ⟨fun hk => hk.1 HE.out, rfl⟩, Sees.nil _ _ _ _, Keeps.refl _ _⟩
  have h0' : ((m : Int) == 0) = false := by rw [beq_eq_false_iff_ne]; omega
  have h0n : 0 < m := by omega
  clear h0
  go_enter Tryz.func9, Tryz.ntmps9
  go_wp2
  go_loopw [4, 5] (fun v4 v5 wr => ∃ k : Nat, k ≤ m ∧ v5 = .int .i64 k ∧ v4 = .int .i64 (sumL (l.take k) : Nat) ∧ sumL (l.take k) ≤ 20 * k ∧ (∀ s ∈ l.take k, s.size ≠ 0) ∧ wr = w) (fun _ v5 _ => m - (intOf v5).toNat)
  case atStart => exact ⟨0, Nat.zero_le _, rfl, rfl, by simp [sumL], by simp, rfl⟩
  case round =>
    obtain ⟨k, hk, rfl, rfl, hsu, hne, rfl⟩ := hrel
    have HNE := Lib.hid hne
    clear hne
    by_cases hlt : k < m
    · obtain ⟨ad, s, rfl, hs, hc⟩ := text_at HS.out hlt
      have hs20 := HL.out s (List.mem_of_getElem? hs)
      have HSN := Lib.hid (take_snoc hs)
      have HMEM := Lib.hid (List.mem_of_getElem? hs)
      have HE3 := Lib.hid (show sumL (l.take (k + 1)) = sumL (l.take k) + s.size by rw [take_snoc hs]; exact sum_snoc _ _)
      clear hs
      generalize sumL (l.take k) = x at *
      by_cases hz : s.size = 0
      · have HZ := Lib.hid hz
        have he : s = ByteArray.empty := by
          cases s with | mk d => cases d with | mk d => cases d with | nil => rfl | cons _ _ => simp [ByteArray.size] at hz
        clear hz
        subst he
        go_wp2
        go_ret2
        exact ⟨none, 0, [], 7, rfl, .inr ⟨fun hk => hk.2.1 _ HMEM.out rfl, rfl⟩, Sees.nil _ _ _ _, Keeps.refl _ _⟩
      · have HZ := Lib.hid hz
        have hq : s.toList.isEmpty = false := by
          rw [ByteArray.toList_eq]
          cases s with | mk d => cases d with | mk d => cases d with | nil => exact absurd rfl hz | cons _ _ => rfl
        clear hz
        go_wp2
        go_roundw
        case rel =>
          refine ⟨k + 1, by omega, by go_num, by rw [HE3.out]; go_num, by rw [HE3.out]; omega, fun t ht => ?_, trivial⟩
          rw [HSN.out] at ht
          rcases List.mem_append.1 ht with ht | ht
          · exact HNE.out t ht
          · rw [List.mem_singleton.1 ht]; exact HZ.out
        case measure => simp [intOf] <;> omega
    · obtain rfl : k = m := by omega
      have hlk : l.take k = l := List.take_of_length_le (by rw [HN.out]; exact Nat.le_refl _)
      have HNE2 : Hid (∀ s ∈ l, s.size ≠ 0) := Lib.hid (by have := HNE.out; rwa [hlk] at this)
      clear HNE hlk
      generalize sumL (l.take k) = x at *
      have HTW := Lib.hid (rtwice_ A k c B l wr HS.out (by omega))
      have HSO := Lib.hid (fun w1 (hp : Pure' wr w1) => rsorted_ A k c B l w1 (HS.out.pure hp hB) (Nat.le_trans hB hp.size) hm)
      go_wp2_with fail
      refine HTW.out.mono ?_
      rintro e w1 ⟨t, rfl, ht, q, rfl⟩
      have HP1 := Lib.hid ((Keeps.refl (fun _ => False) wr).drewN q)
      rcases ht with ⟨rfl, hnd⟩ | ⟨ht0, hnd⟩
      · have HND := Lib.hid hnd
        clear hnd
        go_wp2_with fail
        refine (HSO.out _ HP1.out).mono ?_
        rintro e w2 ⟨A2, c2, l', rfl, hperm, hsees, hp2⟩
        have HH := Lib.hid (And.intro hperm (And.intro hsees (HP1.out.then_ hp2)))
        clear hperm hsees hp2
        go_wp2
        go_ret2
        exact ⟨A2, c2, l', 0, rfl, .inl ⟨⟨fun e => by have := HN.out; rw [e] at this; simp at this; omega, HNE2.out, HND.out⟩, HH.out.1.1, HH.out.1.2⟩, HH.out.2.1, HH.out.2.2⟩
      · have HND := Lib.hid hnd
        clear hnd
        go_wp2
        go_ret2
        exact ⟨none, 0, [], 8, rfl, .inr ⟨fun hk => HND.out hk.2.2, rfl⟩, Sees.nil _ _ _ _, HP1.out⟩
end Go.Proofs.YtkbdfnmeomkpjaaGreat
