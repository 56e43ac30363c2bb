/- Few texts, texts twice, the longest and the shortest, by the reference; no condition but the sizes. -/
import Derived.Test.YtkbdfnmeomkpjaaGreatPatC
namespace Go.Proofs.YtkbdfnmeomkpjaaGreat
open Go.RowKit
set_option linter.unusedVariables false
set_option linter.unusedSimpArgs false
set_option maxRecDepth 100000

def FewL (N M : Nat) (l : List ByteArray) : Prop := l.length ≤ N ∧ ∀ s ∈ l, s.size ≤ M
set_option maxHeartbeats 1000000 in
theorem few_ (A : Option Addr) (m c B : Nat) (l : List ByteArray) (w : World) (h : Sees w B 1 A m (l.map Value.string)) (N M : Nat) (hN : N ≤ 1000) (hM : M ≤ 1000) (hm : m ≤ maxLen) (hl : ∀ s ∈ l, s.size ≤ maxLen) :
    Calls Tryz.prog 7 #[.slice A m c, .int .i64 (N : Int), .int .i64 (M : Int)] w fun e w' => (∃ b, e = .returned (.bool b) ∧ (b = true ↔ FewL N M l)) ∧ w = w' := by
  have hll : l.length = m := by have := h.1; simpa using this
  have HS := Lib.hid h
  have HN := Lib.hid hll
  have HL := Lib.hid hl
  unfold maxLen at hm
  clear h hll hl
  by_cases h0 : N < m
  · go_enter Tryz.func7, Tryz.ntmps7
    go_wp2
    go_ret
    exact ⟨⟨false, rfl, ⟨fun e => (nomatch e), fun hf => by have := hf.1; rw [HN.out] at this; omega⟩⟩, rfl⟩
  go_enter Tryz.func7, Tryz.ntmps7
  go_wp2
  go_loopw [7] (fun v7 wr => ∃ k : Nat, k ≤ m ∧ v7 = .int .i64 k ∧ (∀ s ∈ l.take k, s.size ≤ M) ∧ wr = w) (fun v7 _ => m - (intOf v7).toNat)
  case atStart => exact ⟨0, Nat.zero_le _, rfl, by simp, rfl⟩
  case round =>
    obtain ⟨k, hk, rfl, hne, rfl⟩ := hrel
    have HNE := Lib.hid hne
    clear hne
    by_cases hlt : k < m
    · obtain ⟨ad, s, rfl, hs, hc⟩ := text_at HS.out hlt
      have hsz := HL.out s (List.mem_of_getElem? hs)
      unfold maxLen at hsz
      have HSN := Lib.hid (take_snoc hs)
      have HMEM := Lib.hid (List.mem_of_getElem? hs)
      clear hs
      by_cases hz : M < s.size
      · have HZ := Lib.hid hz
        go_wp2
        go_ret
        exact ⟨⟨false, rfl, ⟨fun e => (nomatch e), fun hf => by have := hf.2 s HMEM.out; have := HZ.out; omega⟩⟩, rfl⟩
      · have HZ := Lib.hid hz
        go_wp2
        go_roundw
        case rel =>
          refine ⟨k + 1, by omega, by go_num, fun t ht => ?_, trivial⟩
          rw [HSN.out] at ht
          rcases List.mem_append.1 ht with ht | ht
          · exact HNE.out t ht
          · rw [List.mem_singleton.1 ht]; have := HZ.out; omega
        case measure => simp [intOf] <;> omega
    · obtain rfl : k = m := by omega
      have HF : Hid (FewL N M l) := Lib.hid ⟨by rw [HN.out]; omega, by have := HNE.out; rwa [List.take_of_length_le (by rw [HN.out]; exact Nat.le_refl _)] at this⟩
      go_wp2
      go_ret
      exact ⟨⟨true, rfl, ⟨fun _ => HF.out, fun _ => rfl⟩⟩, rfl⟩

def RTwicePost (l : List ByteArray) (w : World) (e : Ending) (w' : World) : Prop :=
  ∃ t : Int, e = .returned (.int .i64 t) ∧ ((t = -1 ∧ l.Nodup) ∨ (0 ≤ t ∧ ¬ l.Nodup)) ∧ ∃ q, w' = w.drewN q
set_option maxHeartbeats 1000000 in
theorem rtwice_ (A : Option Addr) (m c B : Nat) (l : List ByteArray) (w : World) (h : Sees w B 1 A m (l.map Value.string)) (hm : m ≤ 1000) :
    Calls Tryz.prog 39 #[.slice A m c] w fun e w' => RTwicePost l w e w' := by
  have hll : l.length = m := by have := h.1; simpa using this
  have HS := Lib.hid h
  have HN := Lib.hid hll
  clear h hll
  go_enter Tryz.func39, Tryz.ntmps39
  go_wp2
  go_loopw [3] (fun v3 wr => ∃ k : Nat, k ≤ m ∧ v3 = .int .i64 k ∧ (l.take k).Nodup ∧ ∃ q, wr = w.drewN q) (fun v3 _ => m - (intOf v3).toNat)
  case atStart => exact ⟨0, Nat.zero_le _, rfl, by simp, 0, rfl⟩
  case round =>
    obtain ⟨k, hk, rfl, hnd, q, rfl⟩ := hrel
    have HND := Lib.hid hnd
    clear hnd
    by_cases hlt : k < m
    · obtain ⟨ad, s, rfl, hs, hc⟩ := text_at HS.out hlt
      have HSN := Lib.hid (take_snoc hs)
      clear hs
      go_wp2
      go_loopw [4] (fun v4 wr => ∃ j : Nat, j ≤ k ∧ v4 = .int .i64 j ∧ s ∉ (l.take k).take j ∧ ∃ q, wr = w.drewN q) (fun v4 _ => k - (intOf v4).toNat)
      case atStart => exact ⟨0, Nat.zero_le _, rfl, by simp, q, rfl⟩
      case round =>
        obtain ⟨j, hj, rfl, hni, q2, rfl⟩ := hrel
        have HNI := Lib.hid hni
        clear hni
        by_cases hjk : j < k
        · obtain ⟨ad2, t, had, ht, hc2⟩ := text_at HS.out (show j < m by omega)
          obtain rfl : ad = ad2 := by injection had
          have ht' : (l.take k)[j]? = some t := by rw [List.getElem?_take, if_pos hjk]; exact ht
          have HTS := Lib.hid (take_snoc ht')
          have HTM := Lib.hid (List.mem_of_getElem? ht')
          clear ht ht' had
          by_cases hts : t = s
          · subst hts
            go_wp2
            go_quiet (fail)
            go_wp2
            go_ret
            refine ⟨k, rfl, .inr ⟨by omega, fun hnd => ?_⟩, _, dn_two _ _ _⟩
            have h2 : (l.take (k + 1)).Nodup := hnd.sublist (List.take_sublist _ _)
            rw [HSN.out, nodup_snoc] at h2
            exact h2.2 HTM.out
          · have htl : (t.toList == s.toList) = false := by
              rw [bytes_beq]
              cases hb : (t.data.toList == s.data.toList) with
              | false => rfl
              | true => exact absurd (bytes_eq (by simpa using hb)) hts
            have HTN := Lib.hid hts
            clear hts
            go_wp2
            go_quiet (fail)
            go_wp2
            go_roundw
            case rel =>
              refine ⟨j + 1, by omega, by go_num, ?_, _, rfl⟩
              rw [HTS.out]
              intro hm2
              rcases List.mem_append.1 hm2 with hm2 | hm2
              · exact HNI.out hm2
              · exact HTN.out (List.mem_singleton.1 hm2).symm
            case measure => simp [intOf] <;> omega
        · obtain rfl : j = k := by omega
          have hns : s ∉ l.take j := by have := HNI.out; rwa [List.take_of_length_le (by rw [List.length_take]; omega)] at this
          have HNS := Lib.hid hns
          clear hns
          go_wp2
          go_roundw
          case rel => exact ⟨j + 1, by omega, by go_num, by rw [HSN.out, nodup_snoc]; exact ⟨HND.out, HNS.out⟩, q2, rfl⟩
          case measure => simp [intOf] <;> omega
    · obtain rfl : k = m := by omega
      have HF : Hid l.Nodup := Lib.hid (by have := HND.out; rwa [List.take_of_length_le (by rw [HN.out]; exact Nat.le_refl _)] at this)
      go_wp2
      go_ret
      exact ⟨-1, rfl, .inl ⟨rfl, HF.out⟩, q, rfl⟩
end Go.Proofs.YtkbdfnmeomkpjaaGreat
