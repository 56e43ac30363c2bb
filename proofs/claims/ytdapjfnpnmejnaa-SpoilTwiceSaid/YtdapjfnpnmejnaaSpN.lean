/- Whether a record may be written, and numbers written one behind the other: what the printed texts come to; no program in sight. -/
import Derived.Test.YtdapjfnpnmejnaaSpK
import Derived.Test.YtdapjfnpnmejnaaGBx2
import Derived.Test.YtdapjfnpnmejnaaGBx5
namespace Go.Proofs.Ytdapjfnpnmejnaa
open Go.RowKit Go.Proofs.YtdapjfnpnmejnaaW.PrintWords Go.Proofs.Ytdapjfnpnmejnaa.GB
set_option linter.unusedVariables false
set_option linter.unusedSimpArgs false

theorem rd_at {xs : List Int} {i : Nat} (h : i < xs.length) : rd xs (i : Int) = xs[i] := by unfold rd; rw [Int.toNat_natCast, List.getD_eq_getElem?_getD, List.getElem?_eq_getElem h]; rfl
theorem ids_l0 : ∀ (m i : Nat) (ahead : Int) (ids : List Int), ids.length = i + m → ids.length ≤ 1000000 → Ev (fun k => record_ids.l0 k ahead ids (ids.length : Int) (i : Int)) (risesL ahead (ids.drop i))
  | 0, i, ahead, ids, h, hl => by
    rw [List.drop_eq_nil_of_le (by omega), risesL]
    exact Ev.step (f := fun _ => some true) (fun k => by simp only [record_ids.l0]; rw [if_neg (by omega)]) (Ev.now _)
  | m + 1, i, ahead, ids, h, hl => by
    have hi : i < ids.length := by omega
    rw [List.drop_eq_getElem_cons hi, risesL]
    by_cases h1 : ids[i] ≤ ahead
    · rw [show decide (ahead < ids[i]) = false by simp; omega, Bool.false_and, Bool.false_and]
      exact Ev.step (f := fun _ => some false) (fun k => by simp only [record_ids.l0]; rw [if_pos (by omega), if_pos (by omega), if_pos (by omega), rd_at hi, if_pos h1]) (Ev.now _)
    · rw [show decide (ahead < ids[i]) = true by simp; omega, Bool.true_and]
      by_cases h2 : ids[i] ≥ 65535
      · rw [show decide (ids[i] < 65535) = false by simp; omega, Bool.false_and]
        exact Ev.step (f := fun _ => some false) (fun k => by simp only [record_ids.l0]; rw [if_pos (by omega), if_pos (by omega), if_pos (by omega), rd_at hi, if_neg h1, if_pos h2]) (Ev.now _)
      · rw [show decide (ids[i] < 65535) = true by simp; omega, Bool.true_and]
        exact Ev.step (f := fun k => record_ids.l0 k ids[i] ids (ids.length : Int) ((i + 1 : Nat) : Int)) (fun k => by simp only [record_ids.l0]; rw [if_pos (by omega), if_pos (by omega), if_pos (by omega), rd_at hi, if_neg h1, if_neg h2, w1 (by omega)]) (ids_l0 m (i + 1) ids[i] ids (by omega) hl)
theorem check_f (k n r : Int) (ids : List Int) (hl : ids.length ≤ 1000000) : ∃ K, record_Check.f K k n r ids = some (checkR ⟨k, n, r, ids⟩) := by
  obtain ⟨K, hK⟩ := (ids_l0 ids.length 0 (-1) ids (by omega) hl).rounds
  refine ⟨K + 1, ?_⟩
  have hK2 : record_ids.f (K + 1) ids = some (risesL (-1) ids) := by
    have h := record_ids.mono ids K
    exact h _ hK
  unfold record_Check.f checkR
  simp only
  by_cases h4 : k = 4
  · rw [if_pos h4, if_pos h4, hK2]
    by_cases hn : n = 0
    · rw [if_pos hn, decide_eq_true hn]
      by_cases hr : r = 0
      · rw [if_pos hr, decide_eq_true hr]; rfl
      · rw [if_neg hr, decide_eq_false hr]; rfl
    · rw [if_neg hn, decide_eq_false hn]; rfl
  · rw [if_neg h4, if_neg h4]
    have hj : ∀ b, record_Check.j0 (K + 1) b k n r ids = some (!b && (if 1 ≤ k ∧ k ≤ 3 then decide (0 < n) && decide (0 < r) else decide (k = 5) || decide (k = 6))) := fun b => by
      simp only [record_Check.j0]
      cases b with
      | true => rw [if_pos rfl]; rfl
      | false =>
        rw [if_neg (by simp)]
        have hruns : record_runs.f k = some (decide (1 ≤ k ∧ k ≤ 3)) := by
          unfold record_runs.f
          by_cases h1 : k ≥ 1
          · rw [if_pos h1]; congr 1; by_cases h3 : k ≤ 3 <;> simp [h1, h3] <;> omega
          · rw [if_neg h1]; congr 1; simp; omega
        rw [hruns]
        simp only [Option.bind_some]
        by_cases h13 : 1 ≤ k ∧ k ≤ 3
        · rw [if_pos (by simpa using h13), if_pos h13]
          by_cases hn : n > 0
          · rw [if_pos hn, decide_eq_true hn]; rfl
          · rw [if_neg hn, decide_eq_false hn]; rfl
        · rw [if_neg (by simpa using h13), if_neg h13]
          by_cases h5 : k = 5
          · rw [if_pos h5]; simp [h5]
          · rw [if_neg h5, decide_eq_false h5]; simp only [Bool.false_or, Bool.not_false, Bool.true_and]; by_cases h6 : k = 6 <;> simp [h6]
    by_cases hz : (ids.length : Int) > 0
    · rw [if_pos hz, hj]
      have : ids.isEmpty = false := by cases ids with | nil => simp at hz | cons _ _ => rfl
      rw [this]; rfl
    · rw [if_neg hz]
      have : ids.isEmpty = true := by cases ids with | nil => rfl | cons _ _ => simp at hz
      rw [this]
      simp only [reckon_Is.f, Option.bind_some, Bool.true_and]
      cases isO n with
      | false => rw [if_neg (by simp), hj]; rfl
      | true =>
        rw [if_pos rfl, hj]
        cases isO r <;> simp
def isI64 (z : Int) : Prop := -9223372036854775808 ≤ z ∧ z ≤ 9223372036854775807
def numsOf (l : List UInt8) : List Int := l.map fun b => (b.toNat : Int)
theorem numsOf_str (l : List UInt8) : strOfNums (numsOf l) = strL l := by
  unfold strOfNums numsOf strL
  rw [List.map_map]
  congr 2
  exact (List.map_congr_left (fun b _ => by simp)).trans (List.map_id l)
theorem bytesOf_strL (l : List UInt8) : bytesOf (strL l) = numsOf l := by unfold bytesOf numsOf strL; simp
theorem strL_size (l : List UInt8) : (strL l).size = l.length := by rw [size_list]; unfold strL; simp
theorem encZ_len (n : Int) (h : isI64 n) : (encZ n).length ≤ 9 := by
  unfold encZ
  split
  · simp
  · rw [encV_len]
    exact sizeL_le 9 _ (by have : (128 : Nat) ^ 9 = 9223372036854775808 := by decide
                           have := h.2; omega) (by omega)
theorem all_l0 : ∀ (m i : Nat) (acc : List UInt8) (zs : List Int), zs.length = i + m → zs.length ≤ 1000000 → acc.length ≤ 9 * i → (∀ z ∈ zs, isI64 z) → Ev (fun k => varint_All.l0 k (numsOf acc) zs (zs.length : Int) (i : Int)) (strL (acc ++ (zs.drop i).flatMap encZ))
  | 0, i, acc, zs, h, hl, ha, hz => by
    rw [List.drop_eq_nil_of_le (by omega)]
    exact Ev.step (f := fun _ => some (strL (acc ++ [].flatMap encZ))) (fun k => by simp only [varint_All.l0]; rw [if_neg (by omega), numsOf_str, List.flatMap_nil, List.append_nil]) (Ev.now _)
  | m + 1, i, acc, zs, h, hl, ha, hz => by
    have hi : i < zs.length := by omega
    have hz1 := hz zs[i] (List.getElem_mem hi)
    have he := encZ_len zs[i] hz1
    have hP : varint_Put.f zs[i] = some (strL (encZ zs[i])) := by unfold varint_Put.f; exact if_pos hz1
    have ih := all_l0 m (i + 1) (acc ++ encZ zs[i]) zs (by omega) hl (by simp; omega) hz
    rw [List.drop_eq_getElem_cons hi, List.flatMap_cons, ← List.append_assoc]
    refine Ev.step (f := fun k => varint_All.l0 k (numsOf (acc ++ encZ zs[i])) zs (zs.length : Int) ((i + 1 : Nat) : Int)) (fun k => ?_) ih
    simp only [varint_All.l0]
    rw [if_pos (by omega), if_pos (by omega), if_pos (by omega), rd_at hi, hP]
    simp only [Option.bind_some]
    rw [strL_size, bytesOf_strL, if_pos (by unfold numsOf; simp; omega), w1 (by omega)]
    congr 1
    unfold numsOf
    simp
theorem vall_f (zs : List Int) (hl : zs.length ≤ 1000000) (hz : ∀ z ∈ zs, isI64 z) : ∃ k, varint_All.f k zs = some (strL (zs.flatMap encZ)) := by
  obtain ⟨k, hk⟩ := (all_l0 zs.length 0 [] zs (by omega) hl (by simp) hz).rounds
  exact ⟨k, hk⟩
end Go.Proofs.Ytdapjfnpnmejnaa
