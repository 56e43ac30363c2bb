/- The shortest pattern by the reference; however a stream is parted, plainly; no condition but the sizes. -/
import Derived.Test.YtkbdfnmeomkpjaaGreatWlkD
import Derived.Laws.AppendOwnNone
namespace Go.Proofs.YtkbdfnmeomkpjaaGreat
open Go.RowKit
set_option linter.unusedVariables false
set_option linter.unusedSimpArgs false
set_option maxRecDepth 100000

def LeastPost (l : List (List UInt8)) (e : Ending) : Prop := ∃ n : Nat, e = .returned (.int .i64 (n : Int)) ∧ (∀ x ∈ l, n ≤ x.length) ∧ n ≤ 20
set_option maxHeartbeats 2000000 in
theorem rleast_ (A : Option Addr) (m c B : Nat) (l : List (List UInt8)) (w : World) (h : Sees w B 1 A m (strVs l)) (hm : m ≤ 1000) (hll : ∀ x ∈ l, x.length ≤ 20) :
    Calls Tryz.prog 38 #[.slice A m c] w fun e w' => LeastPost l e ∧ w' = w := by
  have HL := Lib.hid (show l.length = m by have := h.1; rw [strVs_len] at this; omega)
  have HS := Lib.hid h
  have HLL := Lib.hid hll
  clear h hll
  go_enter Tryz.func38, Tryz.ntmps38
  go_wp2
  go_loopg [3, 4] m (fun gh v3 v4 wr => (∃ i n : Nat, i + gh = m ∧ v4 = .int .i64 (i : Int) ∧ v3 = .int .i64 (n : Int) ∧ n ≤ 20 ∧ RowKit.Hid (∀ j x, j < i → l[j]? = some x → n ≤ x.length)) ∧ wr = w)
  case atStart => exact ⟨⟨0, 0, by omega, rfl, rfl, Nat.zero_le _, Lib.hid (fun j x h => by omega)⟩, rfl⟩
  case round =>
    obtain ⟨⟨i, n, hig, rfl, rfl, hn, H⟩, rfl⟩ := hrel
    cases gk with
    | zero =>
      obtain rfl : i = m := by omega
      go_wp2
      go_ret
      exact ⟨⟨n, rfl, fun x hx => by
        obtain ⟨j, hj⟩ := List.mem_iff_getElem?.1 hx
        exact H.out j x (by have := (List.getElem?_eq_some_iff.1 hj).1; rw [HL.out] at this; exact this) hj, hn⟩, rfl⟩
    | succ g3 =>
      have hii : (i : Int) < (m : Int) := by omega
      obtain ⟨ad, x, rfl, hx, xc⟩ := word_at HS.out (show i < m by omega)
      have hbx : (⟨x.toArray⟩ : ByteArray).size = x.length := Lib.size_eq _
      have hxl := HLL.out x (List.mem_of_getElem? hx)
      have HX := Lib.hid hx
      obtain ⟨xn, hxn⟩ : ∃ q, x.length = q := ⟨_, rfl⟩
      have HXN := Lib.hid hxn
      rw [hxn] at hbx hxl
      clear hx hxn
      by_cases h0 : i = 0
      · have h0i : ((i : Int) == 0) = true := by rw [beq_iff_eq]; omega
        have H1 := Lib.hid (show ∀ j y, j < i + 1 → l[j]? = some y → xn ≤ y.length from fun j y hj hy => by
          obtain rfl : j = i := by omega
          rw [HX.out] at hy
          cases hy
          rw [HXN.out]; exact Nat.le_refl _)
        clear h0
        go_wp2
        go_roundg g3
        case measure => omega
        case rel => exact ⟨⟨i + 1, xn, by omega, by go_num, rfl, hxl, H1⟩, rfl⟩
      · have h0i : ((i : Int) == 0) = false := by rw [beq_eq_false_iff_ne]; omega
        clear h0
        by_cases hlt : xn < n
        · have hlti : (xn : Int) < (n : Int) := by omega
          have H1 := Lib.hid (show ∀ j y, j < i + 1 → l[j]? = some y → xn ≤ y.length from fun j y hj hy => by
            rcases Nat.lt_or_ge j i with q | q
            · have := H.out j y q hy; omega
            · obtain rfl : j = i := by omega
              rw [HX.out] at hy
              cases hy
              rw [HXN.out]; exact Nat.le_refl _)
          go_wp2
          go_roundg g3
          case measure => omega
          case rel => exact ⟨⟨i + 1, xn, by omega, by go_num, rfl, hxl, H1⟩, rfl⟩
        · have hlti : ¬ (xn : Int) < (n : Int) := by omega
          have H1 := Lib.hid (show ∀ j y, j < i + 1 → l[j]? = some y → n ≤ y.length from fun j y hj hy => by
            rcases Nat.lt_or_ge j i with q | q
            · exact H.out j y q hy
            · obtain rfl : j = i := by omega
              rw [HX.out] at hy
              cases hy
              rw [HXN.out]; omega)
          go_wp2
          go_roundg g3
          case measure => omega
          case rel => exact ⟨⟨i + 1, n, by omega, by go_num, rfl, hn, H1⟩, rfl⟩

/-! ### Plainly -/
theorem prog_app (l : List (List UInt8)) (s a b : List UInt8) : progL l s (a ++ b) = progL l s a ++ progL l (s ++ a) b := by
  unfold progL
  rw [List.length_append, List.range_add, List.flatMap_append]
  congr 1
  · rw [List.flatMap_def, List.flatMap_def]
    congr 1
    refine List.map_congr_left fun i hi => ?_
    have hi := List.mem_range.1 hi
    rw [List.take_append_of_le_length (by omega)]
  · rw [List.flatMap_map, List.flatMap_def, List.flatMap_def]
    congr 1
    refine List.map_congr_left fun i hi => ?_
    rw [show a.length + i + 1 = a.length + (i + 1) by omega, List.take_append, List.take_of_length_le (by omega)]
    rw [List.length_append, List.append_assoc, show s.length + (a.length + i) + 1 = s.length + a.length + i + 1 by omega]
    simp
theorem all_is {l : List (List UInt8)} (hne : ∀ x ∈ l, x ≠ []) (s : List UInt8) : allL l s = progL l [] s := by
  have h := feed_is l [] s
  rw [List.nil_append] at h
  rw [← h]
  unfold feedL
  rw [List.filter_eq_self.2]
  intro x hx
  unfold allL allE at hx
  obtain ⟨e, he, hx⟩ := List.mem_flatMap.1 hx
  unfold rowK at hx
  obtain ⟨i, hi0, rfl⟩ := List.mem_map.1 hx
  obtain ⟨hi1, hst⟩ := List.mem_filter.1 hi0
  have hi := List.mem_range.1 hi1
  have he := List.mem_range.1 he
  rcases Nat.eq_zero_or_pos e with h0 | h0
  · subst h0
    have := (stands_iff (Nat.zero_le _)).1 hst
    rw [List.take_zero] at this
    have h2 := List.eq_nil_of_suffix_nil this
    exact absurd h2 (hne _ (by rw [List.getD_eq_getElem?_getD, List.getElem?_eq_getElem hi]; exact List.getElem_mem _))
  · simp; omega
/-- Of so few bytes more none brings a hit. -/
theorem clear_none {l : List (List UInt8)} (hs : Sts l (statesL l)) {n : Nat} (hn : ∀ x ∈ l, n ≤ x.length) (s t : List UInt8) (ht : t.length + openV l s + 1 ≤ n ∨ t = []) : progL l s t = [] := by
  rcases ht with ht | rfl
  case inr => rfl
  unfold progL
  rw [List.flatMap_eq_nil_iff]
  intro i hi
  have hi := List.mem_range.1 hi
  rw [List.map_eq_nil_iff]
  unfold hitsI
  rw [List.map_eq_nil_iff, List.eq_nil_iff_forall_not_mem]
  intro k hk
  obtain ⟨x, hx, hsuf⟩ := hitsL_mem.1 hk
  have hxn := hn x (List.mem_of_getElem? hx)
  have htl : (t.take (i + 1)).length = i + 1 := by rw [List.length_take]; omega
  -- what of x lies in s
  obtain ⟨r, hr⟩ := hsuf
  have hxl : r.length + x.length = s.length + (i + 1) := by
    have := congrArg List.length hr
    rw [List.length_append, List.length_append, htl] at this
    exact this
  have hrs : r.length ≤ s.length := by omega
  have hp : x.take (x.length - (i + 1)) = s.drop r.length := by
    have h1 : r ++ x = s ++ t.take (i + 1) := hr
    have h2 : x = (s ++ t.take (i + 1)).drop r.length := by rw [← h1]; simp
    rw [h2, List.drop_append_of_le_length hrs, List.length_append, htl, Nat.add_sub_cancel, List.take_left]
  have hst : s.drop r.length ∈ statesL l := (hs.mem _).2 (.inr ⟨x, List.mem_of_getElem? hx, by rw [← hp]; exact List.take_prefix _ _⟩)
  obtain ⟨q, hq, _, hm⟩ := lsuf_spec hs s
  have h3 := (hm _ (List.drop_suffix _ _) hst).length_le
  have h4 : openV l s = q.length := by unfold openV; rw [List.getD_eq_getElem?_getD, hq]; rfl
  rw [List.length_drop] at h3
  omega

end Go.Proofs.YtkbdfnmeomkpjaaGreat
