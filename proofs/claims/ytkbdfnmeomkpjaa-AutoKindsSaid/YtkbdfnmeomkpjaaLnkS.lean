/- A text found in a trie; what a set's list is; no condition but the sizes. -/
import Derived.Test.YtkbdfnmeomkpjaaLnkR
namespace Go.Proofs.Ytkbdfnmeomkpjaa
open Go.RowKit
set_option linter.unusedVariables false
set_option linter.unusedSimpArgs false
set_option maxRecDepth 100000

theorem bl_mem {lp : List ByteArray} {y : List UInt8} (h : y ∈ bl lp) : ∃ s ∈ lp, s.data.toList = y := by
  unfold bl at h
  obtain ⟨s, hs, e⟩ := List.mem_map.1 h
  exact ⟨s, hs, e⟩
theorem new_ord {l lp : List ByteArray} (h : (OkL l ∧ lp.Perm l ∧ InOrd lp) ∨ lp = []) : (bl lp).Pairwise (· < ·) ∧ ∀ y ∈ bl lp, y ≠ [] := by
  rcases h with ⟨⟨_, h2, h3⟩, hp, ho⟩ | rfl
  · constructor
    · have hnd : lp.Nodup := hp.nodup_iff.2 h3
      unfold bl
      rw [List.pairwise_map]
      refine (List.Pairwise.and ho hnd).imp fun {a b} h => ?_
      rcases lt_tri a.data.toList b.data.toList with h1 | h1 | h1
      · exact h1
      · exfalso
        refine h.2 ?_
        have : a.data = b.data := Array.toList_inj.1 h1
        cases a; cases b; simp_all
      · exact absurd h1 h.1
    · intro y hy e
      obtain ⟨s, hs, e2⟩ := bl_mem hy
      refine h2 s (hp.mem_iff.1 hs) ?_
      rw [Lib.size_eq, e2, e]
      rfl
  · exact ⟨List.Pairwise.nil, fun y hy => by simp [bl] at hy⟩
theorem new_few {l lp : List ByteArray} {N M : Nat} (h : lp.Perm l ∨ lp = []) (hN : l.length ≤ N) (hM : ∀ s ∈ l, s.size ≤ M) : lp.length ≤ N ∧ ∀ y ∈ bl lp, y.length ≤ M := by
  rcases h with h | rfl
  · refine ⟨by rw [h.length_eq]; exact hN, fun y hy => ?_⟩
    obtain ⟨s, hs, e⟩ := bl_mem hy
    rw [← e, ← Lib.size_eq]
    exact hM s (h.mem_iff.1 hs)
  · exact ⟨Nat.zero_le _, fun y hy => by simp [bl] at hy⟩

set_option maxHeartbeats 2000000 in
theorem find_ (tg b cap : Nat) (l : List (List UInt8)) (S : List TSt) (p : List UInt8) (w : World) (h : TI w tg b cap l S) (hp : p ∈ statesL l) (hpl : p.length ≤ 1000) :
    Calls Try.prog 79 #[.pointer (some ⟨tg, 0, none⟩), .string ⟨p.toArray⟩] w fun e w' => (∃ t : Nat, e = .returned (.tuple #[.int .i64 (t : Int), .bool true]) ∧ (statesL l)[t]? = some p) ∧ ∃ k, w' = w.drewN k := by
  have H := Lib.hid h
  have HP := Lib.hid hp
  have HST := Lib.hid h.sts
  have hbs : (⟨p.toArray⟩ : ByteArray).size = p.length := Lib.size_eq _
  obtain ⟨n, hn⟩ : ∃ n, p.length = n := ⟨_, rfl⟩
  have HN := Lib.hid hn
  rw [hn] at hpl hbs
  clear h hp hn
  go_enter Try.func79, Try.ntmps79
  go_wp2
  go_loopg [6, 7, 8, 9, 12] n (fun gh v6 v7 v8 v9 v12 wr => ∃ (i t : Nat), i + gh = n ∧ v12 = .int .i64 (i : Int) ∧ v6 = .int .i64 (t : Int) ∧ RowKit.Hid ((statesL l)[t]? = some (p.take i)) ∧ RowKit.Hid (∃ k, wr = w.drewN k))
  case atStart => exact ⟨0, 0, by omega, rfl, rfl, Lib.hid (by rw [List.take_zero]; exact HST.out.zero), Lib.hid ⟨0, rfl⟩⟩
  case round =>
    obtain ⟨i, t, hig, rfl, rfl, HT, HW⟩ := hrel
    have HTI := Lib.hid (H.out.pure (show Pure' w wr by obtain ⟨k, e⟩ := HW.out; rw [e]; exact (Keeps.refl _ w).drewN k))
    cases gk with
    | zero =>
      obtain rfl : i = n := by omega
      have htl : t < S.length := (HTI.out.st HT.out).choose_spec.2
      have HI := Lib.hid (tis_ _ S (t : Int) wr HTI.out.any)
      rw [isB_in htl] at HI
      have HT2 := Lib.hid (show (statesL l)[t]? = some p by have := HT.out; rwa [List.take_of_length_le (by rw [HN.out]; exact Nat.le_refl _)] at this)
      go_wp2_with fail
      refine HI.out.mono ?_
      rintro e w2 ⟨rfl, rfl⟩
      go_wp2
      go_ret2
      exact ⟨⟨t, rfl, HT2.out⟩, HW.out⟩
    | succ g3 =>
      have hii : (i : Int) < (n : Int) := by omega
      obtain ⟨c, hci, hcc, hga⟩ := at_c (show i < p.length by rw [HN.out]; omega)
      have htk : p.take (i + 1) = p.take i ++ [c] := by
        rw [List.take_add_one, hcc]; rfl
      have HTK := Lib.hid htk
      have HNX := Lib.hid (next_ tg b cap l S t (p.take i) c wr HTI.out HT.out)
      clear htk hcc
      go_wp2_with fail
      refine HNX.out.mono ?_
      rintro e w2 ⟨hcase, k2, rfl⟩
      have HW2 := Lib.hid (show ∃ k, wr.drewN k2 = w.drewN k by obtain ⟨k, e⟩ := HW.out; exact ⟨k + k2, by rw [e, drewN_add]⟩)
      rcases hcase with ⟨m, rfl, hm⟩ | ⟨rfl, hno⟩
      · have HM := Lib.hid (show (statesL l)[m]? = some (p.take (i + 1)) by rw [HTK.out]; exact hm)
        clear hm
        go_wp2
        go_roundg g3
        case measure => omega
        case rel => exact ⟨i + 1, m, by omega, by go_num, rfl, HM, HW2⟩
      · refine absurd ?_ hno
        rw [← HTK.out]
        have := HP.out
        rw [← List.take_append_drop (i + 1) p] at this
        exact HST.out.pre this

end Go.Proofs.Ytkbdfnmeomkpjaa
