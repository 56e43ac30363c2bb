/- What a set's lists are, and rows of numbers held one against the other; no condition but the sizes. -/
import Derived.Test.YtkbdfnmeomkpjaaGreatTriB
namespace Go.Proofs.YtkbdfnmeomkpjaaGreat
open Go.RowKit
set_option linter.unusedVariables false
set_option linter.unusedSimpArgs false
set_option maxRecDepth 100000

theorem lst_mem {lp : List ByteArray} {y : List UInt8} (h : y ∈ bl lp) : ∃ s ∈ lp, s.data.toList = y := by
  unfold bl at h
  obtain ⟨s, hs, e⟩ := List.mem_map.1 h
  exact ⟨s, hs, e⟩
theorem lst_ord {l lp : List ByteArray} (h : (OkL l ∧ lp.Perm l ∧ InOrd lp) ∨ lp = []) : (bl lp).Pairwise (· < ·) ∧ ∀ y ∈ bl lp, y ≠ [] := by
  rcases h with ⟨⟨_, h2, h3⟩, hp, ho⟩ | rfl
  · constructor
    · have hnd : lp.Nodup := hp.nodup_iff.2 h3
      unfold bl
      rw [List.pairwise_map]
      refine (List.Pairwise.and ho hnd).imp fun {a b} h => ?_
      rcases lt_tri a.data.toList b.data.toList with h1 | h1 | h1
      · exact h1
      · exfalso
        refine h.2 ?_
        have : a.data = b.data := Array.toList_inj.1 h1
        cases a; cases b; simp_all
      · exact absurd h1 h.1
    · intro y hy e
      obtain ⟨s, hs, e2⟩ := lst_mem hy
      refine h2 s (hp.mem_iff.1 hs) ?_
      rw [Lib.size_eq, e2, e]
      rfl
  · exact ⟨List.Pairwise.nil, fun y hy => by simp [bl] at hy⟩
theorem lst_few {l lp : List ByteArray} {N M : Nat} (h : lp.Perm l ∨ lp = []) (hN : l.length ≤ N) (hM : ∀ s ∈ l, s.size ≤ M) : lp.length ≤ N ∧ ∀ y ∈ bl lp, y.length ≤ M := by
  rcases h with h | rfl
  · refine ⟨by rw [h.length_eq]; exact hN, fun y hy => ?_⟩
    obtain ⟨s, hs, e⟩ := lst_mem hy
    rw [← e, ← Lib.size_eq]
    exact hM s (h.mem_iff.1 hs)
  · exact ⟨Nat.zero_le _, fun y hy => by simp [bl] at hy⟩
theorem lst_lists {l lp lq : List ByteArray} {er : Int} (h : (OkL l ∧ er = 0 ∧ lp.Perm l ∧ InOrd lp) ∨ (¬ OkL l ∧ lp = [] ∧ er ≠ 0)) (h' : (OkL l ∧ lq.Perm l ∧ InOrd lq) ∨ (¬ OkL l ∧ lq = [])) : bl lq = bl lp := by
  rcases h with ⟨a1, _, a2, a3⟩ | ⟨a1, rfl, _⟩
  · rcases h' with ⟨_, b2, b3⟩ | ⟨b1, _⟩
    · have o1 := (lst_ord (l := l) (lp := lp) (.inl ⟨a1, a2, a3⟩)).1
      have o2 := (lst_ord (l := l) (lp := lq) (.inl ⟨a1, b2, b3⟩)).1
      have hp : (bl lq).Perm (bl lp) := (b2.trans a2.symm).map _
      exact hp.eq_of_pairwise (le := fun a b => a < b) (fun a b _ _ h1 h2 => absurd h2 (lt_as h1)) o2 o1
    · exact absurd a1 b1
  · rcases h' with ⟨b1, _⟩ | ⟨_, rfl⟩
    · exact absurd b1 a1
    · rfl
theorem lst_new (w : World) (e : TypeId) (us : List Value) (n : Nat) (hn : us.length = n) : Sees (w.alloc (.cells us.toArray e)) (w.alloc (.cells us.toArray e)).heap.size 1 (some ⟨w.heap.size, 0, none⟩) n us := by
  refine ⟨by omega, fun _ => ⟨_, rfl, ?_, fun j u hu => ?_⟩⟩
  · show w.heap.size < (w.heap.push _).size
    rw [Array.size_push]; exact Nat.lt_succ_self _
  · rw [show (⟨w.heap.size, 0, none⟩ : Addr).add j = ⟨w.heap.size, j, none⟩ from by unfold Addr.add; split <;> simp_all, (Blk.new w e us.toArray).cell]
    simpa using hu
theorem lst_dn {w w' : World} (h : ∃ k, w' = w.drewN k) : Pure' w w' := by
  obtain ⟨k, rfl⟩ := h
  exact (Keeps.refl _ w).drewN k
theorem lst_ints {w : World} {B n k : Nat} {A : Option Addr} {zs : List Int} (h : Sees w B 1 A n (zs.map (Value.int .i64))) (hk : k < n) : ∃ (ad : Addr) (z : Int), A = some ad ∧ zs[k]? = some z ∧ w.cell? (ad.add k) = some (.int .i64 z) := by
  obtain ⟨ad, u, hA, hu, hc⟩ := h.at_ hk
  have hl : k < zs.length := by have := h.1; simp at this; omega
  refine ⟨ad, zs[k], hA, List.getElem?_eq_getElem hl, ?_⟩
  rw [List.getElem?_map, List.getElem?_eq_getElem hl] at hu
  simp only [Option.map_some, Option.some.injEq] at hu
  rw [hc, hu]
theorem take_eq {α : Type} {zs ws : List α} {k : Nat} {z : α} (h : zs.take k = ws.take k) (h1 : zs[k]? = some z) (h2 : ws[k]? = some z) : zs.take (k + 1) = ws.take (k + 1) := by
  rw [List.take_add_one, List.take_add_one, h, h1, h2]
/-- Are two rows of numbers alike? -/
theorem lst_same (A1 A2 : Option Addr) (n1 n2 c1 c2 B1 B2 : Nat) (zs ws : List Int) (w : World) (h1 : Sees w B1 1 A1 n1 (zs.map (Value.int .i64))) (h2 : Sees w B2 1 A2 n2 (ws.map (Value.int .i64))) (hn : n1 ≤ 1000000000) (hn2 : n2 ≤ 1000000000) :
    Calls Tryz.prog 22 #[.slice A1 n1 c1, .slice A2 n2 c2] w fun e w' => e = .returned (.bool (decide (zs = ws))) ∧ ∃ k, w' = w.drewN k := by
  have HL1 := Lib.hid (show zs.length = n1 by have := h1.1; simpa using this)
  have HL2 := Lib.hid (show ws.length = n2 by have := h2.1; simpa using this)
  have HS1 := Lib.hid h1
  have HS2 := Lib.hid h2
  clear h1 h2
  obtain ⟨r, hr⟩ : ∃ r, decide (zs = ws) = r := ⟨_, rfl⟩
  rw [hr]
  have HR := Lib.hid hr
  clear hr
  by_cases hnn : n1 = n2
  · subst hnn
    go_enter Tryz.func22, Tryz.ntmps22
    go_wp2
    go_loopw [5] (fun v5 wr => ∃ k : Nat, k ≤ n1 ∧ v5 = .int .i64 k ∧ RowKit.Hid (zs.take k = ws.take k) ∧ ∃ q, wr = w.drewN q) (fun v5 _ => n1 - (intOf v5).toNat)
    case atStart => exact ⟨0, Nat.zero_le _, rfl, Lib.hid (by simp), 0, rfl⟩
    case round =>
      obtain ⟨k, hk, rfl, HT, q, rfl⟩ := hrel
      by_cases hlt : k < n1
      · obtain ⟨ad1, z, rfl, hz1, hc1⟩ := lst_ints HS1.out hlt
        obtain ⟨ad2, z2, rfl, hz2, hc2⟩ := lst_ints HS2.out hlt
        by_cases he : z = z2
        · subst he
          have HT2 := Lib.hid (take_eq HT.out hz1 hz2)
          clear hz1 hz2
          go_wp2
          go_quiet (fail)
          go_wp2
          go_roundw
          case rel => exact ⟨k + 1, by omega, by go_num, HT2, _, rfl⟩
          case measure => simp [intOf]; omega
        · have HF := Lib.hid (show false = r by
            rw [← HR.out]
            refine (decide_eq_false fun e => he ?_).symm
            subst e
            rw [hz1] at hz2
            injection hz2)
          have hne : (z != z2) = true := by simpa using he
          clear hz1 hz2 he
          go_wp2
          go_quiet (fail)
          go_wp2
          go_ret
          exact ⟨congrArg (fun b => Ending.returned (Value.bool b)) HF.out, _, World.drewN_drewN _ _ _⟩
      · obtain rfl : k = n1 := by omega
        have HF := Lib.hid (show true = r by
          rw [← HR.out]
          have := HT.out
          rw [List.take_of_length_le (by rw [HL1.out]; exact Nat.le_refl _), List.take_of_length_le (by rw [HL2.out]; exact Nat.le_refl _)] at this
          exact (decide_eq_true this).symm)
        go_wp2
        go_ret
        exact ⟨congrArg (fun b => Ending.returned (Value.bool b)) HF.out, _, rfl⟩
  · have HF := Lib.hid (show false = r by
      rw [← HR.out]
      refine (decide_eq_false fun e => hnn ?_).symm
      rw [← HL1.out, ← HL2.out, e])
    go_enter Tryz.func22, Tryz.ntmps22
    go_wp2
    go_ret
    exact ⟨congrArg (fun b => Ending.returned (Value.bool b)) HF.out, 0, rfl⟩
end Go.Proofs.YtkbdfnmeomkpjaaGreat
