/- A set's list, and how a trie's states lie in memory; no condition but the sizes. -/
import Derived.Test.YtkbdfnmeomkpjaaGreatPatF
import Derived.Test.YtkbdfnmeomkpjaaGreatLnkN
import Derived.Test.YtkbdfnmeomkpjaaGreatHeld
import Derived.ArgAppend
namespace Go.Proofs.YtkbdfnmeomkpjaaGreat
open Go.RowKit
set_option linter.unusedVariables false
set_option linter.unusedSimpArgs false
set_option maxRecDepth 100000

/-- The walk stands at this operation. -/
theorem at_op {P : Program} {ops : Array Oper} {rest : List Oper} {a : Act} {w : World} {Q : Exit → Act → World → Prop} (o : Oper) (h : wpList P ops Q (o :: rest) a w) : wpList P ops Q (o :: rest) a w := h
/-- The walk of a region that draws stands at this operation. -/
theorem at_step {P : Program} {ops : Array Oper} {Q : Exit → Act → World → Prop} {K : Act → World → Prop} {E : Prop} {a : Act} {w : World} (o : Oper) (h : if Region.wanted o (yielded ops a.tmps) = true then Oper.wp P o a w K Q else E) : if Region.wanted o (yielded ops a.tmps) = true then Oper.wp P o a w K Q else E := h
theorem set_same {α : Type} : ∀ (S : List α) (k : Nat) (s : α), S[k]? = some s → S.set k s = S
  | [], k, s, h => by simp at h
  | a :: S, 0, s, h => by simp at h; subst h; rfl
  | a :: S, k + 1, s, h => by rw [List.set_cons_succ, set_same S k s (by simpa using h)]
theorem keepc {w w' : World} {a : Addr} {v : Value} (h : w.cell? a = some v) (hk : Pure' w w') : w'.cell? a = some v := by
  have hb : a.block < w.heap.size := World.block_lt_of_cell? w a h
  exact (World.cell?_of_block (hk.block a.block hb fun hf => hf)).trans h
theorem Blk.newAt {w : World} {t : TypeId} {cs : Array Value} {g : Nat} (h : g = w.heap.size) : Blk (w.alloc (.cells cs t)) g t cs := by subst h; exact Blk.new w t cs

set_option maxHeartbeats 1000000 in
theorem list_ (x : Option Addr) (lp : List ByteArray) (w : World) (h : SetP w x lp) (hl : lp.length ≤ 100000) :
    Calls Tryz.prog 156 #[.pointer x] w fun e w' => (∃ A c, e = .returned (.slice A lp.length c) ∧ Sees w' w'.heap.size 1 A lp.length (lp.map Value.string)) ∧ Pure' w w' := by
  rcases h with ⟨rfl, rfl⟩ | ⟨g, A, c, t, rfl, hne, hb, hs⟩
  · go_enter Tryz.func156, Tryz.ntmps156
    go_wp2
    go_ret
    exact ⟨⟨none, 0, rfl, Sees.nil _ _ _ _⟩, Keeps.refl _ _⟩
  · obtain ⟨i0, hi, hz0, hz1, hz2⟩ := info_parts strInfo2
    have h0 : 0 < lp.length := List.length_pos_iff.2 hne
    obtain ⟨ad, rfl, hbl, hcell⟩ := hs.2 h0
    obtain ⟨b, off, sp⟩ := ad
    obtain rfl : sp = none := by
      have h0 := hcell 0 _ (List.getElem?_eq_getElem (by simp; omega))
      have := World.cell?_spot h0
      simpa [Addr.add] using this
    have HCL := Lib.hid (Tryz.slices_Clone_f80 i0 (.string ByteArray.empty) 1 16 hi hz0 hz1 hz2 rfl (by decide) (fun w => Tryz.sizeOf9 w) b off lp.length c (lp.map Value.string) w (by simp) (by unfold maxLen; omega) (by omega) (fun j u hu => by
      have := hcell j u hu
      rwa [show (⟨b, off, none⟩ : Addr).add j = ⟨b, off + j, none⟩ from by unfold Addr.add; split <;> simp_all] at this) (fun u hu => by obtain ⟨x, _, rfl⟩ := List.mem_map.1 hu; rfl))
    have c0 := hb.cell 0
    generalize lp.length = n at *
    clear hb hs hcell
    go_enter Tryz.func156, Tryz.ntmps156
    go_wp2_with fail
    refine HCL.out.mono ?_
    rintro e w1 ⟨v', rfl, hrow, hnn, hbel⟩
    have hrow' : Row w1 9 1 v' n (lp.map Value.string) := by
      refine ⟨hrow.1, ?_⟩
      rcases hrow.2 with h2 | ⟨g, cap, cur, h1, _, r⟩
      · exact .inl h2
      · exact .inr ⟨g, cap, cur, h1, Nat.zero_le _, r⟩
    obtain ⟨A', c', rfl, _⟩ := hrow'.form
    have HR := Lib.hid hrow'.sees
    have HK := Lib.hid (Keeps.of_below hbel)
    clear hrow hrow' hnn hbel
    go_wp2
    go_ret
    exact ⟨⟨_, _, rfl, HR.out⟩, HK.out⟩

/-! ### The states of a trie -/
def tsC (s : TSt) : List Value := [.int .i64 s.above, .int .u8 s.by_.toNat, .int .i64 s.depth, .int .i64 s.id, .int .i64 s.first, .int .i64 s.many]
def tsVs (S : List TSt) : List Value := S.flatMap tsC
theorem tsVs_len (S : List TSt) : (tsVs S).length = S.length * 6 := by
  induction S with
  | nil => rfl
  | cons s S ih => rw [show tsVs (s :: S) = tsC s ++ tsVs S from rfl, List.length_append, ih]; simp [tsC]; omega
theorem tsVs_at : ∀ (S : List TSt) (k r : Nat) (s : TSt), S[k]? = some s → r < 6 → (tsVs S)[k * 6 + r]? = (tsC s)[r]?
  | [], k, r, s, h, _ => by simp at h
  | a :: S, 0, r, s, h, hr => by
    simp at h; subst h
    rw [show tsVs (a :: S) = tsC a ++ tsVs S from rfl, Nat.zero_mul, Nat.zero_add, List.getElem?_append_left (by simpa [tsC] using hr)]
  | a :: S, k + 1, r, s, h, hr => by
    have ih := tsVs_at S k r s (by simpa using h) hr
    rw [show tsVs (a :: S) = tsC a ++ tsVs S from rfl, show (k + 1) * 6 + r = 6 + (k * 6 + r) by omega, List.getElem?_append_right (by simp [tsC])]
    simpa [tsC] using ih
theorem tsVs_set : ∀ (S : List TSt) (k r : Nat) (s s' : TSt) (u : Value), S[k]? = some s → r < 6 → tsC s' = (tsC s).set r u → (tsVs S).set (k * 6 + r) u = tsVs (S.set k s')
  | [], k, r, s, s', u, h, _, _ => by simp at h
  | a :: S, 0, r, s, s', u, h, hr, e => by
    simp at h; subst h
    rw [List.set_cons_zero, show tsVs (a :: S) = tsC a ++ tsVs S from rfl, show tsVs (s' :: S) = tsC s' ++ tsVs S from rfl, e, Nat.zero_mul, Nat.zero_add, List.set_append_left _ _ (by simpa [tsC] using hr)]
  | a :: S, k + 1, r, s, s', u, h, hr, e => by
    have ih := tsVs_set S k r s s' u (by simpa using h) hr e
    rw [List.set_cons_succ, show tsVs (a :: S) = tsC a ++ tsVs S from rfl, show tsVs (a :: S.set k s') = tsC a ++ tsVs (S.set k s') from rfl, ← ih, show (k + 1) * 6 + r = 6 + (k * 6 + r) by omega, List.set_append_right _ _ (by simp [tsC])]
    simp [tsC]
theorem tsVs_app (S T : List TSt) : tsVs (S ++ T) = tsVs S ++ tsVs T := by simp [tsVs]
theorem tsC_one (s : TSt) : ∀ u ∈ tsC s, u.oneCell' = true := by
  intro u hu
  simp [tsC] at hu
  rcases hu with rfl | rfl | rfl | rfl | rfl | rfl <;> rfl
theorem Row.setK {w : World} {e : TypeId} {size n b cap i : Nat} {xs : List Value} (h : Row w e size (.slice (some ⟨b, 0, none⟩) n cap) n xs) (u : Value) :
    Row (w.setCell ⟨b, i, none⟩ u) e size (.slice (some ⟨b, 0, none⟩) n cap) n (xs.set i u) := by
  obtain ⟨h1, h2⟩ := h
  refine ⟨by simpa using h1, ?_⟩
  rcases h2 with ⟨h2, _⟩ | ⟨g, cap', cur, hv, hg, hh, hnc, hm, hz, ht⟩
  · cases h2
  · injection hv with h3 _ h5
    injection h3 with h3
    injection h3 with h3
    subst h3; subst h5
    refine .inr ⟨b, cap, cur.setIfInBounds i u, rfl, hg, Blk.set_ hh i u, hnc, hm, by simpa using hz, ?_⟩
    rw [← ht]
    simp [Array.toList_setIfInBounds, List.take_set]

/-- A trie in memory. -/
structure TrA (w : World) (g b cap : Nat) (S : List TSt) : Prop where
  box : Blk w g 186 #[.slice (some ⟨b, 0, none⟩) S.length cap]
  row : Row w 183 6 (.slice (some ⟨b, 0, none⟩) S.length cap) S.length (tsVs S)
theorem TrA.ne {w : World} {g b cap : Nat} {S : List TSt} (h : TrA w g b cap S) : b ≠ g := fun e => h.row.blk_ne h.box (by decide) (by rw [e]; rfl)
theorem TrA.cell {w : World} {g b cap : Nat} {S : List TSt} (h : TrA w g b cap S) {k : Nat} {s : TSt} (hk : S[k]? = some s) (r : Nat) (hr : r < 6) : w.cell? ⟨b, k * 6 + r, none⟩ = (tsC s)[r]? := by
  have h1 := tsVs_at S k r s hk hr
  have h2 : r < (tsC s).length := by simpa [tsC] using hr
  rw [List.getElem?_eq_getElem h2] at h1 ⊢
  exact h.row.cell h1
theorem TrA.keep {w w' : World} {K : Nat → Prop} {g b cap : Nat} {S : List TSt} (h : TrA w g b cap S) (hk : Keeps K w w') (hg : ¬ K g) (hb : ¬ K b) : TrA w' g b cap S :=
  ⟨h.box.keep hk hg, h.row.keep hk (fun k e => by simp [Value.ownBlock] at e; subst e; exact hb)⟩
theorem TrA.drew {w : World} {g b cap : Nat} {S : List TSt} (h : TrA w g b cap S) : TrA w.drew g b cap S := ⟨h.box.drew, h.row.drew⟩
theorem TrA.alloc {w : World} {g b cap : Nat} {S : List TSt} (h : TrA w g b cap S) (o : Obj) : TrA (w.alloc o) g b cap S := ⟨h.box.alloc o, h.row.alloc o⟩
/-- A cell of a state is turned. -/
theorem TrA.set {w : World} {g b cap : Nat} {S : List TSt} (h : TrA w g b cap S) {k r : Nat} {s s' : TSt} {u : Value} (hk : S[k]? = some s) (hr : r < 6) (e : tsC s' = (tsC s).set r u) : TrA (w.setCell ⟨b, k * 6 + r, none⟩ u) g b cap (S.set k s') := by
  refine ⟨?_, ?_⟩
  · rw [List.length_set]; exact h.box.off (fun e => h.ne e.symm)
  · rw [List.length_set, ← tsVs_set S k r s s' u hk hr e]; exact h.row.setK u
/-- A state more. -/
theorem TrA.more {w W : World} {g b cap b' cap' : Nat} {S : List TSt} {s : TSt} {t : TypeId} {u : Array Value} (h : TrA w g b cap S) (hg : (w.alloc (.cells u t)).grownBy W (some b)) (hr : Row W 183 6 (.slice (some ⟨b', 0, none⟩) (S.length + 1) cap') (S.length + 1) (tsVs S ++ tsC s)) :
    TrA (W.setCell ⟨g, 0, none⟩ (.slice (some ⟨b', 0, none⟩) (S.length + 1) cap')) g b' cap' (S ++ [s]) := by
  have hb : Blk W g 186 #[.slice (some ⟨b, 0, none⟩) S.length cap] := (h.box.alloc _).grown hg (fun e => h.ne (by injection e))
  have hne : (Value.slice (some ⟨b', 0, none⟩) (S.length + 1) cap').ownBlock ≠ some g := hr.blk_ne hb (by decide)
  refine ⟨?_, ?_⟩
  · have := hb.set_ 0 (.slice (some ⟨b', 0, none⟩) (S.length + 1) cap')
    rw [List.length_append]
    exact this.to rfl
  · rw [List.length_append, tsVs_app, show tsVs [s] = tsC s by simp [tsVs]]
    exact hr.off hne

/-! ### Jobs that wait -/
def jbC (j : Nat × Nat × Nat) : List Value := [.int .i64 j.1, .int .i64 j.2.1, .int .i64 j.2.2]
def jbVs (J : List (Nat × Nat × Nat)) : List Value := J.flatMap jbC
theorem jbVs_len (J : List (Nat × Nat × Nat)) : (jbVs J).length = J.length * 3 := by
  induction J with
  | nil => rfl
  | cons s J ih => rw [show jbVs (s :: J) = jbC s ++ jbVs J from rfl, List.length_append, ih]; simp [jbC]; omega
theorem jbVs_app (S T : List (Nat × Nat × Nat)) : jbVs (S ++ T) = jbVs S ++ jbVs T := by simp [jbVs]
/-- The jobs lie in a row, from a place on; behind them there may be room. -/
structure QA (w : World) (q o cap : Nat) (J : List (Nat × Nat × Nat)) : Prop where
  pos : 0 < J.length
  room : J.length ≤ cap
  blk : ∃ cur : Array Value, Blk w q 203 cur ∧ o + cap * 3 ≤ cur.size ∧ ∀ (j : Nat) (u : Value), (jbVs J)[j]? = some u → cur[o + j]? = some u
theorem QA.cell {w : World} {q o cap : Nat} {J : List (Nat × Nat × Nat)} (h : QA w q o cap J) {j : Nat} {u : Value} (hu : (jbVs J)[j]? = some u) : w.cell? ⟨q, o + j, none⟩ = some u := by
  obtain ⟨cur, hb, _, hc⟩ := h.blk
  rw [hb.cell]; exact hc j u hu
theorem QA.lt {w : World} {q o cap : Nat} {J : List (Nat × Nat × Nat)} (h : QA w q o cap J) : q < w.heap.size := by
  obtain ⟨cur, hb, _⟩ := h.blk
  exact hb.lt
theorem QA.keep {w w' : World} {K : Nat → Prop} {q o cap : Nat} {J : List (Nat × Nat × Nat)} (h : QA w q o cap J) (hk : Keeps K w w') (hq : ¬ K q) : QA w' q o cap J := by
  obtain ⟨cur, hb, h1, h2⟩ := h.blk
  exact ⟨h.pos, h.room, cur, hb.keep hk hq, h1, h2⟩
theorem QA.ne_row {w : World} {q o cap : Nat} {J : List (Nat × Nat × Nat)} (h : QA w q o cap J) {e : TypeId} {size n : Nat} {v : Value} {xs : List Value} (hr : Row w e size v n xs) (hne : e ≠ 203) : v.ownBlock ≠ some q := by
  obtain ⟨cur, hb, _⟩ := h.blk
  exact hr.blk_ne hb hne
theorem QA.ne_blk {w : World} {q o cap g : Nat} {J : List (Nat × Nat × Nat)} {t : TypeId} {cs : Array Value} (h : QA w q o cap J) (hg : Blk w g t cs) (hne : t ≠ 203) : g ≠ q := by
  obtain ⟨cur, hb, _⟩ := h.blk
  exact hg.differ hb hne
theorem Blk.setCells {w : World} {g : Nat} {t : TypeId} {cs : Array Value} (h : Blk w g t cs) (o : Nat) (a b c : Value) : Blk (w.setCells g o [a, b, c]) g t (((cs.setIfInBounds o a).setIfInBounds (o + 1) b).setIfInBounds (o + 1 + 1) c) :=
  ((h.set_ o a).set_ (o + 1) b).set_ (o + 1 + 1) c
theorem Keeps.setCells {S : Nat → Prop} {w w1 : World} (h : Keeps S w w1) {g : Nat} (hg : S g ∨ w.heap.size ≤ g) (o : Nat) (a b c : Value) : Keeps S w (w1.setCells g o [a, b, c]) :=
  ((h.setCell (p := ⟨g, o, none⟩) hg a).setCell (p := ⟨g, o + 1, none⟩) hg b).setCell (p := ⟨g, o + 1 + 1, none⟩) hg c
/-- A job more, where there is room. -/
theorem QA.put {w : World} {q o cap : Nat} {J : List (Nat × Nat × Nat)} (h : QA w q o cap J) (hr : J.length + 1 ≤ cap) (g : Nat × Nat × Nat) : QA (w.setCells q (o + J.length * 3) (jbC g)) q o cap (J ++ [g]) := by
  obtain ⟨cur, hb, h1, h2⟩ := h.blk
  refine ⟨by simp, by simpa using hr, _, hb.setCells _ _ _ _, by simpa using h1, fun j u hu => ?_⟩
  have hlen := jbVs_len J
  rw [jbVs_app] at hu
  have hsz : o + J.length * 3 + 2 < cur.size := by omega
  rcases Nat.lt_or_ge j (J.length * 3) with h3 | h3
  · rw [List.getElem?_append_left (by omega)] at hu
    rw [Array.getElem?_setIfInBounds_ne (by omega), Array.getElem?_setIfInBounds_ne (by omega), Array.getElem?_setIfInBounds_ne (by omega)]
    exact h2 j u hu
  · rw [List.getElem?_append_right (by omega), hlen] at hu
    have hj : j - J.length * 3 < 3 := by
      have := (List.getElem?_eq_some_iff.1 hu).1
      simpa [jbVs, jbC] using this
    have hc : j = J.length * 3 ∨ j = J.length * 3 + 1 ∨ j = J.length * 3 + 2 := by omega
    rcases hc with rfl | rfl | rfl
    · rw [Nat.sub_self] at hu
      simp [jbVs, jbC] at hu
      subst hu
      rw [Array.getElem?_setIfInBounds_ne (by omega), Array.getElem?_setIfInBounds_ne (by omega), Array.getElem?_setIfInBounds_self_of_lt (by omega)]
    · rw [Nat.add_sub_cancel_left] at hu
      simp [jbVs, jbC] at hu
      subst hu
      rw [show o + (J.length * 3 + 1) = o + J.length * 3 + 1 by omega, Array.getElem?_setIfInBounds_ne (by omega), Array.getElem?_setIfInBounds_self_of_lt (by simp; omega)]
    · rw [Nat.add_sub_cancel_left] at hu
      simp [jbVs, jbC] at hu
      subst hu
      rw [show o + (J.length * 3 + 2) = o + J.length * 3 + 1 + 1 by omega, Array.getElem?_setIfInBounds_self_of_lt (by simp; omega)]
/-- The first job is done with. -/
theorem QA.tail {w : World} {q o cap : Nat} {g : Nat × Nat × Nat} {J : List (Nat × Nat × Nat)} (h : QA w q o cap (g :: J)) (hJ : J ≠ []) : QA w q (o + 3) (cap - 1) J := by
  obtain ⟨cur, hb, h1, h2⟩ := h.blk
  have hr := h.room
  simp at hr
  have h0 := List.length_pos_iff.2 hJ
  refine ⟨h0, by omega, cur, hb, by omega, fun j u hu => ?_⟩
  rw [show o + 3 + j = o + (3 + j) by omega]
  refine h2 _ u ?_
  rw [show jbVs (g :: J) = jbC g ++ jbVs J from rfl, List.getElem?_append_right (by simp [jbC])]
  simpa [jbC] using hu
theorem QA.ofRow {w : World} {v : Value} {n : Nat} {J : List (Nat × Nat × Nat)} (h : Row w 203 3 v n (jbVs J)) (hn : n = J.length) (h0 : 0 < J.length) : ∃ q cap, v = .slice (some ⟨q, 0, none⟩) J.length cap ∧ QA w q 0 cap J := by
  subst hn
  rcases h.2 with ⟨e, h2⟩ | ⟨g, cap, cur, rfl, _, hh, hnc, hm, hz, ht⟩
  · exfalso
    first
      | omega
      | (simp at h2; omega)
      | (simp at h2; subst h2; simp at h0)
  · refine ⟨g, cap, rfl, h0, hnc, cur, hh, by omega, fun j u hu => ?_⟩
    rw [Nat.zero_add]
    have hj := (List.getElem?_eq_some_iff.1 hu).1
    rw [← ht, List.getElem?_take] at hu
    split at hu
    · simpa using hu
    · cases hu

end Go.Proofs.YtkbdfnmeomkpjaaGreat
