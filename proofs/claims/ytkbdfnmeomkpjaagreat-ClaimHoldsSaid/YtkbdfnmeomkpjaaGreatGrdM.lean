/- A guard in the making, in memory; no condition but the sizes. -/
import Derived.Test.YtkbdfnmeomkpjaaGreatGrdL
import Derived.Test.YtkbdfnmeomkpjaaGreatFam
namespace Go.Proofs.YtkbdfnmeomkpjaaGreat
open Go.RowKit
set_option linter.unusedVariables false
set_option linter.unusedSimpArgs false
set_option maxRecDepth 100000

/-! ### Rows of four words -/
def grW (r : GR) (c : Nat) : Nat := rowW r.1 r.2.1 r.2.2.1 r.2.2.2 c
def grSet (r : GR) (c : Nat) : GR :=
  if c / 64 = 0 then (r.1 ||| 2 ^ (c % 64), r.2) else if c / 64 = 1 then (r.1, r.2.1 ||| 2 ^ (c % 64), r.2.2) else if c / 64 = 2 then (r.1, r.2.1, r.2.2.1 ||| 2 ^ (c % 64), r.2.2.2) else (r.1, r.2.1, r.2.2.1, r.2.2.2 ||| 2 ^ (c % 64))
theorem grSet_cells (r : GR) {c : Nat} (hc : c < 256) : (grC (grSet r c)).toList = (grC r).toList.set (c / 64) (.int .u64 ((grW r c ||| 2 ^ (c % 64) : Nat) : Int)) := by
  have h : c / 64 = 0 ∨ c / 64 = 1 ∨ c / 64 = 2 ∨ c / 64 = 3 := by omega
  unfold grSet grW rowW grC rowC
  rcases h with h | h | h | h <;> rw [h] <;> rfl
theorem grSet_w (r : GR) {c c' : Nat} (hc : c < 256) (hc' : c' < 256) : grW (grSet r c) c' = if c / 64 = c' / 64 then grW r c' ||| 2 ^ (c % 64) else grW r c' := by
  have h : c / 64 = 0 ∨ c / 64 = 1 ∨ c / 64 = 2 ∨ c / 64 = 3 := by omega
  have h' : c' / 64 = 0 ∨ c' / 64 = 1 ∨ c' / 64 = 2 ∨ c' / 64 = 3 := by omega
  unfold grSet grW rowW
  rcases h with h | h | h | h <;> rcases h' with h' | h' | h' | h' <;> rw [h, h'] <;> rfl
theorem grHas_bit (r : GR) (c : Nat) : grHas r c = (grW r c).testBit (c % 64) := by
  unfold grHas rowHas
  rw [Nat.testBit_eq_decide_div_mod_eq]
  rfl
theorem grSet_has (r : GR) {c c' : Nat} (hc : c < 256) (hc' : c' < 256) : grHas (grSet r c) c' = (decide (c = c') || grHas r c') := by
  rw [grHas_bit, grHas_bit, grSet_w r hc hc']
  by_cases h : c / 64 = c' / 64
  · rw [if_pos h, Nat.testBit_or, Nat.testBit_two_pow, Bool.or_comm]
    congr 1
    by_cases e : c = c'
    · subst e; simp
    · rw [decide_eq_false e, decide_eq_false (by omega)]
  · rw [if_neg h, decide_eq_false (by rintro rfl; exact h rfl), Bool.false_or]
theorem grW_lt {r : GR} (h : grOk r) (c : Nat) : grW r c < 18446744073709551616 := rowW_lt c h
theorem or_lt {u k : Nat} (hu : u < 18446744073709551616) (hk : k < 64) : u ||| 2 ^ k < 18446744073709551616 :=
  Nat.or_lt_two_pow (n := 64) hu (Nat.pow_lt_pow_right (by decide) hk)
theorem grSet_ok {r : GR} (h : grOk r) (c : Nat) : grOk (grSet r c) := by
  have h0 := h r.1 (by simp)
  have h1 := h r.2.1 (by simp)
  have h2 := h r.2.2.1 (by simp)
  have h3 := h r.2.2.2 (by simp)
  have hk : c % 64 < 64 := Nat.mod_lt _ (by decide)
  intro u hu
  unfold grSet at hu
  split at hu
  · simp at hu; rcases hu with rfl | rfl | rfl | rfl
    · exact or_lt h0 hk
    · exact h1
    · exact h2
    · exact h3
  · split at hu
    · simp at hu; rcases hu with rfl | rfl | rfl | rfl
      · exact h0
      · exact or_lt h1 hk
      · exact h2
      · exact h3
    · split at hu
      · simp at hu; rcases hu with rfl | rfl | rfl | rfl
        · exact h0
        · exact h1
        · exact or_lt h2 hk
        · exact h3
      · simp at hu; rcases hu with rfl | rfl | rfl | rfl
        · exact h0
        · exact h1
        · exact h2
        · exact or_lt h3 hk
def grVs (R : List GR) : List Value := R.flatMap (fun r => (grC r).toList)
theorem grC_len (r : GR) : (grC r).toList.length = 4 := rfl
theorem grVs_len (R : List GR) : (grVs R).length = R.length * 4 := by
  induction R with
  | nil => rfl
  | cons s S ih => rw [show grVs (s :: S) = (grC s).toList ++ grVs S from rfl, List.length_append, ih, grC_len]; simp; omega
theorem grVs_at : ∀ (S : List GR) (k r : Nat) (s : GR), S[k]? = some s → r < 4 → (grVs S)[k * 4 + r]? = (grC s).toList[r]?
  | [], k, r, s, h, _ => by simp at h
  | a :: S, 0, r, s, h, hr => by
    simp at h; subst h
    rw [show grVs (a :: S) = (grC a).toList ++ grVs S from rfl, Nat.zero_mul, Nat.zero_add, List.getElem?_append_left (by rw [grC_len]; exact hr)]
  | a :: S, k + 1, r, s, h, hr => by
    have ih := grVs_at S k r s (by simpa using h) hr
    rw [show grVs (a :: S) = (grC a).toList ++ grVs S from rfl, show (k + 1) * 4 + r = 4 + (k * 4 + r) by omega, List.getElem?_append_right (by rw [grC_len]; omega), grC_len, Nat.add_sub_cancel_left]
    exact ih
theorem grVs_set : ∀ (S : List GR) (k r : Nat) (s s' : GR) (u : Value), S[k]? = some s → r < 4 → (grC s').toList = (grC s).toList.set r u → (grVs S).set (k * 4 + r) u = grVs (S.set k s')
  | [], k, r, s, s', u, h, _, _ => by simp at h
  | a :: S, 0, r, s, s', u, h, hr, e => by
    simp at h; subst h
    rw [List.set_cons_zero, show grVs (a :: S) = (grC a).toList ++ grVs S from rfl, show grVs (s' :: S) = (grC s').toList ++ grVs S from rfl, e, Nat.zero_mul, Nat.zero_add, List.set_append_left _ _ (by rw [grC_len]; exact hr)]
  | a :: S, k + 1, r, s, s', u, h, hr, e => by
    have ih := grVs_set S k r s s' u (by simpa using h) hr e
    rw [List.set_cons_succ, show grVs (a :: S) = (grC a).toList ++ grVs S from rfl, show grVs (a :: S.set k s') = (grC a).toList ++ grVs (S.set k s') from rfl, ← ih, show (k + 1) * 4 + r = 4 + (k * 4 + r) by omega, List.set_append_right _ _ (by rw [grC_len]; omega), grC_len, Nat.add_sub_cancel_left]
theorem Row.rowsAt {w : World} {t : TypeId} {b n cap : Nat} {R : List GR} (h : Row w t 4 (.slice (some ⟨b, 0, none⟩) n cap) n (grVs R)) : RowsAt w b R := by
  intro k r hr j hj
  have h1 := grVs_at R k j r hr hj
  have h2 : j < (grC r).toList.length := by rw [grC_len]; exact hj
  rw [List.getElem?_eq_getElem h2] at h1
  rw [h.cell h1, ← Array.getElem?_toList, List.getElem?_eq_getElem h2]
def idVs (L : List Nat) : List Value := L.map (fun y : Nat => Value.int .i64 (y : Int))
theorem idVs_len (L : List Nat) : (idVs L).length = L.length := by simp [idVs]
theorem u16_fupd (T : Nat → List Nat) (d y : Nat) : (fun k => u16Vs (fupd T d (T d ++ [y]) k)) = fupd (fun k => u16Vs (T k)) d (u16Vs (T d) ++ [.int .u16 (y : Int)]) := by
  funext k
  by_cases e : k = d
  · subst e; rw [fupd_same, fupd_same]; simp [u16Vs]
  · rw [fupd_other _ _ e, fupd_other _ _ e]
theorem id_fupd (T : Nat → List Nat) (d y : Nat) : (fun k => idVs (fupd T d (T d ++ [y]) k)) = fupd (fun k => idVs (T k)) d (idVs (T d) ++ [.int .i64 (y : Int)]) := by
  funext k
  by_cases e : k = d
  · subst e; rw [fupd_same, fupd_same]; simp [idVs]
  · rw [fupd_other _ _ e, fupd_other _ _ e]
theorem u16_turn (T : Nat → List Nat) (d : Nat) (Y : List Nat) : (fun k => u16Vs (fupd T d Y k)) = fupd (fun k => u16Vs (T k)) d (u16Vs Y) := by
  funext k
  by_cases e : k = d
  · subst e; rw [fupd_same, fupd_same]
  · rw [fupd_other _ _ e, fupd_other _ _ e]

/-! ### The guard -/
structure GdB (w : World) (n0 g b1 b2 mb m n : Nat) (x : Option Addr) (R : List GR) (A : Nat → Value) (T : Nat → List Nat) (L : Nat → Value) (G : Nat → List Nat) : Prop where
  box : Blk w g 84 #[.pointer x, .slice (some ⟨b1, 0, none⟩) m m, .slice (some ⟨b2, 0, none⟩) (m - 1) (m - 1), .map (some mb)]
  rl : R.length = m
  ones : Row w 124 4 (.slice (some ⟨b1, 0, none⟩) m m) m (grVs R)
  twos : Row w 89 1 (.slice (some ⟨b2, 0, none⟩) (m - 1) (m - 1)) (m - 1) ((List.range (m - 1)).map A)
  famT : Fam w 90 (m - 1) n0 A (fun d => u16Vs (T d))
  mp : GMp Tryz.prog 5 w mb n L
  famL : Fam w 3 256 n0 L (fun c => idVs (G c))
  news : n0 ≤ g ∧ n0 ≤ b1 ∧ n0 ≤ b2 ∧ n0 ≤ mb
  ok : ∀ r ∈ R, grOk r
theorem GMp.neBlk {P : Program} {k : TypeId} {w : World} {mb n b : Nat} {A : Nat → Value} {t : TypeId} {cs : Array Value} (h : GMp P k w mb n A) (hb : Blk w b t cs) : mb ≠ b := by
  rintro rfl
  obtain ⟨D, ⟨es, clock, h1, _⟩, _⟩ := h
  unfold Blk at hb
  rw [h1] at hb
  cases hb
theorem GMp.neRow {P : Program} {k : TypeId} {w : World} {mb n size n' : Nat} {A : Nat → Value} {t : TypeId} {v : Value} {xs : List Value} (h : GMp P k w mb n A) (hr : Row w t size v n' xs) : v.ownBlock ≠ some mb := by
  rcases hr.2 with ⟨rfl, _⟩ | ⟨g', cap, cur, rfl, _, hh, _⟩
  · simp [Value.ownBlock]
  · intro e
    simp [Value.ownBlock] at e
    subst e
    exact h.neBlk (b := g') (t := t) hh rfl
theorem Keeps.ofOwn {w w' : World} {b n c : Nat} (h : Keeps (fun x => x = b) w w') : Keeps (fun x => (Value.slice (some ⟨b, 0, none⟩) n c).ownBlock = some x) w w' := h.mono (fun k _ e => by rw [e]; rfl)
theorem own_eq {b n c x : Nat} (h : (Value.slice (some ⟨b, 0, none⟩) n c).ownBlock = some x) : x = b := by simp [Value.ownBlock] at h; exact h.symm
section
variable {w w' W W' : World} {n0 g b1 b2 mb m n : Nat} {x : Option Addr} {R : List GR} {A L : Nat → Value} {T G : Nat → List Nat} {S : Nat → Prop}
theorem GdB.keep (h : GdB w n0 g b1 b2 mb m n x R A T L G) (hk : Keeps S w w') (hS : ∀ b, n0 ≤ b → ¬ S b) : GdB w' n0 g b1 b2 mb m n x R A T L G :=
  ⟨h.box.keep hk (hS _ h.news.1), h.rl, h.ones.keep hk (fun b e => by rw [own_eq e]; exact hS _ h.news.2.1), h.twos.keep hk (fun b e => by rw [own_eq e]; exact hS _ h.news.2.2.1),
    h.famT.keep hk (fun d hd b e => hS _ (h.famT.new d hd b e)), h.mp.keep hk (hS _ h.news.2.2.2), h.famL.keep hk (fun d hd b e => hS _ (h.famL.new d hd b e)), h.news, h.ok⟩
theorem GdB.pure (h : GdB w n0 g b1 b2 mb m n x R A T L G) (hk : Pure' w w') : GdB w' n0 g b1 b2 mb m n x R A T L G := h.keep hk (fun _ _ hf => hf)
theorem GdB.b1g (h : GdB w n0 g b1 b2 mb m n x R A T L G) : b1 ≠ g := fun e => h.ones.blk_ne h.box (by decide) (by rw [e]; rfl)
theorem GdB.b2g (h : GdB w n0 g b1 b2 mb m n x R A T L G) : b2 ≠ g := fun e => h.twos.blk_ne h.box (by decide) (by rw [e]; rfl)
theorem GdB.b12 (h : GdB w n0 g b1 b2 mb m n x R A T L G) : b1 ≠ b2 := fun e => h.ones.sameBlk h.twos (by decide) b1 rfl (by rw [e]; rfl)
theorem GdB.bm1 (h : GdB w n0 g b1 b2 mb m n x R A T L G) : mb ≠ b1 := fun e => h.mp.neRow h.ones (by rw [e]; rfl)
theorem GdB.bm2 (h : GdB w n0 g b1 b2 mb m n x R A T L G) : mb ≠ b2 := fun e => h.mp.neRow h.twos (by rw [e]; rfl)
theorem GdB.bmg (h : GdB w n0 g b1 b2 mb m n x R A T L G) : mb ≠ g := h.mp.neBlk h.box
/-- A byte more is noted at a distance. -/
theorem GdB.one (h : GdB w n0 g b1 b2 mb m n x R A T L G) {d c : Nat} {r : GR} (hr : R[d]? = some r) (hc : c < 256) :
    GdB (w.setCell ⟨b1, d * 4 + c / 64, none⟩ (.int .u64 ((grW r c ||| 2 ^ (c % 64) : Nat) : Int))) n0 g b1 b2 mb m n x (R.set d (grSet r c)) A T L G := by
  have hk := Keeps.one w b1 (d * 4 + c / 64) (.int .u64 ((grW r c ||| 2 ^ (c % 64) : Nat) : Int))
  refine ⟨h.box.keep hk (fun e => h.b1g e.symm), by rw [List.length_set]; exact h.rl, ?_, h.twos.keep hk (fun b e => by rw [own_eq e]; exact fun e => h.b12 e.symm), h.famT.offRow h.ones (by decide) hk.ofOwn, h.mp.keep hk h.bm1, h.famL.offRow h.ones (by decide) hk.ofOwn, h.news, ?_⟩
  · rw [← grVs_set R d (c / 64) r _ _ hr (by omega) (grSet_cells r hc)]
    exact h.ones.setK _
  · intro q hq
    rcases List.mem_or_eq_of_mem_set hq with hq | rfl
    · exact h.ok q hq
    · exact grSet_ok (h.ok r (List.mem_of_getElem? hr)) c
/-- A row of pairs is another one, in the same block or in a new one. -/
theorem GdB.two (h : GdB W n0 g b1 b2 mb m n x R A T L G) {d : Nat} (hd : d < m - 1) (hk : Keeps (fun k => (A d).ownBlock = some k) W W') {v' : Value} {X' : Nat → List Nat}
    (hF : Fam W' 90 (m - 1) n0 (fupd A d v') (fun k => u16Vs (X' k))) : GdB (W'.setCell ⟨b2, d, none⟩ v') n0 g b1 b2 mb m n x R (fupd A d v') X' L G := by
  have hro := h.famT.own d hd
  have hk2 := Keeps.one W' b2 d v'
  have htw := h.twos.keep hk (fun b e e2 => h.twos.sameBlk hro (by decide) b e e2)
  refine ⟨(h.box.keep hk (fun e => hro.blk_ne h.box (by decide) e)).keep hk2 (fun e => h.b2g e.symm), h.rl, (h.ones.keep hk (fun b e e2 => h.ones.sameBlk hro (by decide) b e e2)).keep hk2 (fun b e => by rw [own_eq e]; exact h.b12), ?_, hF.offRow htw (by decide) hk2.ofOwn, (h.mp.keep hk (h.mp.neRow hro)).keep hk2 h.bm2, ?_, h.news, h.ok⟩
  · rw [← fupd_map]
    exact htw.setK _
  · exact (h.famL.offRow hro (by decide) hk).offRow htw (by decide) hk2.ofOwn
/-- A number more stands at a byte. -/
theorem GdB.last (h : GdB W n0 g b1 b2 mb m n x R A T L G) {c : Nat} (hc : c < 256) {w1 w2 : World} (hk : Keeps (fun k => (L c).ownBlock = some k) W w1) {v' : Value} {X' : Nat → List Nat}
    (hF : Fam w1 3 256 n0 (fupd L c v') (fun k => idVs (X' k))) (hM : GMp Tryz.prog 5 w2 mb (n + 1) (fupd L c v')) (hg : w1.grownBy w2 (some mb)) : GdB w2 n0 g b1 b2 mb m (n + 1) x R A T (fupd L c v') X' := by
  have hro := h.famL.own c hc
  have hk2 : Keeps (fun k => k = mb) w1 w2 := (Keeps.refl _ w1).grown hg (fun k e => .inl (by injection e with e; exact e.symm))
  have hbm1 : GMp Tryz.prog 5 w1 mb n L := h.mp.keep hk (h.mp.neRow hro)
  refine ⟨(h.box.keep hk (fun e => hro.blk_ne h.box (by decide) e)).keep hk2 (fun e => h.bmg e.symm), h.rl, (h.ones.keep hk (fun b e e2 => h.ones.sameBlk hro (by decide) b e e2)).keep hk2 (fun b e => by rw [own_eq e]; exact fun e => h.bm1 e.symm), (h.twos.keep hk (fun b e e2 => h.twos.sameBlk hro (by decide) b e e2)).keep hk2 (fun b e => by rw [own_eq e]; exact fun e => h.bm2 e.symm), ?_, hM, ?_, h.news, h.ok⟩
  · have hf := h.famT.offRow hro (by decide) hk
    exact hf.keep hk2 (fun d hd b e e2 => hbm1.neRow (hf.own d hd) (by rw [e, e2]))
  · exact hF.keep hk2 (fun d hd b e e2 => hbm1.neRow (hF.own d hd) (by rw [e, e2]))
end
end Go.Proofs.YtkbdfnmeomkpjaaGreat
