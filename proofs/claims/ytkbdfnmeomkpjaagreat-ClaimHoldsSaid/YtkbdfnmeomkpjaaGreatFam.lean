/- A family of rows that the call owns, and a map from bytes to slices, in memory; no program; no condition. -/
import Derived.Test.YtkbdfnmeomkpjaaGreatMem
import Derived.Maps.OwnOps
import Derived.Maps.Views
import Derived.Maps.RangeWalk
namespace Go.Proofs.YtkbdfnmeomkpjaaGreat
open Go.RowKit
set_option linter.unusedVariables false
set_option linter.unusedSimpArgs false

def fupd {α : Type} (f : Nat → α) (d : Nat) (v : α) : Nat → α := fun x => if x = d then v else f x
theorem fupd_same {α : Type} (f : Nat → α) (d : Nat) (v : α) : fupd f d v d = v := by simp [fupd]
theorem fupd_other {α : Type} (f : Nat → α) {d x : Nat} (v : α) (h : x ≠ d) : fupd f d v x = f x := by simp [fupd, h]
theorem Row.grownF {W w3 : World} {e : TypeId} {size n : Nat} {v : Value} {xs : List Value} {row : Option Nat} (h : Row W e size v n xs) (hg : W.grownBy w3 row) (hne : ∀ b, v.ownBlock = some b → row ≠ some b) : Row w3 e size v n xs := by
  obtain ⟨h1, h2⟩ := h
  refine ⟨h1, ?_⟩
  rcases h2 with h2 | ⟨g, cap, cur, rfl, hb, hh, r⟩
  · exact .inl h2
  · exact .inr ⟨g, cap, cur, rfl, hb, Blk.grown (t := e) hh hg (hne g rfl), r⟩
theorem Row.sameBlk {w : World} {e e' : TypeId} {size n size' n' : Nat} {v v' : Value} {xs xs' : List Value} (h : Row w e size v n xs) (h' : Row w e' size' v' n' xs') (hne : e ≠ e') : ∀ b, v.ownBlock = some b → v'.ownBlock ≠ some b := by
  intro b hb hb'
  rcases h'.2 with ⟨rfl, _⟩ | ⟨g', cap, cur, rfl, _, hh, _⟩
  · simp [Value.ownBlock] at hb'
  · simp [Value.ownBlock] at hb'
    subst hb'
    exact h.blk_ne (g := g') (t := e') hh hne hb

/-- Rows of the call's own, apart from each other. -/
structure Fam (w : World) (e : TypeId) (N n0 : Nat) (A : Nat → Value) (X : Nat → List Value) : Prop where
  own : ∀ d, d < N → Row w e 1 (A d) (X d).length (X d)
  ne : ∀ d d', d < N → d' < N → d ≠ d' → ∀ b, (A d).ownBlock = some b → (A d').ownBlock ≠ some b
  new : ∀ d, d < N → ∀ b, (A d).ownBlock = some b → n0 ≤ b
section
variable {w w' W W' : World} {e : TypeId} {N n0 : Nat} {A : Nat → Value} {X : Nat → List Value} {S : Nat → Prop}
theorem Fam.nil (w : World) (e : TypeId) (N n0 : Nat) : Fam w e N n0 (fun _ => .slice none 0 0) (fun _ => []) :=
  ⟨fun d _ => Row.nil _ _ _, fun d d' _ _ _ b h => by simp [Value.ownBlock] at h, fun d _ b h => by simp [Value.ownBlock] at h⟩
theorem Fam.keep (h : Fam w e N n0 A X) (hk : Keeps S w w') (hS : ∀ d, d < N → ∀ b, (A d).ownBlock = some b → ¬ S b) : Fam w' e N n0 A X :=
  ⟨fun d hd => (h.own d hd).keep hk (hS d hd), h.ne, h.new⟩
theorem Fam.pure (h : Fam w e N n0 A X) (hk : Pure' w w') : Fam w' e N n0 A X := h.keep hk (fun _ _ _ _ hf => hf)
theorem Fam.off (h : Fam w e N n0 A X) {g : Nat} {t : TypeId} {cs : Array Value} (hg : Blk w g t cs) (hne : e ≠ t) (hk : Keeps (fun x => x = g) w w') : Fam w' e N n0 A X :=
  h.keep hk (fun d hd b hb hS => (h.own d hd).blk_ne hg hne (by rw [hb, hS]))
theorem Fam.offRow (h : Fam w e N n0 A X) {e' : TypeId} {size n : Nat} {v : Value} {xs : List Value} (hr : Row w e' size v n xs) (hne : e ≠ e') (hk : Keeps (fun x => v.ownBlock = some x) w w') : Fam w' e N n0 A X :=
  h.keep hk (fun d hd b hb hS => (h.own d hd).sameBlk hr hne b hb hS)
theorem Fam.app (h : Fam W e N n0 A X) {d : Nat} (hd : d < N) (hn : n0 ≤ W.heap.size) {o : Obj} (hg : (W.alloc o).grownBy W' (A d).ownBlock) {v' x : Value} (hr : Row W' e 1 v' ((X d).length + 1) (X d ++ [x]))
    (hv : v'.ownBlock = (A d).ownBlock ∨ ∃ b, v'.ownBlock = some b ∧ W.heap.size ≤ b) : Fam W' e N n0 (fupd A d v') (fupd X d (X d ++ [x])) := by
  refine ⟨fun k hk => ?_, fun k k' hk hk' hne b hb => ?_, fun k hk b hb => ?_⟩
  · by_cases hkd : k = d
    · subst hkd
      rw [fupd_same, fupd_same, List.length_append]
      exact hr
    · rw [fupd_other _ _ hkd, fupd_other _ _ hkd]
      exact ((h.own k hk).alloc o).grownF hg (fun b hb hc => h.ne k d hk hd hkd b hb hc)
  · by_cases hkd : k = d
    · subst hkd
      rw [fupd_same] at hb
      rw [fupd_other _ _ (fun e => hne e.symm)]
      rcases hv with hv | ⟨c, hc, hcs⟩
      · exact h.ne k k' hk hk' hne b (hv ▸ hb)
      · rw [hc] at hb
        injection hb with hb
        subst hb
        intro hb'
        have := (h.own k' hk').lt _ hb'
        omega
    · rw [fupd_other _ _ hkd] at hb
      by_cases hkd' : k' = d
      · subst hkd'
        rw [fupd_same]
        rcases hv with hv | ⟨c, hc, hcs⟩
        · rw [hv]; exact h.ne k k' hk hk' hne b hb
        · rw [hc]
          intro e
          injection e with e
          subst e
          have := (h.own k hk).lt _ hb
          omega
      · rw [fupd_other _ _ hkd']
        exact h.ne k k' hk hk' hne b hb
  · by_cases hkd : k = d
    · subst hkd
      rw [fupd_same] at hb
      rcases hv with hv | ⟨c, hc, hcs⟩
      · exact h.new k hk b (hv ▸ hb)
      · rw [hc] at hb
        injection hb with hb
        omega
    · rw [fupd_other _ _ hkd] at hb
      exact h.new k hk b hb
/-- A row turned in place. -/
theorem Fam.turn (h : Fam W e N n0 A X) {d : Nat} (hd : d < N) (hk : Keeps (fun x => (A d).ownBlock = some x) W W') {v' : Value} {Y : List Value} (hr : Row W' e 1 v' Y.length Y)
    (hv : v'.ownBlock = (A d).ownBlock) : Fam W' e N n0 (fupd A d v') (fupd X d Y) := by
  refine ⟨fun k hk' => ?_, fun k k' hk hk' hne b hb => ?_, fun k hk b hb => ?_⟩
  · by_cases hkd : k = d
    · subst hkd
      rw [fupd_same, fupd_same]
      exact hr
    · rw [fupd_other _ _ hkd, fupd_other _ _ hkd]
      exact (h.own k hk').keep hk (fun b hb hc => h.ne k d hk' hd hkd b hb hc)
  · have e1 : ∀ z, (fupd A d v' z).ownBlock = (A z).ownBlock := fun z => by
      by_cases hz : z = d
      · subst hz; rw [fupd_same, hv]
      · rw [fupd_other _ _ hz]
    rw [e1] at hb ⊢
    exact h.ne k k' hk hk' hne b hb
  · have e1 : ∀ z, (fupd A d v' z).ownBlock = (A z).ownBlock := fun z => by
      by_cases hz : z = d
      · subst hz; rw [fupd_same, hv]
      · rw [fupd_other _ _ hz]
    rw [e1] at hb
    exact h.new k hk b hb
theorem fupd_map (A : Nat → Value) (N d : Nat) (v : Value) : ((List.range N).map A).set d v = (List.range N).map (fupd A d v) := by
  apply List.ext_getElem?
  intro k
  rw [List.getElem?_set, List.getElem?_map, List.getElem?_map]
  by_cases hk : k < N
  · rw [List.getElem?_range hk]
    by_cases hkd : d = k
    · subst hkd; rw [if_pos rfl, if_pos (by simpa using hk)]; simp [fupd]
    · rw [if_neg hkd, Option.map_some, Option.map_some, fupd_other _ _ (fun e => hkd (Eq.symm e))]
  · rw [List.getElem?_eq_none (l := List.range N) (by simpa using hk)]
    by_cases hkd : d = k
    · subst hkd; rw [if_pos rfl, if_neg (by simpa using hk)]; rfl
    · rw [if_neg hkd]; rfl
theorem map_at (A : Nat → Value) {N d : Nat} (h : d < N) : ((List.range N).map A)[d]? = some (A d) := by
  rw [List.getElem?_map, List.getElem?_range h]; rfl
end

/-! ### A map from bytes to slices -/
theorem wf8 {c : Nat} (h : c < 256) : (Lit.int .u8 (c : Int)).wf = true := by
  have h1 : IntKind.u8.min = 0 := rfl
  have h2 : IntKind.u8.max = 255 := rfl
  simp only [Lit.wf, h1, h2, Bool.and_eq_true, decide_eq_true_eq]
  omega
def slD : Value → DataW Unit
  | .slice (some ⟨g, o, _⟩) n c => .slice [.lit (.int .i64 (g : Int)), .lit (.int .i64 (o : Int)), .lit (.int .i64 (n : Int)), .lit (.int .i64 (c : Int))] []
  | .slice none n c => .slice [.lit (.int .i64 (n : Int)), .lit (.int .i64 (c : Int))] []
  | _ => .nil
def slOk : Value → Bool
  | .slice (some ⟨_, _, none⟩) _ _ => true
  | .slice none _ _ => true
  | _ => false
def slE (v : Value) : Option (DataW Unit × List MemPlace) := if slOk v = true then some (slD v, []) else none
theorem slOk_inv {v : Value} (h : slOk v = true) : (∃ n c, v = .slice none n c) ∨ ∃ g o n c, v = .slice (some ⟨g, o, none⟩) n c := by
  unfold slOk at h
  split at h
  · exact .inr ⟨_, _, _, _, rfl⟩
  · exact .inl ⟨_, _, rfl⟩
  · cases h
theorem slD_inj {v v' : Value} (h : slOk v = true) (h' : slOk v' = true) (e : slD v = slD v') : v = v' := by
  rcases slOk_inv h with ⟨n, c, rfl⟩ | ⟨g, o, n, c, rfl⟩ <;> rcases slOk_inv h' with ⟨n', c', rfl⟩ | ⟨g', o', n', c', rfl⟩
  · simp only [slD, DataW.slice.injEq, List.cons.injEq, DataW.lit.injEq, Lit.int.injEq] at e
    obtain ⟨⟨⟨_, h1⟩, ⟨_, h2⟩, _⟩, _⟩ := e
    rw [show n = n' by omega, show c = c' by omega]
  · simp [slD] at e
  · simp [slD] at e
  · simp only [slD, DataW.slice.injEq, List.cons.injEq, DataW.lit.injEq, Lit.int.injEq] at e
    obtain ⟨⟨⟨_, h1⟩, ⟨_, h2⟩, ⟨_, h3⟩, ⟨_, h4⟩, _⟩, _⟩ := e
    rw [show g = g' by omega, show o = o' by omega, show n = n' by omega, show c = c' by omega]
theorem slE_mk {v : Value} (h : slOk v = true) : slE v = some (slD v, []) := by unfold slE; rw [if_pos h]
theorem slE_inv {v : Value} {y : DataW Unit × List MemPlace} (h : slE v = some y) : slOk v = true ∧ y = (slD v, []) := by
  unfold slE at h
  split at h
  · next h1 => injection h with h; exact ⟨h1, h.symm⟩
  · cases h
theorem Row.slOk {w : World} {e : TypeId} {size n : Nat} {v : Value} {xs : List Value} (h : Row w e size v n xs) : slOk v = true := by
  rcases h.2 with ⟨rfl, _⟩ | ⟨g, cap, cur, rfl, _⟩ <;> rfl
/-- Block mb is a map from bytes to slices: at byte c it has A c. -/
def GMp (P : Program) (k : TypeId) (w : World) (mb n : Nat) (A : Nat → Value) : Prop :=
  ∃ D : DataW Unit, w.ownsMap P k slE mb n D ∧ Maps.IsMap D ∧ ∀ c, c < 256 → slOk (A c) = true ∧ D.atKey (.int .u8 (c : Int)) (slD (.slice none 0 0)) = slD (A c)
section
variable {P : Program} {k t e : TypeId} {w w' : World} {mb n : Nat} {A : Nat → Value} {S : Nat → Prop}
theorem GMp.made (P : Program) (k : TypeId) (w : World) : GMp P k (w.alloc (.map #[] 0)) w.heap.size 0 (fun _ => .slice none 0 0) :=
  ⟨.map [], World.ownsMap_made w P k slE, Maps.isMap_empty, fun c _ => ⟨rfl, rfl⟩⟩
theorem GMp.lt (h : GMp P k w mb n A) : mb < w.heap.size := by obtain ⟨D, h1, _⟩ := h; exact h1.lt
theorem GMp.keep (h : GMp P k w mb n A) (hk : Keeps S w w') (hS : ¬ S mb) : GMp P k w' mb n A := by
  have hlt := h.lt
  obtain ⟨D, ⟨es, clock, hb, r⟩, h2, h3⟩ := h
  exact ⟨D, ⟨es, clock, (hk.block mb hlt hS).trans hb, r⟩, h2, h3⟩
theorem GMp.look (h : GMp P k w mb n A) (hk : P.underlying k = some (.int .u8)) (ht : P.underlying t = some (.map k e)) (hz : (zeroValue e).run P w = .ok (.slice none 0 0) w) {c : Nat} (hc : c < 256) :
    (Instr.lookup t (.map (some mb)) (.int .u8 (c : Int)) false).run P w = .ok (A c) w := by
  obtain ⟨D, h1, h2, h3⟩ := h
  obtain ⟨v, ps, hrun, hv⟩ := h1.lookup (Maps.int_keyed hk) ht hz (zd := slD (.slice none 0 0)) (zp := []) rfl (Maps.keyOf_int_mk hk (a := (c : Int)) (wf8 hc))
  obtain ⟨hv1, hv2⟩ := slE_inv hv
  injection hv2 with hv2 _
  rw [(h3 c hc).2] at hv2
  rw [hrun, slD_inj (h3 c hc).1 hv1 hv2]
theorem GMp.store (h : GMp P k w mb n A) (hk : P.underlying k = some (.int .u8)) (ht : P.underlying t = some (.map k e)) (hn : n < maxLen) {c : Nat} (hc : c < 256) {v : Value} (hv : slOk v = true) :
    ∃ w', (Instr.mapUpdate t (.map (some mb)) (.int .u8 (c : Int)) v).run P w = .ok () w' ∧ GMp P k w' mb (n + 1) (fupd A c v) ∧ w.grownBy w' (some mb) := by
  obtain ⟨D, h1, h2, h3⟩ := h
  obtain ⟨w', hrun, r1, r2⟩ := h1.update (Maps.int_keyed hk) ht hn (val := v) (kl := .int .u8 (c : Int)) (Maps.keyOf_int_mk hk (a := (c : Int)) (wf8 hc)) (slE_mk hv)
  refine ⟨w', hrun, ⟨_, r1, h2.put _ _, fun c' hc' => ?_⟩, r2⟩
  by_cases e : c' = c
  · subst e
    rw [fupd_same]
    exact ⟨hv, Maps.atKey_put_same h2 (k := .int .u8 (c' : Int)) trivial _ _⟩
  · rw [fupd_other _ _ e, Maps.atKey_put_other (fun he => e (by injection he with _ he; omega))]
    exact h3 c' hc'
end
end Go.Proofs.YtkbdfnmeomkpjaaGreat
