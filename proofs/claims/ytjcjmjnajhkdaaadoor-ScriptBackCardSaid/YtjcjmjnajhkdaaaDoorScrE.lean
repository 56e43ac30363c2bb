/- The program's script of a text; no condition but the size. -/
import Derived.Test.YtjcjmjnajhkdaaaDoorScrD
import Derived.RegionIn
import Derived.Shelf.RegionOpen
namespace Go.Proofs.YtjcjmjnajhkdaaaDoor
open Go.RowKit Go.Shelf
set_option linter.unusedVariables false
set_option linter.unusedSimpArgs false
set_option maxRecDepth 100000
attribute [local go_sem] Oper.semAt_some

/-- A script's value, and what its slices read as. -/
def scV (v0 v1 v5 v6 : Value) (s : Sc) : Value := .agg #[v0, v1, .int .i64 s.table, .bool s.skip, .int .i64 s.every, v5, v6]
def SeesV (w : World) (size : Nat) (v : Value) (n : Nat) (xs : List Value) : Prop := ∃ A c, v = .slice A n c ∧ Sees w w.heap.size size A n xs
structure ScR (w : World) (v0 v1 v5 v6 : Value) (s : Sc) : Prop where
  p0 : SeesV w 1 v0 s.pats.length (strVs s.pats)
  p1 : SeesV w 1 v1 s.parts.length (strVs s.parts)
  p5 : SeesV w 3 v5 s.edits.length (edVs s.edits)
  p6 : SeesV w 1 v6 s.certs.length (s.certs.map (Value.int .i64))
theorem SeesV.nil (w : World) (size : Nat) : SeesV w size (.slice none 0 0) 0 [] := ⟨none, 0, rfl, Sees.nil _ _ _ _⟩
theorem SeesV.pure {w w' : World} {size n : Nat} {v : Value} {xs : List Value} (h : SeesV w size v n xs) (hk : Pure' w w') : SeesV w' size v n xs := by
  obtain ⟨A, c, rfl, hs⟩ := h
  exact ⟨A, c, rfl, (hs.pure hk (Nat.le_refl _)).more hk.size⟩
theorem Row.seesV {w : World} {e : TypeId} {size n : Nat} {v : Value} {xs : List Value} (h : Row w e size v n xs) : SeesV w size v n xs := by
  obtain ⟨a, c, rfl, _⟩ := h.form
  exact ⟨a, c, rfl, h.sees⟩
theorem ScR.nil (w : World) : ScR w (.slice none 0 0) (.slice none 0 0) (.slice none 0 0) (.slice none 0 0) sc0 := ⟨SeesV.nil _ _, SeesV.nil _ _, SeesV.nil _ _, SeesV.nil _ _⟩
theorem ScR.pure {w w' : World} {v0 v1 v5 v6 : Value} {s : Sc} (h : ScR w v0 v1 v5 v6 s) (hk : Pure' w w') : ScR w' v0 v1 v5 v6 s := ⟨h.p0.pure hk, h.p1.pure hk, h.p5.pure hk, h.p6.pure hk⟩
theorem Rd.views {w : World} {F b : Nat} {v0 v1 v5 v6 : Value} {s : Sc} {x y : Int} (h : Rd w F b v0 v1 v5 v6 s x y) : ScR w v0 v1 v5 v6 s := ⟨h.r0.seesV, h.r1.seesV, h.r5.seesV, h.r6.seesV⟩

/-- What both give of a text. -/
def ParsePost (t : List UInt8) (w : World) (e : Ending) (w' : World) : Prop :=
  ∃ v0 v1 v5 v6, e = .returned (.tuple #[scV v0 v1 v5 v6 (parseS t).1, .int .i64 (parseS t).2.1, .int .i64 (parseS t).2.2]) ∧ ScR w' v0 v1 v5 v6 (parseS t).1 ∧ Pure' w w'

theorem Blk.newAt {w : World} {t : TypeId} {cs : Array Value} {g : Nat} (h : g = w.heap.size) : Blk (w.alloc (.cells cs t)) g t cs := by subst h; exact Blk.new w t cs
theorem Pure'.others {w w' : World} (h : Pure' w w') : KeepsOthers w w' := ⟨h.size, fun k o hk _ => (h.block k (Array.getElem?_eq_some_iff.1 hk).1 (fun hf => hf)).trans hk⟩
theorem Keeps.others {S : Nat → Prop} {w w' : World} (h : Keeps S w w') (hS : ∀ k, S k → ∀ o, w.heap[k]? = some o → o.isCells = true) : KeepsOthers w w' := ⟨h.size, fun k o hk ho => by
  refine (h.block k (Array.getElem?_eq_some_iff.1 hk).1 (fun hs => ?_)).trans hk
  rw [hS k hs o hk] at ho; cases ho⟩
theorem Blk.grownX {w w' : World} {g : Nat} {t : TypeId} {cs : Array Value} {row : Option Nat} (h : Blk w g t cs) (hg : w.grownBy w' row) (hr : ∀ r, row = some r → ∃ o : Obj, w.heap[r]? = some o ∧ o.isCells = false) : Blk w' g t cs :=
  h.grown hg (fun e => by obtain ⟨o, ho, hc⟩ := hr g e; rw [show w.heap[g]? = _ from h] at ho; cases ho; cases hc)
theorem Row.grownX {w w' : World} {e : TypeId} {size n : Nat} {v : Value} {xs : List Value} {row : Option Nat} (h : Row w e size v n xs) (hg : w.grownBy w' row) (hr : ∀ r, row = some r → ∃ o : Obj, w.heap[r]? = some o ∧ o.isCells = false) : Row w' e size v n xs := by
  obtain ⟨h1, h2⟩ := h
  refine ⟨h1, ?_⟩
  rcases h2 with h2 | ⟨g, cap, cur, rfl, hB, hh, r⟩
  · exact .inl h2
  · exact .inr ⟨g, cap, cur, rfl, hB, Blk.grownX hh hg hr, r⟩
theorem Rd.grownX {w w' : World} {F b : Nat} {v0 v1 v5 v6 : Value} {s : Sc} {x y : Int} {row : Option Nat} (h : Rd w F b v0 v1 v5 v6 s x y) (hg : w.grownBy w' row) (hr : ∀ r, row = some r → ∃ o : Obj, w.heap[r]? = some o ∧ o.isCells = false) : Rd w' F b v0 v1 v5 v6 s x y :=
  ⟨h.blk.grownX hg hr, h.r0.grownX hg hr, h.r1.grownX hg hr, h.r5.grownX hg hr, h.r6.grownX hg hr, h.f0, h.f1, h.f5, h.f6, h.apart, h.lt⟩
theorem Rd.off {w : World} {F b : Nat} {v0 v1 v5 v6 : Value} {s : Sc} {x y : Int} (h : Rd w F b v0 v1 v5 v6 s x y) {k : Nat} (i : Nat) (hk : k < F) (hb : k ≠ b) (u : Value) : Rd (w.setCell ⟨k, i, none⟩ u) F b v0 v1 v5 v6 s x y :=
  ⟨h.blk.off (fun e => hb e.symm), h.r0.off (fun e => by have := h.f0 _ e; omega), h.r1.off (fun e => by have := h.f1 _ e; omega), h.r5.off (fun e => by have := h.f5 _ e; omega), h.r6.off (fun e => by have := h.f6 _ e; omega), h.f0, h.f1, h.f5, h.f6, h.apart, h.lt⟩
/-- The blocks that a line may turn are cells, of the reader's. -/
theorem Rd.isCells {w : World} {F b : Nat} {v0 v1 v5 v6 : Value} {s : Sc} {x y : Int} (h : Rd w F b v0 v1 v5 v6 s x y) (k : Nat) (hk : k = b ∨ v0.ownBlock = some k ∨ v1.ownBlock = some k ∨ v5.ownBlock = some k) : ∀ o, w.heap[k]? = some o → o.isCells = true := by
  have key : ∀ {e : TypeId} {size n : Nat} {v : Value} {xs : List Value}, Row w e size v n xs → v.ownBlock = some k → ∀ o, w.heap[k]? = some o → o.isCells = true := by
    intro e size n v xs hr hv o ho
    rcases hr.2 with ⟨rfl, _⟩ | ⟨g, cap, cur, rfl, _, hh, _⟩
    · simp [Value.ownBlock] at hv
    · have : g = k := by simpa [Value.ownBlock] using hv
      subst this
      rw [hh] at ho; cases ho; rfl
  rcases hk with rfl | hk | hk | hk
  · intro o ho; rw [show w.heap[k]? = _ from h.blk] at ho; cases ho; rfl
  · exact key h.r0 hk
  · exact key h.r1 hk
  · exact key h.r5 hk

/-- What lies there between two lines; the first block of the call is w's next. -/
structure PM (w : World) (s : Sc) (n : Nat) (x y : Int) (v0 v1 v5 v6 : Value) (no : Nat) (W : World) : Prop where
  low : Pure' w W
  big : w.heap.size + 10 ≤ W.heap.size
  out0 : Blk W w.heap.size 29 #[.slice none 0 0, .slice none 0 0, .int .i64 0, .bool false, .int .i64 0, .slice none 0 0, .slice none 0 0]
  out1 : Blk W (w.heap.size + 1) 3 #[.int .i64 0]
  out2 : Blk W (w.heap.size + 2) 30 #[.int .i64 0]
  ptr : Blk W (w.heap.size + 4) 48 #[.pointer (some ⟨w.heap.size + 3, 0, none⟩)]
  cn : Blk W (w.heap.size + 5) 3 #[.int .i64 n]
  cno : Blk W (w.heap.size + 6) 3 #[.int .i64 no]
  rd : Rd W (w.heap.size + 10) (w.heap.size + 3) v0 v1 v5 v6 s x y
/-- What holds between two lines. -/
structure PI (w : World) (pre : List (List UInt8)) (s : Sc) (n z : Nat) (x y : Int) (v0 v1 v5 v6 : Value) (W : World) : Prop where
  m : PM w s n x y v0 v1 v5 v6 pre.length W
  go : ∀ post, parseGo sc0 false false 0 0 (pre ++ post) = parseGo s (decide (x = 1)) (decide (y = 1)) n pre.length post
  fine : Fine s (decide (x = 1)) (decide (y = 1)) n z
  hx : x = 0 ∨ x = 1
  hy : y = 0 ∨ y = 1
  hn : n ≤ 400
/-- .. and when the text is wrong. -/
structure PX (w : World) (t : List UInt8) (W : World) : Prop where
  low : Pure' w W
  out0 : Blk W w.heap.size 29 #[.slice none 0 0, .slice none 0 0, .int .i64 0, .bool false, .int .i64 0, .slice none 0 0, .slice none 0 0]
  out1 : Blk W (w.heap.size + 1) 3 #[.int .i64 (parseS t).2.1]
  out2 : Blk W (w.heap.size + 2) 30 #[.int .i64 (parseS t).2.2]
  none_ : (parseS t).1 = sc0

theorem PM.grown {w W W' : World} {s : Sc} {n no : Nat} {x y : Int} {v0 v1 v5 v6 : Value} {row : Option Nat} (h : PM w s n x y v0 v1 v5 v6 no W) (hg : W.grownBy W' row) (hr : ∀ r, row = some r → w.heap.size + 10 ≤ r ∧ ∃ o : Obj, W.heap[r]? = some o ∧ o.isCells = false) : PM w s n x y v0 v1 v5 v6 no W' := by
  have hr2 := fun r e => (hr r e).2
  exact ⟨h.low.grown hg (fun k hk => .inr (by have := (hr k hk).1; omega)), Nat.le_trans h.big hg.size, h.out0.grownX hg hr2, h.out1.grownX hg hr2, h.out2.grownX hg hr2, h.ptr.grownX hg hr2, h.cn.grownX hg hr2, h.cno.grownX hg hr2, h.rd.grownX hg hr2⟩
theorem PI.grown {w W W' : World} {pre : List (List UInt8)} {s : Sc} {n z : Nat} {x y : Int} {v0 v1 v5 v6 : Value} {row : Option Nat} (h : PI w pre s n z x y v0 v1 v5 v6 W) (hg : W.grownBy W' row) (hr : ∀ r, row = some r → w.heap.size + 10 ≤ r ∧ ∃ o : Obj, W.heap[r]? = some o ∧ o.isCells = false) : PI w pre s n z x y v0 v1 v5 v6 W' :=
  ⟨h.m.grown hg hr, h.go, h.fine, h.hx, h.hy, h.hn⟩
theorem PM.setOff {w W : World} {s : Sc} {n no : Nat} {x y : Int} {v0 v1 v5 v6 : Value} (h : PM w s n x y v0 v1 v5 v6 no W) (u : Value) : PM w s n x y v0 v1 v5 v6 no (W.setCell ⟨w.heap.size + 7, 0, none⟩ u) :=
  ⟨h.low.setCell (p := ⟨w.heap.size + 7, 0, none⟩) (.inr (by show w.heap.size ≤ w.heap.size + 7; omega)) u, by simpa [World.setCell] using h.big, h.out0.off (by omega), h.out1.off (by omega), h.out2.off (by omega), h.ptr.off (by omega), h.cn.off (by omega), h.cno.off (by omega), h.rd.off 0 (by omega) (by omega) u⟩
theorem PM.setNo {w W : World} {s : Sc} {n no : Nat} {x y : Int} {v0 v1 v5 v6 : Value} (h : PM w s n x y v0 v1 v5 v6 no W) (k : Nat) {u : Int} (hu : u = (k : Int)) : PM w s n x y v0 v1 v5 v6 k (W.setCell ⟨w.heap.size + 6, 0, none⟩ (.int .i64 u)) := by
  subst hu
  exact ⟨h.low.setCell (p := ⟨w.heap.size + 6, 0, none⟩) (.inr (by show w.heap.size ≤ w.heap.size + 6; omega)) _, by simpa [World.setCell] using h.big, h.out0.off (by omega), h.out1.off (by omega), h.out2.off (by omega), h.ptr.off (by omega), h.cn.off (by omega), (h.cno.set_ 0 _).to rfl, h.rd.off 0 (by omega) (by omega) _⟩
theorem PM.setN {w W : World} {s : Sc} {n no : Nat} {x y : Int} {v0 v1 v5 v6 : Value} (h : PM w s n x y v0 v1 v5 v6 no W) (k : Nat) {u : Int} (hu : u = (k : Int)) : PM w s k x y v0 v1 v5 v6 no (W.setCell ⟨w.heap.size + 5, 0, none⟩ (.int .i64 u)) := by
  subst hu
  exact ⟨h.low.setCell (p := ⟨w.heap.size + 5, 0, none⟩) (.inr (by show w.heap.size ≤ w.heap.size + 5; omega)) _, by simpa [World.setCell] using h.big, h.out0.off (by omega), h.out1.off (by omega), h.out2.off (by omega), h.ptr.off (by omega), (h.cn.set_ 0 _).to rfl, h.cno.off (by omega), h.rd.off 0 (by omega) (by omega) _⟩
theorem PM.pure {w W W' : World} {s : Sc} {n no : Nat} {x y : Int} {v0 v1 v5 v6 : Value} (h : PM w s n x y v0 v1 v5 v6 no W) (hk : Pure' W W') : PM w s n x y v0 v1 v5 v6 no W' :=
  ⟨h.low.then_ hk, Nat.le_trans h.big hk.size, h.out0.keep hk (fun hf => hf), h.out1.keep hk (fun hf => hf), h.out2.keep hk (fun hf => hf), h.ptr.keep hk (fun hf => hf), h.cn.keep hk (fun hf => hf), h.cno.keep hk (fun hf => hf), h.rd.keep hk⟩
/-- The blocks that a line may turn. -/
theorem PM.turns {w W : World} {s : Sc} {n no : Nat} {x y : Int} {v0 v1 v5 v6 : Value} (h : PM w s n x y v0 v1 v5 v6 no W) (k : Nat) (hk : k = w.heap.size + 3 ∨ v0.ownBlock = some k ∨ v1.ownBlock = some k ∨ v5.ownBlock = some k) : k = w.heap.size + 3 ∨ w.heap.size + 10 ≤ k :=
  hk.imp id (fun hk => hk.elim (h.rd.f0 k) (fun hk => hk.elim (h.rd.f1 k) (h.rd.f5 k)))
theorem PM.line {w W W' : World} {s s' : Sc} {n no : Nat} {x y x' y' : Int} {v0 v1 v5 v6 v0' v1' v5' v6' : Value} (h : PM w s n x y v0 v1 v5 v6 no W) (hk : Keeps (fun k => k = w.heap.size + 3 ∨ v0.ownBlock = some k ∨ v1.ownBlock = some k ∨ v5.ownBlock = some k) W W') (hr : Rd W' (w.heap.size + 10) (w.heap.size + 3) v0' v1' v5' v6' s' x' y') : PM w s' n x' y' v0' v1' v5' v6' no W' := by
  have ht := h.turns
  have off : ∀ j, j < w.heap.size + 10 → j ≠ w.heap.size + 3 → ¬ (j = w.heap.size + 3 ∨ v0.ownBlock = some j ∨ v1.ownBlock = some j ∨ v5.ownBlock = some j) := fun j h1 h2 hj => by have := ht j hj; omega
  exact ⟨h.low.trans hk (fun b hb hj => by have := ht b hj; omega), Nat.le_trans h.big hk.size, h.out0.keep hk (off _ (by omega) (by omega)), h.out1.keep hk (off _ (by omega) (by omega)), h.out2.keep hk (off _ (by omega) (by omega)), h.ptr.keep hk (off _ (by omega) (by omega)), h.cn.keep hk (off _ (by omega) (by omega)), h.cno.keep hk (off _ (by omega) (by omega)), hr⟩

/-- What the results need still stands behind a line that fell. -/
structure PO (w : World) (no : Nat) (W : World) : Prop where
  low : Pure' w W
  big : w.heap.size + 10 ≤ W.heap.size
  out0 : Blk W w.heap.size 29 #[.slice none 0 0, .slice none 0 0, .int .i64 0, .bool false, .int .i64 0, .slice none 0 0, .slice none 0 0]
  out1 : Blk W (w.heap.size + 1) 3 #[.int .i64 0]
  out2 : Blk W (w.heap.size + 2) 30 #[.int .i64 0]
  cno : Blk W (w.heap.size + 6) 3 #[.int .i64 no]
theorem PM.lost {w W W' : World} {s : Sc} {n no : Nat} {x y : Int} {v0 v1 v5 v6 : Value} (h : PM w s n x y v0 v1 v5 v6 no W) (hk : Keeps (fun k => k = w.heap.size + 3 ∨ v0.ownBlock = some k ∨ v1.ownBlock = some k ∨ v5.ownBlock = some k) W W') : PO w no W' := by
  have ht := h.turns
  have off : ∀ j, j < w.heap.size + 10 → j ≠ w.heap.size + 3 → ¬ (j = w.heap.size + 3 ∨ v0.ownBlock = some j ∨ v1.ownBlock = some j ∨ v5.ownBlock = some j) := fun j h1 h2 hj => by have := ht j hj; omega
  exact ⟨h.low.trans hk (fun b hb hj => by have := ht b hj; omega), Nat.le_trans h.big hk.size, h.out0.keep hk (off _ (by omega) (by omega)), h.out1.keep hk (off _ (by omega) (by omega)), h.out2.keep hk (off _ (by omega) (by omega)), h.cno.keep hk (off _ (by omega) (by omega))⟩
theorem PM.po {w W : World} {s : Sc} {n no : Nat} {x y : Int} {v0 v1 v5 v6 : Value} (h : PM w s n x y v0 v1 v5 v6 no W) : PO w no W := ⟨h.low, h.big, h.out0, h.out1, h.out2, h.cno⟩

/-- A step of the round: what is no cells lies, and so do the boxes of the iterator. -/
structure StepK (H : Nat) (W W' : World) : Prop where
  others : KeepsOthers W W'
  boxes : KeptB (fun k => k = H + 7 ∨ k = H + 8 ∨ k = H + 9) W W'
theorem StepK.trans {H : Nat} {A B C : World} (h : StepK H A B) (k : StepK H B C) : StepK H A C := ⟨h.others.trans k.others, h.boxes.trans k.boxes⟩
theorem StepK.refl (H : Nat) (W : World) : StepK H W W := ⟨KeepsOthers.refl W, ⟨Nat.le_refl _, fun _ _ => rfl⟩⟩
theorem StepK.set_ {H : Nat} (W : World) {k i : Nat} (h : k < H + 7) (u : Value) : StepK H W (W.setCell ⟨k, i, none⟩ u) := ⟨KeepsOthers.setCell _ _ _, ⟨by simp [World.setCell], fun j hj => Below.heap_setCell _ _ _ _ (by show j ≠ k; omega)⟩⟩
theorem StepK.drew {H : Nat} (W : World) : StepK H W W.drew := ⟨KeepsOthers.drew W, ⟨Nat.le_refl _, fun _ _ => rfl⟩⟩
theorem StepK.pure {H : Nat} {W W' : World} (h : Pure' W W') (hb : H + 10 ≤ W.heap.size) : StepK H W W' := ⟨h.others, ⟨h.size, fun j hj => h.block j (by omega) (fun hf => hf)⟩⟩
theorem PM.stepK {w W W' : World} {s : Sc} {n no : Nat} {x y : Int} {v0 v1 v5 v6 : Value} (h : PM w s n x y v0 v1 v5 v6 no W) (hk : Keeps (fun k => k = w.heap.size + 3 ∨ v0.ownBlock = some k ∨ v1.ownBlock = some k ∨ v5.ownBlock = some k) W W') : StepK w.heap.size W W' :=
  ⟨hk.others (fun k hk => h.rd.isCells k hk), ⟨hk.size, fun j hj => hk.block j (by have := h.big; omega) (fun hS => by have := h.turns j hS; omega)⟩⟩
theorem PX.grown {w W W' : World} {t : List UInt8} {row : Option Nat} (h : PX w t W) (hg : W.grownBy W' row) (hr : ∀ r, row = some r → w.heap.size + 10 ≤ r ∧ ∃ o : Obj, W.heap[r]? = some o ∧ o.isCells = false) : PX w t W' := by
  have hr2 := fun r e => (hr r e).2
  exact ⟨h.low.grown hg (fun k hk => .inr (by have := (hr k hk).1; omega)), h.out0.grownX hg hr2, h.out1.grownX hg hr2, h.out2.grownX hg hr2, h.none_⟩
theorem PI.box {w W : World} {pre : List (List UInt8)} {s : Sc} {n z : Nat} {x y : Int} {v0 v1 v5 v6 : Value} (h : PI w pre s n z x y v0 v1 v5 v6 W) (u : Value) : PI w pre s n z x y v0 v1 v5 v6 (W.setCell ⟨w.heap.size + 7, 0, none⟩ u) :=
  ⟨h.m.setOff u, h.go, h.fine, h.hx, h.hy, h.hn⟩
/-- A line that is left out. -/
theorem PI.skip {w W W' : World} {pre : List (List UInt8)} {x : List UInt8} {s : Sc} {n z : Nat} {xx y : Int} {v0 v1 v5 v6 : Value} (h : PI w pre s n z xx y v0 v1 v5 v6 W) (hd : dead (wordsL x) = true) (hm : PM w s n xx y v0 v1 v5 v6 (pre.length + 1) W') : PI w (pre ++ [x]) s n z xx y v0 v1 v5 v6 W' :=
  ⟨by simpa using hm, fun post => by
    rw [List.append_assoc, h.go, List.singleton_append, parseGo, if_pos hd]
    simp, h.fine, h.hx, h.hy, h.hn⟩
/-- A line that is taken. -/
theorem PI.take {w W W' : World} {pre : List (List UInt8)} {x : List UInt8} {s s' : Sc} {n z : Nat} {xx y x' y' : Int} {v0 v1 v5 v6 v0' v1' v5' v6' : Value} (h : PI w pre s n z xx y v0 v1 v5 v6 W) (hd : dead (wordsL x) = false) (h4 : n + 1 ≤ 400) (hl : lineV s (decide (xx = 1)) (decide (y = 1)) (wordsL x) = some (s', decide (x' = 1), decide (y' = 1)))
    (hx : x' = 0 ∨ x' = 1) (hy : y' = 0 ∨ y' = 1) (hm : PM w s' (n + 1) x' y' v0' v1' v5' v6' (pre.length + 1) W') : PI w (pre ++ [x]) s' (n + 1) (z + wl (wordsL x)) x' y' v0' v1' v5' v6' W' :=
  ⟨by simpa using hm, fun post => by
    rw [List.append_assoc, h.go, List.singleton_append, parseGo, if_neg (by rw [hd]; decide), if_neg (by omega), hl]
    simp, fine_line h.fine hl, hx, hy, h4⟩
theorem PI.full {w W : World} {pre post : List (List UInt8)} {x : List UInt8} {s : Sc} {n z : Nat} {xx y : Int} {v0 v1 v5 v6 : Value} (h : PI w pre s n z xx y v0 v1 v5 v6 W) (t : List UInt8) (hxs : linesL t = pre ++ x :: post) (hd : dead (wordsL x) = false) (h4 : 400 < n + 1) : parseS t = (sc0, (pre.length : Int) + 1, 13) := by
  unfold parseS
  rw [hxs, h.go, parseGo, if_neg (by rw [hd]; decide), if_pos h4]
theorem PI.wrong {w W : World} {pre post : List (List UInt8)} {x : List UInt8} {s : Sc} {n z : Nat} {xx y : Int} {v0 v1 v5 v6 : Value} (h : PI w pre s n z xx y v0 v1 v5 v6 W) (t : List UInt8) (hxs : linesL t = pre ++ x :: post) (hd : dead (wordsL x) = false) (h4 : n + 1 ≤ 400) (hl : lineV s (decide (xx = 1)) (decide (y = 1)) (wordsL x) = none) : parseS t = (sc0, (pre.length : Int) + 1, 3) := by
  unfold parseS
  rw [hxs, h.go, parseGo, if_neg (by rw [hd]; decide), if_neg (by omega), hl]
/-- The results of a wrong text. -/
theorem PO.wrong {w W : World} {no : Nat} (h : PO w no W) (t : List UInt8) {a b : Int} (ht : parseS t = (sc0, a, b)) {W' : World} (h0 : Blk W' w.heap.size 29 #[.slice none 0 0, .slice none 0 0, .int .i64 0, .bool false, .int .i64 0, .slice none 0 0, .slice none 0 0]) (h1 : Blk W' (w.heap.size + 1) 3 #[.int .i64 a]) (h2 : Blk W' (w.heap.size + 2) 30 #[.int .i64 b]) (hp : Pure' w W') : PX w t W' :=
  ⟨hp, h0, by rw [ht]; exact h1, by rw [ht]; exact h2, by rw [ht]⟩

def outW (W : World) (H : Nat) (c0 c1 c2 c3 c4 c5 c6 : Value) (a b : Int) : World :=
  ((((((((W.setCell ⟨H, 0, none⟩ c0).setCell ⟨H, 1, none⟩ c1).setCell ⟨H, 2, none⟩ c2).setCell ⟨H, 3, none⟩ c3).setCell ⟨H, 4, none⟩ c4).setCell ⟨H, 5, none⟩ c5).setCell ⟨H, 6, none⟩ c6).setCell ⟨H + 1, 0, none⟩ (.int .i64 a)).setCell ⟨H + 2, 0, none⟩ (.int .i64 b)
abbrev errW (W : World) (H : Nat) (a b : Int) : World := outW W H (.slice none 0 0) (.slice none 0 0) (.int .i64 0) (.bool false) (.int .i64 0) (.slice none 0 0) (.slice none 0 0) a b
theorem StepK.out (W : World) (H : Nat) (c0 c1 c2 c3 c4 c5 c6 : Value) (a b : Int) : StepK H W (outW W H c0 c1 c2 c3 c4 c5 c6 a b) := by
  unfold outW
  exact (((((((((StepK.set_ W (by omega) _).trans (StepK.set_ _ (by omega) _)).trans (StepK.set_ _ (by omega) _)).trans (StepK.set_ _ (by omega) _)).trans (StepK.set_ _ (by omega) _)).trans (StepK.set_ _ (by omega) _)).trans (StepK.set_ _ (by omega) _)).trans (StepK.set_ _ (by omega) _)).trans (StepK.set_ _ (by omega) _))
theorem StepK.err (W : World) (H : Nat) (a b : Int) : StepK H W (errW W H a b).drew := (StepK.out W H _ _ _ _ _ _ _ a b).trans (StepK.drew _)
/-- The results' cells when they are written. -/
theorem PO.out {w W : World} {no : Nat} (h : PO w no W) (c0 c1 c2 c3 c4 c5 c6 : Value) (a b : Int) : Blk (outW W w.heap.size c0 c1 c2 c3 c4 c5 c6 a b) w.heap.size 29 #[c0, c1, c2, c3, c4, c5, c6] ∧ Blk (outW W w.heap.size c0 c1 c2 c3 c4 c5 c6 a b) (w.heap.size + 1) 3 #[.int .i64 a] ∧
    Blk (outW W w.heap.size c0 c1 c2 c3 c4 c5 c6 a b) (w.heap.size + 2) 30 #[.int .i64 b] ∧ Pure' w (outW W w.heap.size c0 c1 c2 c3 c4 c5 c6 a b) := by
  refine ⟨?_, ?_, ?_, ?_⟩
  · unfold outW
    refine Blk.off (by omega) (Blk.off (by omega) ?_)
    exact (((((((h.out0.set_ 0 _).set_ 1 _).set_ 2 _).set_ 3 _).set_ 4 _).set_ 5 _).set_ 6 _).to rfl
  · unfold outW
    refine Blk.off (by omega) ?_
    refine (Blk.set_ (cs := #[.int .i64 0]) ?_ 0 _).to rfl
    exact ((((((h.out1.off (by omega)).off (by omega)).off (by omega)).off (by omega)).off (by omega)).off (by omega)).off (by omega)
  · unfold outW
    refine (Blk.set_ (cs := #[.int .i64 0]) ?_ 0 _).to rfl
    exact (((((((h.out2.off (by omega)).off (by omega)).off (by omega)).off (by omega)).off (by omega)).off (by omega)).off (by omega)).off (by omega)
  · unfold outW
    have hs : ∀ {X : World} (k i : Nat) (u : Value), w.heap.size ≤ k → Pure' w X → Pure' w (X.setCell ⟨k, i, none⟩ u) := fun k i u hk hX => hX.setCell (p := ⟨k, i, none⟩) (.inr hk) u
    exact hs _ _ _ (by omega) (hs _ _ _ (by omega) (hs _ _ _ (by omega) (hs _ _ _ (by omega) (hs _ _ _ (by omega) (hs _ _ _ (by omega) (hs _ _ _ (by omega) (hs _ _ _ (by omega) (hs _ _ _ (by omega) h.low))))))))
theorem PO.err {w W : World} {no : Nat} (h : PO w no W) (t : List UInt8) {a b : Int} (ht : parseS t = (sc0, a, b)) : PX w t (errW W w.heap.size a b).drew := by
  obtain ⟨h0, h1, h2, h3⟩ := h.out (.slice none 0 0) (.slice none 0 0) (.int .i64 0) (.bool false) (.int .i64 0) (.slice none 0 0) (.slice none 0 0) a b
  exact h.wrong t ht h0.drew h1.drew h2.drew h3.drew
theorem Rd.out {w : World} {F b : Nat} {v0 v1 v5 v6 : Value} {s : Sc} {x y : Int} (h : Rd w F b v0 v1 v5 v6 s x y) {H : Nat} (hF : H + 2 < F) (hb : H + 2 < b) (c0 c1 c2 c3 c4 c5 c6 : Value) (p q : Int) : Rd (outW w H c0 c1 c2 c3 c4 c5 c6 p q) F b v0 v1 v5 v6 s x y := by
  unfold outW
  exact ((((((((h.off 0 (by omega) (by omega) _).off 1 (by omega) (by omega) _).off 2 (by omega) (by omega) _).off 3 (by omega) (by omega) _).off 4 (by omega) (by omega) _).off 5 (by omega) (by omega) _).off 6 (by omega) (by omega) _).off 0 (by omega) (by omega) _).off 0 (by omega) (by omega) _
theorem grownBy_put (W : World) (l : Nat) (o : Obj) : W.grownBy (W.putObj l o) (some l) :=
  ⟨rfl, rfl, rfl, by simp, fun k _ hk => World.putObj_heap_other (fun e => hk (by rw [e]))⟩

theorem Sees.off {w : World} {B size n g k i : Nat} {xs : List Value} (h : Sees w B size (some ⟨g, 0, none⟩) n xs) (hne : g ≠ k) (u : Value) : Sees (w.setCell ⟨k, i, none⟩ u) B size (some ⟨g, 0, none⟩) n xs :=
  ⟨h.1, fun hn => by
    obtain ⟨ad, e, hb, hc⟩ := h.2 hn
    cases e
    exact ⟨_, rfl, hb, fun j x hx => (World.cell?_of_block (by rw [addBlock]; exact Below.heap_setCell _ _ _ _ hne)).trans (hc j x hx)⟩⟩

theorem results_three {P : Program} {fn : Func} {p q r : Tmp} {t0 t1 t2 : TypeId} (h : fn.results = #[.cell p t0, .cell q t1, .cell r t2]) (tmps : Array Value) (w : World) (g0 g1 g2 : Nat) (T : TypeId) (cs : Array Value) (fr : Nat × Nat) (d : TypeDesc) (x y : Value)
    (hp : tmps.getD p undef = .pointer (some ⟨g0, 0, none⟩)) (hq : tmps.getD q undef = .pointer (some ⟨g1, 0, none⟩)) (hr : tmps.getD r undef = .pointer (some ⟨g2, 0, none⟩))
    (hg : w.heap[g0]? = some (.cells cs T fr)) (hu : P.underlying t0 = some d) (hd : (match d with | .struct _ | .array _ _ => true | _ => false) = true) (hi : (P.info? t0).map (·.size) = some cs.size)
    (h1 : (loadVar t1 ⟨g1, 0, none⟩).run P w = .ok x w) (h2 : (loadVar t2 ⟨g2, 0, none⟩).run P w = .ok y w) :
    (results fn tmps).run P w = .ok (.tuple #[.agg cs, x, y]) w := by
  have hp' : tmps[p]?.getD undef = .pointer (some ⟨g0, 0, none⟩) := by simpa using hp
  have hq' : tmps[q]?.getD undef = .pointer (some ⟨g1, 0, none⟩) := by simpa using hq
  have hr' : tmps[r]?.getD undef = .pointer (some ⟨g2, 0, none⟩) := by simpa using hr
  simp [results, h, hp', hq', hr', asAddr, run_loadVar_row w g0 T t0 cs fr d hg hu hd hi, h1, h2, Sem.run_bind, Result.andThen]

theorem run_loadVar_word {P : Program} {ty : TypeId} {d : TypeDesc} {g : Nat} {v : Value} {w : World} (hu : P.underlying ty = some d) (hd : (match d with | .struct _ | .array _ _ => true | _ => false) = false) (hc : w.cell? ⟨g, 0, none⟩ = some v) : (loadVar ty ⟨g, 0, none⟩).run P w = .ok v w := by
  have hagg : (isAgg ty).run P w = .ok false w := by
    unfold isAgg
    rw [Sem.run_bind, run_underlying hu w]
    cases d <;> simp_all
  simp [loadVar, Sem.run_bind, hagg, hc]
theorem Blk.put {w : World} {g l : Nat} {t : TypeId} {cs : Array Value} (h : Blk w g t cs) (hne : g ≠ l) (o : Obj) : Blk (w.putObj l o) g t cs := (World.putObj_heap_other hne).trans h
/-- The call's end: the results are read out of their cells. -/
theorem ends_three {R : Ending → World → Prop} {a : Act} {H D : Nat} {X : World} {cs : Array Value} {x y : Value} (h2 : a.tmps.getD 2 undef = .pointer (some ⟨H, 0, none⟩)) (h3 : a.tmps.getD 3 undef = .pointer (some ⟨H + 1, 0, none⟩)) (h4 : a.tmps.getD 4 undef = .pointer (some ⟨H + 2, 0, none⟩))
    (hd : a.defers = [{ target := .collected D, args := #[] }]) (hD : H + 3 ≤ D) (hW : X.heap[D]? = some (.deferred (some []))) (hb0 : Blk X H 29 cs) (hcs : cs.size = 7) (hb1 : Blk X (H + 1) 3 #[x]) (hb2 : Blk X (H + 2) 30 #[y])
    (hR : R (.returned (.tuple #[.agg cs, x, y])) (X.putObj D (.deferred none))) : bodyPostM Fence.wide 9 Tryd.prog Tryd.f8 R .ret a X := by
  show LeavesInM Fence.wide 9 Tryd.prog Tryd.f8 a.tmps R a.defers .returning X
  rw [hd]
  refine ⟨by simp, .inl ⟨_, _, rfl, run_takeDeferred hW, ?_⟩⟩
  have e0 := hb0.put (l := D) (by omega) (.deferred none)
  have e1 := hb1.put (l := D) (by omega) (.deferred none)
  have e2 := hb2.put (l := D) (by omega) (.deferred none)
  refine ⟨_, results_three (P := Tryd.prog) (fn := Tryd.f8) rfl a.tmps _ H (H + 1) (H + 2) 29 cs (0, 0) _ x y h2 h3 h4 e0 Tryd.underlying29 rfl (by rw [hcs]; kernel_rfl) ?_ ?_, hR⟩
  · exact run_loadVar_word Tryd.underlying3 rfl (by rw [e1.cell]; rfl)
  · exact run_loadVar_word Tryd.underlying30 rfl (by rw [e2.cell]; rfl)

theorem go0 : ∀ post, parseGo sc0 false false 0 0 ([] ++ post) = parseGo sc0 (decide ((0 : Int) = 1)) (decide ((0 : Int) = 1)) 0 ([] : List (List UInt8)).length post := fun post => rfl
theorem fine0 : Fine sc0 false false 0 0 := ⟨by simp [sc0], by simp [sc0], by simp [sc0], by simp, by simp [sc0], by simp [NumsOk, sc0], by simp [sc0], by simp [sl, sc0]⟩

theorem wordsF_ne : ∀ (l w : List UInt8), ∀ x ∈ wordsF l w, x ≠ []
  | [], w, x, hx => by
    unfold wordsF at hx
    split at hx <;> simp_all
  | c :: l, w, x, hx => by
    unfold wordsF at hx
    split at hx
    · split at hx
      · exact wordsF_ne l [] x hx
      · rcases List.mem_cons.1 hx with rfl | hx
        · assumption
        · exact wordsF_ne l [] x hx
    · exact wordsF_ne l _ x hx
theorem words_ne (l : List UInt8) : ∀ x ∈ wordsL l, x ≠ [] := wordsF_ne l []
theorem wl_ge : ∀ (l : List (List UInt8)), l.length ≤ wl l ∧ ∀ x ∈ l, x.length + 1 ≤ wl l
  | [] => by simp [wl]
  | a :: l => by
    obtain ⟨h1, h2⟩ := wl_ge l
    have e : wl (a :: l) = a.length + 1 + wl l := by simp [wl]
    rw [e]
    refine ⟨by simp; omega, fun x hx => ?_⟩
    rcases List.mem_cons.1 hx with rfl | hx
    · omega
    · have := h2 x hx; omega

set_option maxHeartbeats 4000000 in
theorem parseS_ (t : List UInt8) (w : World) (hs : t.length ≤ 100000) (m : Int) (hmx : w.cell? ⟨2, 0, none⟩ = some (.int .i64 m)) :
    Calls Tryd.prog 8 #[.string ⟨t.toArray⟩] w fun e w' => ParsePost t w e w' := by
  refine (callsIn_wide (n := 9)).1 ?_
  refine callsIn_of_wp_marks Tryd.func8 rfl trivial ?_ rfl
  simp only [Tryd.ntmps8, List.size_toArray, List.length_cons, List.length_nil, Nat.reduceAdd, Nat.reduceSub, Array.replicate_succ, Array.replicate_zero, List.push_toArray, List.append_toArray, List.nil_append, List.cons_append]
  gi_wp2
  refine ⟨trivial, (callsIn_wide.2 (splitseq_ _ _)).mono ?_⟩
  rintro e w' ⟨rfl, hw'⟩
  have h0 : Blk w' w.heap.size 29 #[.slice none 0 0, .slice none 0 0, .int .i64 0, .bool false, .int .i64 0, .slice none 0 0, .slice none 0 0] := by rw [hw']; exact ((((((((((Blk.newAt (by simp)).alloc _).alloc _).alloc _).alloc _).alloc _).alloc _).alloc _).alloc _).alloc _)
  have h1 : Blk w' (w.heap.size + 1) 3 #[.int .i64 0] := by rw [hw']; exact (((((((((Blk.newAt (by simp)).alloc _).alloc _).alloc _).alloc _).alloc _).alloc _).alloc _).alloc _)
  have h2 : Blk w' (w.heap.size + 2) 30 #[.int .i64 0] := by rw [hw']; exact ((((((((Blk.newAt (by simp)).alloc _).alloc _).alloc _).alloc _).alloc _).alloc _).alloc _)
  have h3 : Blk w' (w.heap.size + 3) 50 #[.slice none 0 0, .slice none 0 0, .int .i64 0, .bool false, .int .i64 0, .slice none 0 0, .slice none 0 0, .int .i64 0, .int .i64 0] := by rw [hw']; exact (((((((Blk.newAt (by simp)).alloc _).alloc _).alloc _).alloc _).alloc _).alloc _)
  have h4 : Blk w' (w.heap.size + 4) 48 #[.pointer (some ⟨w.heap.size + 3, 0, none⟩)] := by rw [hw']; exact ((((((Blk.newAt (by simp)).alloc _).alloc _).alloc _).alloc _).alloc _)
  have h5 : Blk w' (w.heap.size + 5) 3 #[.int .i64 0] := by rw [hw']; exact (((((Blk.newAt (by simp)).alloc _).alloc _).alloc _).alloc _)
  have h6 : Blk w' (w.heap.size + 6) 3 #[.int .i64 0] := by rw [hw']; exact ((((Blk.newAt (by simp)).alloc _).alloc _).alloc _)
  have h7 : Blk w' (w.heap.size + 7) 9 #[.string ⟨t.toArray⟩] := by rw [hw']; exact (((Blk.newAt (by simp)).alloc _).alloc _)
  have h8 : Blk w' (w.heap.size + 8) 9 #[.string ⟨#[10]⟩] := by rw [hw']; exact ((Blk.newAt (by simp)).alloc _)
  have h9 : Blk w' (w.heap.size + 9) 3 #[.int .i64 0] := by rw [hw']; exact (Blk.newAt (by simp))
  have hp0 : Pure' w w' := by rw [hw']; exact ((((((((((Keeps.refl _ w).alloc _).alloc _).alloc _).alloc _).alloc _).alloc _).alloc _).alloc _).alloc _).alloc _
  have hsz : w'.heap.size = w.heap.size + 10 := by rw [hw']; simp
  have hpi0 : PI w [] sc0 0 0 0 0 (.slice none 0 0) (.slice none 0 0) (.slice none 0 0) (.slice none 0 0) w' :=
    ⟨⟨hp0, by omega, h0, h1, h2, h4, h5, h6, ⟨h3, Row.nil _ _ _, Row.nil _ _ _, Row.nil _ _ _, Row.nil _ _ _, fun k hk => by simp [Value.ownBlock] at hk, fun k hk => by simp [Value.ownBlock] at hk, fun k hk => by simp [Value.ownBlock] at hk, fun k hk => by simp [Value.ownBlock] at hk, fun k hk => by simp [Value.ownBlock] at hk, by omega⟩⟩, go0, fine0, .inl rfl, .inl rfl, by omega⟩
  have HI := Lib.hid hpi0
  have HM := Lib.hid hmx
  have H7 := Lib.hid h7
  have H8 := Lib.hid h8
  have H9 := Lib.hid h9
  have HP := Lib.hid hp0
  have HZ := Lib.hid hsz
  clear hpi0 hw' h0 h1 h2 h3 h4 h5 h6 h7 h8 h9 hp0 hmx hsz
  gi_wp2
  rename_i K hKont
  have HK := Lib.hid hKont
  clear hKont
  simp only [Nat.add_assoc, Nat.reduceAdd]
  refine rangeCell rfl (by decide) (gf := 63) (lb := #[.pointer (some ⟨w.heap.size + 8, 0, none⟩), .pointer (some ⟨w.heap.size + 7, 0, none⟩), .pointer (some ⟨w.heap.size + 9, 0, none⟩)]) rfl trivial (enters_of Tryd.func63 (by kernel_rfl) rfl)
    (encs := fun x : List UInt8 => #[.string ⟨x.toArray⟩]) (B := w.heap.size + 7) (by have := HZ.out; omega) (Kp := KeptB (fun k => k = w.heap.size + 7 ∨ k = w.heap.size + 8 ∨ k = w.heap.size + 9)) (xs := linesL t)
    (split1_ t (w.heap.size + 8) (w.heap.size + 7) (w.heap.size + 9) _ w' H7.out H8.out H9.out (by omega) (by omega) (by omega))
    KeptB.trans (fun W l o' hl => KeptB.put o' (n := w.heap.size + 10) (by rintro k (rfl | rfl | rfl) <;> omega) (by have := HZ.out; omega)) (fun _ => rfl)
    (fun pre W => ∃ s n z x y v0 v1 v5 v6, PI w pre s n z x y v0 v1 v5 v6 W) (fun c pre W => c = Code.ret ∧ PX w t W)
    (by rintro pre X Y row ⟨s, n, z, x, y, v0, v1, v5, v6, h⟩ hg hr; exact ⟨s, n, z, x, y, v0, v1, v5, v6, h.grown hg (by rw [← HZ.out]; exact hr)⟩)
    (by rintro c pre X Y row ⟨hc, h⟩ hg hr; exact ⟨hc, h.grown hg (by rw [← HZ.out]; exact hr)⟩)
    (by rintro pre X v ⟨s, n, z, x, y, v0, v1, v5, v6, h⟩; exact ⟨s, n, z, x, y, v0, v1, v5, v6, h.box v⟩)
    ⟨_, _, _, _, _, _, _, _, _, HI.out⟩
    (fun x => { tmps := #[.string ⟨t.toArray⟩, undef, .pointer (some ⟨w.heap.size, 0, none⟩), .pointer (some ⟨w.heap.size + 1, 0, none⟩), .pointer (some ⟨w.heap.size + 2, 0, none⟩), .pointer (some ⟨w.heap.size + 4, 0, none⟩), .pointer (some ⟨w.heap.size + 5, 0, none⟩), .pointer (some ⟨w.heap.size + 6, 0, none⟩), .string ⟨x.toArray⟩, undef,
      .string ⟨t.toArray⟩, .int .i64 t.length, .bool (decide (1048576 < (t.length : Int))), undef, .agg #[.slice none 0 0, .slice none 0 0, .int .i64 0, .bool false, .int .i64 0, .slice none 0 0, .slice none 0 0, .int .i64 0, .int .i64 0], .pointer (some ⟨w.heap.size + 3, 0, none⟩), .string ⟨t.toArray⟩,
      .func (.func 63) #[] #[.pointer (some ⟨w.heap.size + 8, 0, none⟩), .pointer (some ⟨w.heap.size + 7, 0, none⟩), .pointer (some ⟨w.heap.size + 9, 0, none⟩)], .string ⟨x.toArray⟩, undef, undef, undef, undef, undef, undef, undef, undef, undef, undef, undef, undef, undef, undef, undef, undef, undef, undef, undef, undef, undef, undef, undef, undef, undef, undef, undef, undef, undef, undef, undef, undef, undef, undef, undef, undef], defers := [] }) ?assign ?body ?done ?stop
  case assign =>
    intro l x W K hK
    gi_wp2
    exact hK
  case body =>
    rintro l pre x post W hxs ⟨s, n, z, xx, y, v0, v1, v5, v6, hi⟩
    have hsum := lines_sum t
    obtain ⟨hw1, hw2⟩ := wl_ge (linesL t)
    have hxl : x.length ≤ t.length := by have := hw2 x (by rw [hxs]; simp); omega
    have hpl : pre.length + 1 ≤ t.length + 1 := by have := hw1; rw [hxs] at this; simp at this; rw [hxs] at hsum; omega
    have hwr : wrap64 ((pre.length : Int) + 1) = (pre.length : Int) + 1 := by unfold wrap64; omega
    have hmixed : Tryd.prog.follows .mixedOrders = true := by kernel_rfl
    have HIn := Lib.hid hi
    have HXS := Lib.hid hxs
    have c6 := hi.m.cno.cell 0
    have f6 := hi.m.cno.frozen 0
    clear hi hxs hsum hw1 hw2
    gi_wp2
    refine ⟨trivial, (CallsIn.inRound l (callsIn_wide.2 (words2_ x _ (by omega)))).mono ?_⟩
    rintro e w2 ⟨A, c, rfl, hsees, hA, hk⟩
    have hm1 := HIn.out.m.setNo (pre.length + 1) (u := (pre.length : Int) + 1) (by omega)
    have hm2 := hm1.pure hk
    have hk1 : StepK w.heap.size W w2 := (StepK.set_ W (k := w.heap.size + 6) (i := 0) (by omega) _).trans (StepK.pure hk hm1.big)
    have HK2 := Lib.hid hk1
    have HM2 := Lib.hid hm2
    have hA2 : ∀ ad, A = some ad → ∃ g, ad = ⟨g, 0, none⟩ ∧ w.heap.size + 10 ≤ g := by
      intro ad h
      obtain ⟨g, h1, h2⟩ := hA ad h
      have hb := hm1.big
      exact ⟨g, h1, by omega⟩
    have HA := Lib.hid hA2
    have HMX := Lib.hid (keepc HM.out hm2.low)
    clear hk hk1 hm1 hm2 hA hA2
    obtain ⟨nw, hnw⟩ : ∃ nw, (wordsL x).length = nw := ⟨_, rfl⟩
    rw [hnw] at hsees ⊢
    rcases hws : wordsL x with _ | ⟨a, r⟩
    · rw [hws] at hsees hnw
      obtain rfl : nw = 0 := by simpa using hnw.symm
      have hd : dead (wordsL x) = true := by rw [hws]; rfl
      have HD := Lib.hid hd
      clear hsees hd hws c6 f6 hnw
      gi_wp2
      exact ⟨HK2.out.others, HK2.out.boxes, ⟨s, n, z, xx, y, v0, v1, v5, v6, HIn.out.skip HD.out HM2.out⟩⟩
    · have hane : a ≠ [] := words_ne x a (by rw [hws]; simp)
      obtain ⟨c0, a', rfl⟩ : ∃ c0 a', a = c0 :: a' := by cases a with | nil => exact absurd rfl hane | cons c l => exact ⟨c, l, rfl⟩
      obtain ⟨ad, wd, rfl, hwd, cw⟩ := word_at hsees (show 0 < nw by rw [hws] at hnw; simp at hnw; omega)
      rw [hws] at hwd
      simp at hwd
      subst hwd
      obtain ⟨g, rfl, hg⟩ := HA.out ad rfl
      rw [add_flat] at cw
      have hn1 : 1 ≤ nw := by rw [hws] at hnw; simp at hnw; omega
      have hn2 : nw ≤ 1000000 := by have := (wordsF_len x []).1; unfold wordsL at hnw; omega
      have hb : ∀ h', (⟨(c0 :: a').toArray⟩ : ByteArray)[0]'h' = c0 := fun _ => rfl
      have HS := Lib.hid hsees
      have HWS := Lib.hid hws
      have HNW := Lib.hid hnw
      clear hsees hws hnw hane c6 f6 hwr
      by_cases hd : c0 = 35
      · have q1 : ((c0.toNat : Int) == 35) = true := by rw [hd]; rfl
        have HD := Lib.hid (show dead (wordsL x) = true by rw [HWS.out, hd]; rfl)
        clear hd
        gi_wp2
        exact ⟨HK2.out.others, HK2.out.boxes, ⟨s, n, z, xx, y, v0, v1, v5, v6, HIn.out.skip HD.out HM2.out⟩⟩
      · have q1 : ((c0.toNat : Int) == 35) = false := by
          have : c0.toNat ≠ 35 := fun h => hd (UInt8.toNat_inj.1 h)
          simp; omega
        have HD := Lib.hid (show dead (wordsL x) = false by rw [HWS.out]; simp [dead, hd])
        have c5 := HM2.out.cn.cell 0
        have f5 := HM2.out.cn.frozen 0
        have hn4 := HIn.out.hn
        have hwn : wrap64 ((n : Int) + 1) = (n : Int) + 1 := by unfold wrap64; omega
        have hz2 := HM2.out.cn.lt
        have HM3 := Lib.hid (HM2.out.setN (n + 1) (u := (n : Int) + 1) (by omega))
        have HK3 := Lib.hid (HK2.out.trans (StepK.set_ w2 (k := w.heap.size + 5) (i := 0) (by omega) (.int .i64 ((n : Int) + 1))))
        clear hd
        by_cases hfull : 400 < n + 1
        · have HW := Lib.hid (HIn.out.full t HXS.out HD.out hfull)
          have hf4 : 400 < (n : Int) + 1 := by omega
          gi_wp2
          generalize w2.setCell ⟨w.heap.size + 5, 0, none⟩ (.int .i64 ((n : Int) + 1)) = w3 at *
          have o0 := HM3.out.out0.cell
          have p0 := HM3.out.out0.frozen
          have o1 := HM3.out.out1.cell 0
          have p1 := HM3.out.out1.frozen 0
          have o2 := HM3.out.out2.cell 0
          have p2 := HM3.out.out2.frozen 0
          have o6 := HM3.out.cno.cell 0
          gi_region
          all_goals
            clear o0 p0 o1 p1 o2 p2 o6
            gi_wp2
            exact ⟨(HK3.out.trans (StepK.err w3 w.heap.size _ 13)).others, rfl, HM3.out.po.err t HW.out⟩
        · have hf4 : ¬ (400 < (n : Int) + 1) := by omega
          have c4 := HM2.out.ptr.cell 0
          have HS3 := Lib.hid (HS.out.off (i := 0) (show g ≠ w.heap.size + 5 by omega) (.int .i64 ((n : Int) + 1)))
          gi_wp2
          generalize w2.setCell ⟨w.heap.size + 5, 0, none⟩ (.int .i64 ((n : Int) + 1)) = w3 at *
          have hfi := HIn.out.fine.count
          have HMX3 := keepc HM.out HM3.out.low
          have hlw : ∀ a ∈ wordsL x, a.length ≤ 100000 := fun a ha => by have := (wordsF_len x []).2 a ha; simp at this; omega
          refine ⟨trivial, (CallsIn.inRound l (callsIn_wide.2 (line_ (w.heap.size + 10) (w.heap.size + 3) v0 v1 v5 v6 s xx y (some ⟨g, 0, none⟩) nw c w2.heap.size (wordsL x) w3 HM3.out.rd HM3.out.big HS3.out (fun ad h => by cases h; exact ⟨g, rfl, by omega⟩) hn2 hlw HIn.out.hx HIn.out.hy (by omega) (by omega) (by omega) m HMX3))).mono ?_⟩
          clear c4
          rintro e w4 ⟨hk4, h4⟩
          cases hlv : lineV s (decide (xx = 1)) (decide (y = 1)) (wordsL x) with
          | none =>
            rw [hlv] at h4
            subst h4
            have HW := Lib.hid (HIn.out.wrong t HXS.out HD.out (by omega) hlv)
            have ht4 := HM3.out.turns
            have HM4 := Lib.hid (HM3.out.lost hk4)
            have HK4 := Lib.hid (HK3.out.trans (HM3.out.stepK hk4))
            clear hk4 ht4 hlv
            have o0 := HM4.out.out0.cell
            have p0 := HM4.out.out0.frozen
            have o1 := HM4.out.out1.cell 0
            have p1 := HM4.out.out1.frozen 0
            have o2 := HM4.out.out2.cell 0
            have p2 := HM4.out.out2.frozen 0
            have o6 := HM4.out.cno.cell 0
            gi_wp2
            gi_region
            all_goals
              clear o0 p0 o1 p1 o2 p2 o6
              gi_wp2
              exact ⟨(HK4.out.trans (StepK.err w4 w.heap.size _ 3)).others, rfl, HM4.out.err t HW.out⟩
          | some q =>
            rw [hlv] at h4
            obtain ⟨he, v0', v1', v5', v6', x', y', hr, hx', hy', hq1, hq2⟩ := h4
            subst he
            obtain ⟨s', sc', cc'⟩ := q
            simp only at hr hq1 hq2
            subst hq1; subst hq2
            have HM4 := Lib.hid (HM3.out.line hk4 hr)
            have HK4 := Lib.hid (HK3.out.trans (HM3.out.stepK hk4))
            have HI4 := Lib.hid (HIn.out.take HD.out (by omega) hlv hx' hy' HM4.out)
            clear hk4 hlv hr
            gi_wp2
            exact ⟨HK4.out.others, HK4.out.boxes, ⟨_, _, _, _, _, _, _, _, _, HI4.out⟩⟩
  case done =>
    rintro D W hD ⟨s, n, z, x, y, v0, v1, v5, v6, hi⟩ hW
    have hgo := hi.go []
    rw [List.append_nil] at hgo
    have HG := Lib.hid (show parseS t = if x = 1 then (s, 0, 0) else (sc0, 0, 14) by
      unfold parseS
      rw [hgo, parseGo]
      simp)
    have HIn := Lib.hid hi
    have HW := Lib.hid hW
    have c4 := hi.m.ptr.cell 0
    have c7 := hi.m.rd.blk.cell 7
    have hx := hi.hx
    have o0 := hi.m.out0.cell
    have p0 := hi.m.out0.frozen
    have o1 := hi.m.out1.cell 0
    have p1 := hi.m.out1.frozen 0
    have o2 := hi.m.out2.cell 0
    have p2 := hi.m.out2.frozen 0
    clear hi hW hgo
    refine HK.out _ _ ?_
    obtain ⟨a0, k0, rfl, _⟩ := HIn.out.m.rd.r0.form
    obtain ⟨a1, k1, rfl, _⟩ := HIn.out.m.rd.r1.form
    obtain ⟨a5, k5, rfl, _⟩ := HIn.out.m.rd.r5.form
    obtain ⟨a6, k6, rfl, _⟩ := HIn.out.m.rd.r6.form
    have hHD : w.heap.size + 3 ≤ D := by have := HZ.out; omega
    rcases hx with rfl | rfl
    · have ht : parseS t = (sc0, 0, 14) := HG.out
      have HT := Lib.hid ht
      clear ht
      gi_wp2
      obtain ⟨b0, b1, b2, b3⟩ := HIn.out.m.po.out (.slice none 0 0) (.slice none 0 0) (.int .i64 0) (.bool false) (.int .i64 0) (.slice none 0 0) (.slice none 0 0) 0 14
      refine ends_three (D := D) (H := w.heap.size) rfl rfl rfl rfl hHD ((StepK.out W w.heap.size _ _ _ _ _ _ _ 0 14).others.same D _ HW.out rfl) b0 rfl b1 b2 ?_
      unfold ParsePost
      rw [HT.out]
      exact ⟨_, _, _, _, rfl, ScR.nil _, b3.grown (grownBy_put _ _ _) (fun k hk => .inr (by cases hk; omega))⟩
    · have ht : parseS t = (s, 0, 0) := HG.out
      have HT := Lib.hid ht
      clear ht
      have d0 := HIn.out.m.rd.blk.cell 0
      have d1 := HIn.out.m.rd.blk.cell 1
      have d2 := HIn.out.m.rd.blk.cell 2
      have d3 := HIn.out.m.rd.blk.cell 3
      have d4 := HIn.out.m.rd.blk.cell 4
      have d5 := HIn.out.m.rd.blk.cell 5
      have d6 := HIn.out.m.rd.blk.cell 6
      gi_wp2
      obtain ⟨b0, b1, b2, b3⟩ := HIn.out.m.po.out (.slice a0 s.pats.length k0) (.slice a1 s.parts.length k1) (.int .i64 s.table) (.bool s.skip) (.int .i64 s.every) (.slice a5 s.edits.length k5) (.slice a6 s.certs.length k6) 0 0
      have hK := (StepK.out W w.heap.size (.slice a0 s.pats.length k0) (.slice a1 s.parts.length k1) (.int .i64 s.table) (.bool s.skip) (.int .i64 s.every) (.slice a5 s.edits.length k5) (.slice a6 s.certs.length k6) 0 0).others.same D _ HW.out rfl
      refine ends_three (D := D) (H := w.heap.size) rfl rfl rfl rfl hHD hK b0 rfl b1 b2 ?_
      unfold ParsePost
      rw [HT.out]
      refine ⟨_, _, _, _, rfl, ?_, b3.grown (grownBy_put _ _ _) (fun k hk => .inr (by cases hk; omega))⟩
      exact ((HIn.out.m.rd.out (by omega) (by omega) _ _ _ _ _ _ _ 0 0).grownX (grownBy_put _ _ _) (fun r hr => by cases hr; exact ⟨_, hK, rfl⟩)).views
  case stop =>
    rintro D c pre x post W hD hxs ⟨rfl, hx⟩ hW
    have HX := Lib.hid hx
    have hHD : w.heap.size + 3 ≤ D := by have := HZ.out; omega
    clear hx
    gi_wp2
    refine ends_three (D := D) (H := w.heap.size) rfl rfl rfl rfl hHD hW HX.out.out0 rfl HX.out.out1 HX.out.out2 ?_
    unfold ParsePost
    rw [HX.out.none_]
    exact ⟨_, _, _, _, rfl, ScR.nil _, HX.out.low.grown (grownBy_put _ _ _) (fun k hk => .inr (by cases hk; omega))⟩

end Go.Proofs.YtjcjmjnajhkdaaaDoor
