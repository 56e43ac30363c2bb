/- A range over an iterator that keeps its state in a cell of its own; no condition but those it names. -/
import Derived.RangeFuncNested
import Derived.RangeFuncBound
import Derived.Shelf.Abstract
import Derived.OwnWalkIn
import Derived.Test.YtjcjmjnajhkdaaaDoorMem
namespace Go.Proofs.YtjcjmjnajhkdaaaDoor
open Go.RowKit
set_option linter.unusedVariables false
set_option linter.unusedSimpArgs false
set_option maxRecDepth 100000

/-- What an iterator promises that writes block B's first cell between two rounds. -/
def SeqCell {α : Type} (F : Fence) (n : Nat) (P : Program) (g : Nat) (lb : Array Value) (encs : α → Array Value) (B : Nat) (Kp : World → World → Prop) (xs : List α) (w : World) : Prop :=
  ∀ (l : Nat) (J Jx : List α → World → Prop) (W : World), Below w.heap.size w W →
    (∀ s X v, J s X → J s (X.setCell ⟨B, 0, none⟩ v)) → AbidesFrom W.heap.size J → AbidesFrom W.heap.size Jx →
    (∀ pre x post X, xs = pre ++ x :: post → J pre X → YieldAt F (n - 1) P l (encs x) X fun e X' =>
      (e = .returned (.bool true) ∧ J (pre ++ [x]) X' ∧ Kp X X') ∨ (e = .returned (.bool false) ∧ Jx (pre ++ [x]) X')) →
    J [] W →
    CallsIn F n P g (#[.func (.yield l) #[] #[]] ++ lb) W fun e X' => (∃ v, e = .returned v) ∧ (J xs X' ∨ (∃ pre x post, xs = pre ++ x :: post ∧ Jx (pre ++ [x]) X'))

/-- Where the two blocks of the loop's book-keeping lie, and what they hold. -/
structure Booked (w : World) (r : Loop) (W : World) : Prop where
  book : W.heap[w.heap.size + 1]? = some (.loop r)
  late : W.heap[w.heap.size]? = some (.deferred (some []))

theorem Booked.lt {w W : World} {r : Loop} (h : Booked w r W) : w.heap.size + 1 < W.heap.size := (Array.getElem?_eq_some_iff.1 h.book).1
theorem Booked.put {w W : World} {r : Loop} (h : Booked w r W) (r' : Loop) : Booked w r' (W.putObj (w.heap.size + 1) (.loop r')) :=
  ⟨World.putObj_heap_same h.lt, (World.putObj_heap_other (by omega)).trans h.late⟩
theorem Booked.grown {w W W' : World} {r : Loop} {row : Option Nat} (h : Booked w r W) (hg : W.grownBy W' row) (hr : ∀ k, row = some k → ∃ o : Obj, W.heap[k]? = some o ∧ o.isWalk = true) : Booked w r W' :=
  ⟨(grownBy_keeps hg hr h.book rfl).trans h.book, (grownBy_keeps hg hr h.late rfl).trans h.late⟩
theorem Booked.others {w W W' : World} {r : Loop} (h : Booked w r W) (hk : KeepsOthers W W') : Booked w r W' := ⟨hk.same _ _ h.book rfl, hk.same _ _ h.late rfl⟩
theorem Booked.set {w W : World} {r : Loop} (h : Booked w r W) {B : Nat} (hB : B < w.heap.size) (v : Value) : Booked w r (W.setCell ⟨B, 0, none⟩ v) :=
  ⟨(Below.heap_setCell _ _ _ _ (by show _ ≠ B; omega)).trans h.book, (Below.heap_setCell _ _ _ _ (by show _ ≠ B; omega)).trans h.late⟩

/-- What the round's end does, at whatever jump. -/
theorem Booked.ends {w W : World} {r : Loop} {P : Program} (h : Booked w r W) (jump : Option Code) :
    (Instr.endRound (w.heap.size + 1) jump).run P W = .ok (.bool jump.isNone) (W.putObj (w.heap.size + 1) (.loop { r with state := if jump.isNone then .ready else .done, pending := jump })) :=
  run_endRound jump h.book

/-- The statement 'for .. range', over such an iterator. -/
theorem rangeCell {F : Fence} {n : Nat} {P : Program} {α : Type} {g : Operand} {ps : Array Tmp} {assign body : Code} {Q : Exit → Act → World → Prop} {a : Act} {w : World}
    (hro : F.round = none) (h1 : 1 ≤ n) {gf : Nat} {lb : Array Value} (hg : a.eval g = .func (.func gf) #[] lb) (hFg : F.fn gf) (eg : ∀ args w, (callFunc gf args).run P w = .ok (.enter gf args) w)
    {encs : α → Array Value} {B : Nat} (hB : B < w.heap.size) {Kp : World → World → Prop} {xs : List α} (hseq : SeqCell F (n - 1) P gf lb encs B Kp xs w)
    (hKt : ∀ {A B C : World}, Kp A B → Kp B C → Kp A C) (hKb : ∀ (W : World) (l : Nat) (o' : Obj), w.heap.size ≤ l → Kp W (W.putObj l o')) (hps : ∀ x, (encs x).size = ps.size)
    (I : List α → World → Prop) (Ix : Code → List α → World → Prop) (hI : OwnFrom w.heap.size I) (hIx : ∀ c, OwnFrom w.heap.size (Ix c)) (hIB : ∀ s X v, I s X → I s (X.setCell ⟨B, 0, none⟩ v)) (h0 : I [] w) (a₁ : α → Act)
    (hassign : ∀ (l : Nat) (x : α) (W : World) (K : Act → World → Prop), K (a₁ x) W →
      assign.wpIn (F.inRound l) (n - 1 - 1) P (Exit.then K (fun _ _ _ => False)) { tmps := (ps.zip (encs x)).foldl (fun t (p, v) => t.setIfInBounds p v) a.tmps, defers := [] } W)
    (hbody : ∀ (l : Nat) (pre : List α) (x : α) (post : List α) (W : World), xs = pre ++ x :: post → I pre W → body.wpIn (F.inRound l) (n - 1 - 1) P (ownPostK Kp I Ix (pre ++ [x]) W) (a₁ x) W)
    (hdone : ∀ (D : Nat) (W : World), w.heap.size ≤ D → I xs W → W.heap[D]? = some (.deferred (some [])) → Q .normal { a with defers := { target := .collected D, args := #[] } :: a.defers } W)
    (hstop : ∀ (D : Nat) (c : Code) (pre : List α) (x : α) (post : List α) (W : World), w.heap.size ≤ D → xs = pre ++ x :: post → Ix c (pre ++ [x]) W → W.heap[D]? = some (.deferred (some [])) → c.wpIn F n P Q { a with defers := { target := .collected D, args := #[] } :: a.defers } W) :
    (Code.rangeFunc g ps assign body).wpIn F n P Q a w := by
  refine wpIn_rangeFunc fun fn hfn => ?_
  rw [hro]
  obtain ⟨rc, hrc⟩ : ∃ rc : LoopState → Option Code → Loop, rc = fun st pe => { state := st, pending := pe, fn, tmps := a.tmps, params := ps, assign, body, defers := w.heap.size } := ⟨_, rfl⟩
  obtain ⟨W1, hW1⟩ : ∃ W1, (w.alloc (.deferred (some []))).alloc (.loop (rc .ready none)) = W1 := ⟨_, rfl⟩
  have hbk : Booked w (rc .ready none) W1 := by
    refine ⟨?_, ?_⟩
    · rw [← hW1]; have := World.alloc_heap_new (w.alloc (.deferred (some []))) (.loop (rc .ready none)); rwa [World.size_alloc] at this
    · rw [← hW1]; exact (Below.heap_alloc _ _ _ (by simp)).trans (World.alloc_heap_new w _)
  have hI1 : I [] W1 := by rw [← hW1]; exact hI.alloc _ (hI.alloc _ h0)
  have hlow : Below w.heap.size w W1 := by rw [← hW1]; exact ((Below.refl _ w).alloc (Nat.le_refl _) _).alloc (by simp) _
  have hsz : w.heap.size ≤ W1.heap.size := hlow.size
  have hrow : ∀ {A : World} {row : Option Nat}, (∀ r, row = some r → W1.heap.size ≤ r ∧ ∃ o : Obj, A.heap[r]? = some o ∧ o.isWalk = true) → (∀ r, row = some r → w.heap.size ≤ r ∧ ∃ o : Obj, A.heap[r]? = some o ∧ o.isCells = false) :=
    fun hr r e => by obtain ⟨h2, o, ho, hw⟩ := hr r e; exact ⟨Nat.le_trans hsz h2, o, ho, Obj.not_cells_of_walk hw⟩
  refine ⟨w.heap.size + 1, [{ target := .collected w.heap.size, args := #[] }], W1, { target := .fn (.func gf) lb, args := #[.func (.yield (w.heap.size + 1)) #[] #[]] }, W1, gf,
    #[.func (.yield (w.heap.size + 1)) #[] #[]] ++ lb, W1, ?_, ?_, ?_, ?_, fun _ => h1, ?_⟩
  · rw [← hW1, hrc]; exact run_enterLoop_outer _ _ _ _ _
  · simp only [resolve, hg]
    simp [go_sem]
  · intro f' hf'; simp [Target.leads] at hf'; subst hf'; exact hFg
  · simp [invoke, go_sem, eg]
  refine (hseq (w.heap.size + 1) (fun pre W => I pre W ∧ Booked w (rc .ready none) W) (fun pre W => ∃ c, Ix c pre W ∧ Booked w (rc .done (some c)) W) W1 hlow
    (fun s X v h => ⟨hIB s X v h.1, h.2.set hB v⟩)
    (fun s A A' row hs hg' hr => ⟨hI s A A' row hs.1 hg' (hrow hr), hs.2.grown hg' fun r e => (hr r e).2⟩)
    (fun s A A' row hs hg' hr => by
      obtain ⟨c, hc, hk⟩ := hs
      exact ⟨c, hIx c s A A' row hc hg' (hrow hr), hk.grown hg' fun r e => (hr r e).2⟩) ?_ ⟨hI1, hbk⟩).mono ?_
  · rintro pre x post W hlen ⟨hi, hk⟩
    have hy := run_yield (P := P) (args := encs x) hk.book (by rw [hrc]; exact hps x)
    have hbeg := run_beginRound (P := P) hk.book (by rw [hrc])
    have hk2 := hk.put (rc .busy none)
    have e1 : ({ rc .ready none with state := .busy } : Loop) = rc .busy none := by rw [hrc]
    rw [e1] at hbeg
    have hi2 : I pre (W.putObj (w.heap.size + 1) (.loop (rc .busy none))) := hI.putObj _ hi (by omega) hk.book rfl
    have hK2 : Kp W (W.putObj (w.heap.size + 1) (.loop (rc .busy none))) := hKb _ _ _ (by omega)
    rw [show (rc .ready none).fn = fn from by rw [hrc], show (rc .ready none).tmps = a.tmps from by rw [hrc], show (rc .ready none).params = ps from by rw [hrc], show (rc .ready none).assign = assign from by rw [hrc], show (rc .ready none).body = body from by rw [hrc]] at hy
    refine ⟨fn, _, assign, body, hy, roundIn_of_wpIn hfn (hassign _ x W _ ⟨_, hbeg, ?_⟩)⟩
    refine wpIn_mono (hbody _ pre x post _ hlen hi2) ?_
    have eN : ∀ j : Option Code, ({ rc .busy none with state := if j.isNone then .ready else .done, pending := j } : Loop) = rc (if j.isNone then .ready else .done) j := fun j => by rw [hrc]
    have away : ∀ (c : Code) (X : World), KeepsOthers (W.putObj (w.heap.size + 1) (.loop (rc .busy none))) X ∧ Ix c (pre ++ [x]) X → ∃ v w', (Instr.endRound (w.heap.size + 1) (some c)).run P X = .ok v w' ∧
        ((Ending.returned v = .returned (.bool true) ∧ (I (pre ++ [x]) w' ∧ Booked w (rc .ready none) w') ∧ Kp W w') ∨ (Ending.returned v = .returned (.bool false) ∧ ∃ c, Ix c (pre ++ [x]) w' ∧ Booked w (rc .done (some c)) w')) := by
      rintro c X ⟨hk3, hx3⟩
      have hb3 := hk2.others hk3
      have he := hb3.ends (P := P) (some c)
      rw [eN] at he
      exact ⟨_, _, he, .inr ⟨rfl, c, (hIx c).putObj _ hx3 (by omega) hb3.book rfl, hb3.put _⟩⟩
    rintro e a3 X hp
    cases e with
    | normal =>
      obtain ⟨hk3, hkp3, hi3⟩ := hp
      have hb3 := hk2.others hk3
      have he := hb3.ends (P := P) none
      rw [eN] at he
      exact ⟨_, _, he, .inl ⟨rfl, ⟨hI.putObj _ hi3 (by omega) hb3.book rfl, hb3.put _⟩, hKt (hKt hK2 hkp3) (hKb _ _ _ (by omega))⟩⟩
    | ret => exact away _ X hp
    | exit id => exact away _ X hp
    | goto t => exact away _ X hp
    | panic ch => exact hp.elim
    | outgrown => exact hp.elim
  · rintro e W2 ⟨⟨v, rfl⟩, (⟨hi, hk⟩ | ⟨pre, x, post, hSp, c, hi, hk⟩)⟩
    · have he := run_endLoop (P := P) hk.book (by rw [hrc]; simp)
      refine ⟨(rc .ready none).pending, _, he, ?_⟩
      rw [show (rc .ready none).pending = none from by rw [hrc]]
      exact hdone _ _ (Nat.le_refl _) (hI.putObj _ hi (by omega) hk.book rfl) ((World.putObj_heap_other (by omega)).trans hk.late)
    · have he := run_endLoop (P := P) hk.book (by rw [hrc]; simp)
      refine ⟨(rc .done (some c)).pending, _, he, ?_⟩
      rw [show (rc .done (some c)).pending = some c from by rw [hrc]]
      exact hstop _ c pre x post _ (Nat.le_refl _) hSp ((hIx c).putObj _ hi (by omega) hk.book rfl) ((World.putObj_heap_other (by omega)).trans hk.late)

end Go.Proofs.YtjcjmjnajhkdaaaDoor
