/- The words of a line, by bytes: what FieldsFunc at a blank gives, too; no condition; The same texts? And the words of a line, by the program and by the reference; no condition but the sizes -/
import Derived.Test.YtjcjmjnajhkdaaaDoorMem
import Derived.Test.YtjcjmjnajhkdaaaDoorProg
import Derived.Lib.Builder
import Derived.Lib.AppendStr
import Derived.Lib.UnsafeStr
import Derived.Laws.Externs
import Derived.Shelf.Strings.Builder1
import Derived.Test.YtjcjmjnajhkdaaaDoorShelf
import Derived.Lib.ConvBytes
import Derived.Lib.FieldsP
import Derived.Lib.SpaceUEq
-- part EscL
namespace Go.Proofs.YtjcjmjnajhkdaaaDoor
set_option maxRecDepth 100000
/-- The plain law of layer 5 (escape): no program in sight. -/
def hexL : List UInt8 := [48, 49, 50, 51, 52, 53, 54, 55, 56, 57, 97, 98, 99, 100, 101, 102]
def hexd (n : Nat) : UInt8 := hexL.getD n 0
def codedL (c : UInt8) : List UInt8 := [92, 120, hexd (c.toNat / 16), hexd (c.toNat % 16)]
def plainB (c : UInt8) : Bool := decide (32 < c.toNat) && decide (c.toNat ≤ 126) && decide (c.toNat ≠ 92)
def signL (c : UInt8) : List UInt8 := if c.toNat = 92 then [92, 92] else if plainB c then [c] else codedL c
def signsL (l : List UInt8) : List UInt8 := l.flatMap signL
def quoteL (l : List UInt8) : List UInt8 := if l = [] then [45] else if l = [45] then codedL 45 else signsL l

/-- The first byte of a text, and what is behind it: as escape.next goes. -/
def nextL (l : List UInt8) : Option (UInt8 × List UInt8) :=
  match l with
  | [] => none
  | a :: r =>
    if a ≠ 92 then some (a, r) else
    match r with
    | [] => none
    | b :: r2 => if b = 92 then some (92, r2) else
      match r2 with
      | [] => none
      | [_] => none
      | h :: k :: r4 => if b ≠ 120 then none else
        match hexL.idxOf? h, hexL.idxOf? k with
        | some x, some y => some (UInt8.ofNat (x * 16 + y), r4)
        | _, _ => none

theorem all_bytes {p : UInt8 → Prop} (h : ∀ n : Fin 256, p (UInt8.ofNat n.val)) (c : UInt8) : p c := by
  have := h ⟨c.toNat, c.toNat_lt⟩
  simpa using this

theorem next_sign (c : UInt8) (r : List UInt8) : nextL (signL c ++ r) = some (c, r) := by
  have h : ∀ c : UInt8, (signL c = [92, 92] ∧ c = 92) ∨ (signL c = [c] ∧ c ≠ 92) ∨ (∃ h k x y, signL c = [92, 120, h, k] ∧ hexL.idxOf? h = some x ∧ hexL.idxOf? k = some y ∧ c = UInt8.ofNat (x * 16 + y)) := by
    intro c
    unfold signL
    split
    · exact .inl ⟨rfl, UInt8.toNat_inj.1 (by simpa using ‹_›)⟩
    · split
      · exact .inr (.inl ⟨rfl, fun e => by subst e; simp at *⟩)
      · refine .inr (.inr ⟨_, _, c.toNat / 16, c.toNat % 16, rfl, ?_, ?_, ?_⟩)
        · exact all_bytes (p := fun c => hexL.idxOf? (hexd (c.toNat / 16)) = some (c.toNat / 16)) (by decide +kernel) c
        · exact all_bytes (p := fun c => hexL.idxOf? (hexd (c.toNat % 16)) = some (c.toNat % 16)) (by decide +kernel) c
        · rw [show c.toNat / 16 * 16 + c.toNat % 16 = c.toNat by omega]; simp
  rcases h c with ⟨e, rfl⟩ | ⟨e, hn⟩ | ⟨h, k, x, y, e, h1, h2, rfl⟩
  · rw [e]; simp [nextL]
  · rw [e]; simp [nextL, hn]
  · rw [e]; simp [nextL, h1, h2]

theorem sign_ne (c : UInt8) : signL c ≠ [] := by
  unfold signL codedL; split; · simp
  · split <;> simp

/-- A text starts with at most one sign. -/
theorem sign_once {c c' : UInt8} {r r' : List UInt8} (h : signL c ++ r = signL c' ++ r') : c = c' ∧ r = r' := by
  have h1 := next_sign c r
  rw [h, next_sign] at h1
  simpa [eq_comm] using h1

theorem signs_inj : ∀ {a b : List UInt8}, signsL a = signsL b → a = b
  | [], [], _ => rfl
  | [], c :: b, h => by simp [signsL, sign_ne] at h
  | c :: a, [], h => by simp [signsL, sign_ne] at h
  | c :: a, d :: b, h => by
    simp only [signsL, List.flatMap_cons] at h
    obtain ⟨rfl, hr⟩ := sign_once h
    rw [signs_inj (a := a) (b := b) hr]

theorem signs_append (a b : List UInt8) : signsL (a ++ b) = signsL a ++ signsL b := by simp [signsL]
theorem signs_one (c : UInt8) : signsL [c] = signL c := by simp [signsL]

theorem signs_cut : ∀ {a b r : List UInt8}, signsL b = signsL a ++ r → ∃ d, b = a ++ d ∧ signsL d = r
  | [], b, r, h => ⟨b, rfl, by simpa [signsL] using h⟩
  | c :: a, [], r, h => by simp [signsL, sign_ne] at h
  | c :: a, d :: b, r, h => by
    simp only [signsL, List.flatMap_cons, List.append_assoc] at h
    obtain ⟨rfl, hr⟩ := sign_once h
    obtain ⟨x, e, hx⟩ := signs_cut (a := a) (b := b) (r := r) hr
    exact ⟨x, by rw [e]; rfl, hx⟩

theorem quote_inj {a b : List UInt8} (h : quoteL a = quoteL b) : a = b := by
  have h45 : signsL [45] = [45] := by decide
  have h2d : ∀ l, signsL l = codedL 45 → False := by
    intro l hl
    cases l with
    | nil => simp [signsL, codedL] at hl
    | cons c r =>
      have h1 := next_sign c (signsL r)
      have : signL c ++ signsL r = codedL 45 := by simpa [signsL] using hl
      rw [this] at h1
      have h3 : nextL (codedL 45) = some (45, []) := by decide
      rw [h3] at h1
      injection h1 with h1; injection h1 with h1 h4
      subst h1
      rw [← h4] at this
      revert this; decide
  have key : ∀ a : List UInt8, a ≠ [] → a ≠ [45] → quoteL a ≠ [45] ∧ quoteL a ≠ codedL 45 := by
    intro a h1 h2
    unfold quoteL; rw [if_neg h1, if_neg h2]
    exact ⟨fun h => h2 (signs_inj (h.trans h45.symm)), fun h => h2d a h⟩
  have q0 : quoteL [] = [45] := rfl
  have q1 : quoteL [45] = codedL 45 := rfl
  by_cases ha : a = []
  · by_cases hb : b = []
    · rw [ha, hb]
    · by_cases hb' : b = [45]
      · subst ha; subst hb'; revert h; decide
      · subst ha; exact absurd h.symm (key b hb hb').1
  · by_cases ha' : a = [45]
    · by_cases hb : b = []
      · subst ha'; subst hb; revert h; decide
      · by_cases hb' : b = [45]
        · rw [ha', hb']
        · subst ha'; exact absurd h.symm (key b hb hb').2
    · by_cases hb : b = []
      · subst hb; exact absurd h (key a ha ha').1
      · by_cases hb' : b = [45]
        · subst hb'; exact absurd h (key a ha ha').2
        · unfold quoteL at h; rw [if_neg ha, if_neg ha', if_neg hb, if_neg hb'] at h
          exact signs_inj h

/-- What a text says, if it says anything. -/
noncomputable def unqL (s : List UInt8) : Option (List UInt8) := open Classical in if h : ∃ out, quoteL out = s then some h.choose else none
theorem unq_iff {s out : List UInt8} : unqL s = some out ↔ quoteL out = s := by
  unfold unqL
  split
  · rename_i h
    refine ⟨fun e => ?_, fun e => congrArg some (quote_inj (h.choose_spec.trans e.symm))⟩
    injection e with e
    rw [← e]; exact h.choose_spec
  · rename_i h
    exact ⟨fun e => (nomatch e), fun e => absurd ⟨_, e⟩ h⟩
theorem unq_quote (s : List UInt8) : unqL (quoteL s) = some s := unq_iff.2 rfl
theorem unq_none {s : List UInt8} (h : ∀ out, quoteL out ≠ s) : unqL s = none := by
  cases e : unqL s with
  | none => rfl
  | some out => exact absurd (unq_iff.1 e) (h out)

/-- The whole of a text, read by nextL: its rule in steps. -/
inductive Reads : List UInt8 → List UInt8 → Prop
  | done : Reads [] []
  | step {s c r out} : nextL s = some (c, r) → Reads r out → Reads s (c :: out)
theorem reads_signs : ∀ out, Reads (signsL out) out
  | [] => .done
  | c :: out => .step (c := c) (by simp only [signsL, List.flatMap_cons]; exact next_sign c _) (reads_signs out)
theorem sign_range (c : UInt8) : ∀ x ∈ signL c, 33 ≤ x.toNat ∧ x.toNat ≤ 126 := all_bytes (p := fun c => ∀ x ∈ signL c, 33 ≤ x.toNat ∧ x.toNat ≤ 126) (by decide +kernel) c
theorem quote_range (l : List UInt8) : ∀ x ∈ quoteL l, 33 ≤ x.toNat ∧ x.toNat ≤ 126 := by
  unfold quoteL
  split
  · decide
  · split
    · decide
    · intro x hx
      obtain ⟨c, _, h⟩ := List.mem_flatMap.1 hx
      exact sign_range c x h
theorem quote_ne (l : List UInt8) : quoteL l ≠ [] := by
  unfold quoteL
  split
  · simp
  · split
    · simp [codedL]
    · rename_i h _
      cases l with
      | nil => exact absurd rfl h
      | cons c r => simp [signsL, sign_ne]
theorem sign_len (c : UInt8) : (signL c).length ≤ 4 := by
  unfold signL codedL
  split
  · simp
  · split <;> simp
theorem signs_len : ∀ l, (signsL l).length ≤ 4 * l.length
  | [] => by simp [signsL]
  | c :: l => by
    have h1 := signs_len l; have h2 := sign_len c
    simp only [signsL, List.flatMap_cons, List.length_append, List.length_cons] at *
    omega
theorem quote_len (l : List UInt8) : (quoteL l).length ≤ 4 * l.length + 4 := by
  unfold quoteL; split; · simp
  · split; · simp [codedL]
    · have := signs_len l; omega
end Go.Proofs.YtjcjmjnajhkdaaaDoor

-- part Builder
namespace Go.Proofs.YtjcjmjnajhkdaaaDoor
open Go.RowKit
set_option linter.unusedVariables false
set_option linter.unusedSimpArgs false
set_option maxRecDepth 100000

theorem sizeBuilder : (Tryd.prog.info? 89).map (·.size) = some 2 := by kernel_rfl

set_option maxHeartbeats 1000000 in
theorem copyCheck_used (b : Nat) (w : World) (h0 : w.cell? ⟨b, 0, none⟩ = some (.pointer (some ⟨b, 0, none⟩))) :
    Calls Tryd.prog 71 #[.pointer (some ⟨b, 0, none⟩)] w fun e w' => e = .returned (.tuple #[]) ∧ w' = w := by
  obtain ⟨j, hj, _⟩ := Option.map_eq_some_iff.1 sizeBuilder
  go_enter Tryd.func71, Tryd.ntmps71
  go_wp2
  rw [Lib.run_neq_ptr_same w _ Tryd.underlying86 hj]
  go_wp2
  go_end0
  exact ⟨rfl, rfl⟩

set_option maxHeartbeats 1000000 in
theorem copyCheck_fresh (b : Nat) (w : World) (h0 : w.cell? ⟨b, 0, none⟩ = some (.pointer none)) (hsh : w.shape? b = some (89, 2)) (hfz : w.frozen? ⟨b, 0, none⟩ = false) :
    Calls Tryd.prog 71 #[.pointer (some ⟨b, 0, none⟩)] w fun e w' => e = .returned (.tuple #[]) ∧ w' = w.setCell ⟨b, 0, none⟩ (.pointer (some ⟨b, 0, none⟩)) := by
  obtain ⟨j, hj, hjs⟩ := Option.map_eq_some_iff.1 sizeBuilder
  go_enter Tryd.func71, Tryd.ntmps71
  go_wp2
  rw [Lib.run_to_unsafe w ⟨b, 0, none⟩ Tryd.underlying86 Tryd.underlying119 hj (by rw [hjs]; decide) hsh (Nat.zero_lt_succ 1)]
  simp only [Result.andThen]
  rw [Oper.upon_value]
  go_wp2
  rw [run_callFunc_extern Tryd.func84 (by kernel_rfl) (by kernel_rfl) (by kernel_rfl) (e := Extern.AbiNoEscape.same) (by kernel_rfl)]
  rw [Lib.run_noEscape]
  simp only [Result.andThen]
  rw [Oper.upon_value]
  go_wp2
  rw [Lib.run_from_unsafe w ⟨b, 0, none⟩ Tryd.underlying119 Tryd.underlying86 hj hsh (by kernel_rfl)]
  simp only [Result.andThen]
  rw [Oper.upon_value]
  go_wp2
  go_end0
  exact ⟨rfl, rfl⟩

theorem copyCheck_ (B b : Nat) (bs : List Value) (w : World) (h : Lib.IsBuilder 89 5 B b bs w) :
    Calls Tryd.prog 71 #[.pointer (some ⟨b, 0, none⟩)] w fun e w' => e = .returned (.tuple #[]) ∧ (Lib.BuilderAt 89 5 B b (.pointer (some ⟨b, 0, none⟩)) bs w' ∧ Below B w w') := by
  rcases h with h | h
  · refine (copyCheck_fresh b w h.cell0 h.shape h.frozen0).mono ?_
    rintro e w' ⟨rfl, rfl⟩
    exact ⟨rfl, h.used _, (Below.refl B w).setCell (p := ⟨b, 0, none⟩) h.1 _⟩
  · refine (copyCheck_used b w h.cell0).mono ?_
    rintro e w' ⟨rfl, rfl⟩
    exact ⟨rfl, h, Below.refl B _⟩
end Go.Proofs.YtjcjmjnajhkdaaaDoor

-- part Esc
namespace Go.Proofs.YtjcjmjnajhkdaaaDoor
open Go.RowKit
set_option linter.unusedVariables false
set_option linter.unusedSimpArgs false
set_option maxRecDepth 100000

theorem u8info' : (Tryd.prog.info? 5).map (fun i => (i.zero, i.size, i.bytes)) = some (some (.int .u8 0), 1, 1) := by kernel_rfl

set_option maxHeartbeats 1000000 in
theorem writeString_ (B b : Nat) (bs : List Value) (s : ByteArray) (w : World) (h : Lib.IsBuilder 89 5 B b bs w) (hlen : bs.length + s.size ≤ 140737488355328) (hBw : B ≤ w.heap.size) :
    Calls Tryd.prog 52 #[.pointer (some ⟨b, 0, none⟩), .string s] w fun e w' => e = .returned (.tuple #[.int .i64 s.size, .nilIface]) ∧ (Lib.BuilderAt 89 5 B b (.pointer (some ⟨b, 0, none⟩)) (bs ++ Lib.strCells s) w' ∧ Below B w w') := by
  obtain ⟨i0, hi, hz0, hz1, hz2⟩ := info_parts u8info'
  go_enter Tryd.func52, Tryd.ntmps52
  go_wp2_with (go_at_call 71; refine (copyCheck_ B b bs _ h).mono ?_)
  rintro e w1 ⟨rfl, h1, hb1⟩
  obtain ⟨hB, v, hbk, hown, hne⟩ := h1
  have c0 : w1.cell? ⟨b, 0, none⟩ = some (.pointer (some ⟨b, 0, none⟩)) := by rw [Lib.cell_of_heap hbk]; rfl
  have c1 : w1.cell? ⟨b, 1, none⟩ = some v := by rw [Lib.cell_of_heap hbk]; rfl
  go_wp2_with (at_builtin; refine Lib.wpList_append_own_string _ rfl _ _ 87 9 rfl B 5 i0 Tryd.underlying87 Tryd.underlying9 hi hz0 hz1 hz2 _ _ _ rfl hown s rfl ?c3 ?c4 ?c5 ?_)
  case c3 => unfold maxLen; omega
  case c4 => omega
  case c5 => have := hb1.size; omega
  intro v' w2 hown' hgrow _
  have hlt : b < w1.heap.size := Blk.lt hbk
  have hb2 : w2.heap[b]? = some (.cells #[.pointer (some ⟨b, 0, none⟩), v] 89 (0, 0)) := by
    rw [hgrow.block b hlt (fun e => hne e.symm)]
    exact hbk
  have d0 : w2.cell? ⟨b, 0, none⟩ = some (.pointer (some ⟨b, 0, none⟩)) := by rw [Lib.cell_of_heap hb2]; rfl
  have d1 : w2.cell? ⟨b, 1, none⟩ = some v := by rw [Lib.cell_of_heap hb2]; rfl
  have f1 : w2.frozen? ⟨b, 1, none⟩ = false := Lib.frozen_of_heap hb2 1
  obtain ⟨ao, n', cap, rfl⟩ : ∃ ao n' cap, v' = .slice ao n' cap := by
    rcases hown'.2 with ⟨hv, _⟩ | ⟨g, cap, cur, hv, _⟩
    · exact ⟨_, _, _, hv⟩
    · exact ⟨_, _, _, hv⟩
  go_wp2
  go_ret2
  refine ⟨rfl, ?_, ?_⟩
  · exact Lib.BuilderAt.put (T := 89) (e := 5) hB hb2 (bs' := bs ++ Lib.strCells s) (by simpa [Lib.strCells_length] using hown') (by decide)
  · exact (hb1.grown hgrow (by have := hb1.size; omega) (fun k hk => (hown.lt k hk).1)).setCell (p := ⟨b, 1, none⟩) hB _
end Go.Proofs.YtjcjmjnajhkdaaaDoor

-- part EscA
namespace Go.Proofs.YtjcjmjnajhkdaaaDoor
open Go.RowKit
set_option linter.unusedVariables false
set_option linter.unusedSimpArgs false
set_option maxRecDepth 100000

theorem plain_cases (c : UInt8) : (32 < (c.toNat : Int) → (c.toNat : Int) ≤ 126 → plainB c = ((c.toNat : Int) != 92)) ∧ (126 < (c.toNat : Int) → plainB c = false) ∧ ((c.toNat : Int) ≤ 32 → plainB c = false) := by
  unfold plainB
  refine ⟨fun h1 h2 => ?_, fun h => ?_, fun h => ?_⟩
  · rw [decide_eq_true (by omega : 32 < c.toNat), decide_eq_true (by omega : c.toNat ≤ 126)]
    simp only [Bool.true_and]
    by_cases h : c.toNat = 92
    · simp [h]
    · rw [decide_eq_true h, eq_comm, bne_iff_ne]; omega
  · rw [decide_eq_false (by omega : ¬ c.toNat ≤ 126)]; simp
  · rw [decide_eq_false (by omega : ¬ 32 < c.toNat)]; simp

set_option maxHeartbeats 1000000 in
theorem plain_ (c : UInt8) (w : World) : Calls Tryd.prog 86 #[.int .u8 c.toNat] w fun e w' => e = .returned (.bool (plainB c)) ∧ w = w' := by
  obtain ⟨p1, p2, p3⟩ := plain_cases c
  have H := @Lib.hid _ p1
  have H2 := @Lib.hid _ p2
  have H3 := @Lib.hid _ p3
  clear p1 p2 p3
  go_enter Tryd.func86, Tryd.ntmps86
  go_wp2
  · go_ret
    rw [H.out (by assumption) (by assumption)]; exact ⟨rfl, rfl⟩
  · go_ret
    rw [H2.out (by assumption)]; exact ⟨rfl, rfl⟩
  · go_ret
    rw [H3.out (by assumption)]; exact ⟨rfl, rfl⟩

theorem and15 (c : UInt8) : bits BinOp.and .u8 (c.toNat : Int) 15 = ((c.toNat % 16 : Nat) : Int) := all_bytes (p := fun c => bits BinOp.and .u8 (c.toNat : Int) 15 = ((c.toNat % 16 : Nat) : Int)) (by decide +kernel) c
theorem hex_at (n : Nat) (h : n < (⟨#[48, 49, 50, 51, 52, 53, 54, 55, 56, 57, 97, 98, 99, 100, 101, 102]⟩ : ByteArray).size) : hexd n = (⟨#[48, 49, 50, 51, 52, 53, 54, 55, 56, 57, 97, 98, 99, 100, 101, 102]⟩ : ByteArray)[n] := by
  have h' : n < 16 := h
  have : ∀ k : Fin 16, hexd k.val = (⟨#[48, 49, 50, 51, 52, 53, 54, 55, 56, 57, 97, 98, 99, 100, 101, 102]⟩ : ByteArray)[k.val]'k.isLt := by decide +kernel
  exact this ⟨n, h'⟩
theorem row_new (w : World) (l : List UInt8) (m : Nat) (hm : l.length = m) (hs : m ≤ maxLen) : Row (w.alloc (.cells (l.map byteV).toArray 5)).drew 5 1 (.slice (some ⟨w.heap.size, 0, none⟩) m m) m (l.map byteV) := by
  have hb := Blk.new w 5 (l.map byteV).toArray
  refine ⟨by simp [hm], .inr ⟨w.heap.size, m, (l.map byteV).toArray, rfl, Nat.zero_le _, hb, Nat.le_refl _, hs, by simp [hm], ?_⟩⟩
  rw [List.take_of_length_le (by simp [hm])]
theorem conv4 (X Y : UInt8) (w : World) : (convert 87 9 (.slice (some ⟨w.heap.size, 0, none⟩) 4 4)).run Tryd.prog (w.alloc (.cells #[.int .u8 92, .int .u8 120, .int .u8 X.toNat, .int .u8 Y.toNat] 5)).drew = .ok (.string ⟨#[92, 120, X, Y]⟩) (w.alloc (.cells #[.int .u8 92, .int .u8 120, .int .u8 X.toNat, .int .u8 Y.toNat] 5)).drew :=
  conv_row (bs := [92, 120, X, Y]) (dst := 9) Tryd.underlying87 Tryd.underlying5 Tryd.underlying9 (row_new w [92, 120, X, Y] 4 rfl (by decide))
theorem conv1 (X : UInt8) (w : World) : (convert 87 9 (.slice (some ⟨w.heap.size, 0, none⟩) 1 1)).run Tryd.prog (w.alloc (.cells #[.int .u8 X.toNat] 5)) = .ok (.string ⟨#[X]⟩) (w.alloc (.cells #[.int .u8 X.toNat] 5)) :=
  conv_row (bs := [X]) (dst := 9) Tryd.underlying87 Tryd.underlying5 Tryd.underlying9 (row_new w [X] 1 rfl (by decide))
set_option maxHeartbeats 1000000 in
theorem coded_ (c : UInt8) (w : World) : Calls Tryd.prog 73 #[.int .u8 c.toNat] w fun e w' => e = .returned (.string ⟨(codedL c).toArray⟩) ∧ Pure' w w' := by
  have hc := c.toNat_lt
  have h1 : (0 : Int) ≤ (c.toNat : Int) / 16 := by omega
  have h2 : (c.toNat : Int) / 16 < 16 := by omega
  have h3 : (c.toNat : Int) % 16 < 16 := by omega
  have h4 : (0 : Int) ≤ (c.toNat : Int) % 16 := by omega
  have ha := and15 c
  rw [Int.natCast_emod] at ha
  have hX : ∀ h, (⟨#[48, 49, 50, 51, 52, 53, 54, 55, 56, 57, 97, 98, 99, 100, 101, 102]⟩ : ByteArray)[c.toNat / 16]'h = hexd (c.toNat / 16) := fun h => (hex_at _ h).symm
  have hY : ∀ h, (⟨#[48, 49, 50, 51, 52, 53, 54, 55, 56, 57, 97, 98, 99, 100, 101, 102]⟩ : ByteArray)[c.toNat % 16]'h = hexd (c.toNat % 16) := fun h => (hex_at _ h).symm
  have hX' : ∀ h, (⟨#[48, 49, 50, 51, 52, 53, 54, 55, 56, 57, 97, 98, 99, 100, 101, 102]⟩ : ByteArray)[((c.toNat : Int) / 16).toNat]'h = hexd (c.toNat / 16) := fun h => (hex_at _ h).symm
  have hY' : ∀ h, (⟨#[48, 49, 50, 51, 52, 53, 54, 55, 56, 57, 97, 98, 99, 100, 101, 102]⟩ : ByteArray)[((c.toNat : Int) % 16).toNat]'h = hexd (c.toNat % 16) := fun h => (hex_at _ h).symm
  have hL := Lib.hid (show codedL c = [92, 120, hexd (c.toNat / 16), hexd (c.toNat % 16)] from rfl)
  generalize hexd (c.toNat / 16) = X at *
  generalize hexd (c.toNat % 16) = Y at *
  have hcv := conv4 X Y w
  go_enter Tryd.func73, Tryd.ntmps73
  go_wp2
  go_region
  go_wp2
  go_ret
  rw [hL.out]
  exact ⟨rfl, ((Keeps.refl _ w).alloc _).drew⟩

set_option maxHeartbeats 1000000 in
theorem sign_ (c : UInt8) (w : World) : Calls Tryd.prog 74 #[.int .u8 c.toNat] w fun e w' => e = .returned (.string ⟨(signL c).toArray⟩) ∧ Pure' w w' := by
  have hcv := conv1 c w
  have HC := Lib.hid (coded_ c)
  have HP := Lib.hid (plain_ c)
  go_enter Tryd.func74, Tryd.ntmps74
  by_cases h : c.toNat = 92
  · have hi : ((c.toNat : Int) == 92) = true := by simp [h]
    have HL := Lib.hid (show signL c = [92, 92] by unfold signL; rw [if_pos h])
    clear h
    go_wp2
    go_ret
    rw [HL.out]; exact ⟨rfl, Keeps.refl _ w⟩
  · have hi : ((c.toNat : Int) == 92) = false := by simp; omega
    cases hp : plainB c with
    | true =>
      have HL := Lib.hid (show signL c = [c] by unfold signL; rw [if_neg h, if_pos hp])
      have HB := Lib.hid hp
      clear h hp
      go_wp2_with (go_at_call 86; refine (HP.out _).mono ?_; rintro e w1 ⟨rfl, rfl⟩; rw [HB.out])
      go_ret
      rw [HL.out]; exact ⟨rfl, (Keeps.refl _ w).alloc _⟩
    | false =>
      have HL := Lib.hid (show signL c = codedL c by unfold signL; rw [if_neg h, if_neg (by rw [hp]; decide)])
      have HB := Lib.hid hp
      clear h hp
      go_wp2_with (first | (go_at_call 86; refine (HP.out _).mono ?_; rintro e w1 ⟨rfl, rfl⟩; rw [HB.out]) | (go_at_call 73; refine (HC.out _).mono ?_; rintro e w1 ⟨rfl, hk⟩))
      go_ret
      rw [HL.out]; exact ⟨rfl, hk⟩
end Go.Proofs.YtjcjmjnajhkdaaaDoor

-- part EscB
namespace Go.Proofs.YtjcjmjnajhkdaaaDoor
open Go.RowKit
set_option linter.unusedVariables false
set_option linter.unusedSimpArgs false
set_option maxRecDepth 100000

/-- A builder of the law's own, with the floor of its buffer beside it. -/
def MyBu (w : World) (B b : Nat) (l : List UInt8) (p : Value) : Prop :=
  ∃ v, Blk w b 89 #[p, v] ∧ w.ownsRow B 5 1 v (Lib.byteCells l).length (Lib.byteCells l) ∧ v.ownBlock ≠ some b
def MyB (w : World) (B b : Nat) (l : List UInt8) : Prop := MyBu w B b l (.pointer none) ∨ MyBu w B b l (.pointer (some ⟨b, 0, none⟩))

theorem owns_less {w : World} {B B' : Nat} {e : TypeId} {size n : Nat} {v : Value} {xs : List Value} (h : w.ownsRow B e size v n xs) (hB : B' ≤ B) : w.ownsRow B' e size v n xs := by
  refine ⟨h.1, ?_⟩
  rcases h.2 with h | ⟨g, cap, cur, hv, hb, r⟩
  · exact .inl h
  · exact .inr ⟨g, cap, cur, hv, by omega, r⟩
theorem owns_set {w : World} {B b n size : Nat} {e : TypeId} {v : Value} {xs : List Value} (h : w.ownsRow B e size v n xs) (hn : v.ownBlock ≠ some b) (i : Nat) (u : Value) : (w.setCell ⟨b, i, none⟩ u).ownsRow B e size v n xs :=
  h.kept (row := some b) ⟨rfl, rfl, rfl, by simp [World.setCell], fun k _ hk => Below.heap_setCell w ⟨b, i, none⟩ u k (fun e => hk (by rw [show k = b from e]))⟩ (Or.inr hn)
theorem MyBu.at_ {w : World} {B B' b : Nat} {l : List UInt8} {p : Value} (h : MyBu w B b l p) (h1 : B' ≤ B) (h2 : B' ≤ b) : Lib.BuilderAt 89 5 B' b p (Lib.byteCells l) w := by
  obtain ⟨v, hb, ho, hn⟩ := h
  exact ⟨h2, v, hb, owns_less ho h1, hn⟩
theorem MyB.is {w : World} {B B' b : Nat} {l : List UInt8} (h : MyB w B b l) (h1 : B' ≤ B) (h2 : B' ≤ b) : Lib.IsBuilder 89 5 B' b (Lib.byteCells l) w := by
  rcases h with h | h
  · exact .inl (h.at_ h1 h2)
  · exact .inr (h.at_ h1 h2)
theorem Keeps.of_below' {B : Nat} {w w1 : World} (h : Below B w w1) : Keeps (fun x => B ≤ x) w w1 := ⟨h.os, h.tape, h.output, h.size, fun k hk hn => h.block k (by simp only [Nat.not_le] at hn; exact hn)⟩
theorem MyBu.keep {w w' : World} {B b : Nat} {l : List UInt8} {p : Value} {S : Nat → Prop} (h : MyBu w B b l p) (hk : Keeps S w w') (hb : ¬ S b) (hs : ∀ x, B ≤ x → ¬ S x) : MyBu w' B b l p := by
  obtain ⟨v, h1, h2, h3⟩ := h
  refine ⟨v, h1.keep hk hb, ?_, h3⟩
  refine ⟨h2.1, ?_⟩
  rcases h2.2 with h | ⟨g, cap, cur, hv, hg, hh, r⟩
  · exact .inl h
  · exact .inr ⟨g, cap, cur, hv, hg, Blk.keep (t := 5) hh hk (hs g hg), r⟩
theorem MyB.keep {w w' : World} {B b : Nat} {l : List UInt8} {S : Nat → Prop} (h : MyB w B b l) (hk : Keeps S w w') (hb : ¬ S b) (hs : ∀ x, B ≤ x → ¬ S x) : MyB w' B b l := by
  rcases h with h | h
  · exact .inl (h.keep hk hb hs)
  · exact .inr (h.keep hk hb hs)

theorem cc_ (B b : Nat) (l : List UInt8) (w : World) (h : MyB w B b l) :
    Calls Tryd.prog 71 #[.pointer (some ⟨b, 0, none⟩)] w fun e w' => e = .returned (.tuple #[]) ∧ MyBu w' B b l (.pointer (some ⟨b, 0, none⟩)) ∧ Keeps (fun x => x = b) w w' := by
  rcases h with h | h
  · have hA := h.at_ (B' := 0) (Nat.zero_le _) (Nat.zero_le _)
    refine (copyCheck_fresh b w hA.cell0 hA.shape hA.frozen0).mono ?_
    rintro e w' ⟨rfl, rfl⟩
    have hk := Keeps.one w b 0 (.pointer (some ⟨b, 0, none⟩))
    refine ⟨rfl, ?_, hk⟩
    obtain ⟨v, h1, h2, h3⟩ := h
    refine ⟨v, h1.set_ 0 _, ?_, h3⟩
    exact h2.kept (row := some b) ⟨rfl, rfl, rfl, by simp [World.setCell], fun k _ hk => Below.heap_setCell _ _ _ _ (fun e => hk (by simp [e]))⟩ (Or.inr h3)
  · have hA := h.at_ (B' := 0) (Nat.zero_le _) (Nat.zero_le _)
    refine (copyCheck_used b w hA.cell0).mono ?_
    rintro e w' ⟨rfl, rfl⟩
    exact ⟨rfl, h, Keeps.refl _ _⟩

set_option maxHeartbeats 1000000 in
theorem ws_ (B b : Nat) (l : List UInt8) (s : ByteArray) (w : World) (h : MyB w B b l) (hlen : l.length + s.size ≤ 140737488355328) (hBw : B ≤ w.heap.size) :
    Calls Tryd.prog 52 #[.pointer (some ⟨b, 0, none⟩), .string s] w fun e w' => e = .returned (.tuple #[.int .i64 s.size, .nilIface]) ∧ MyB w' B b (l ++ s.data.toList) ∧ Keeps (fun x => x = b ∨ B ≤ x) w w' := by
  obtain ⟨i0, hi, hz0, hz1, hz2⟩ := info_parts u8info'
  go_enter Tryd.func52, Tryd.ntmps52
  go_wp2_with (go_at_call 71; refine (cc_ B b l _ h).mono ?_)
  rintro e w1 ⟨rfl, h1, hb1⟩
  obtain ⟨v, hbk, hown, hne⟩ := h1
  have c0 : w1.cell? ⟨b, 0, none⟩ = some (.pointer (some ⟨b, 0, none⟩)) := by rw [hbk.cell]; rfl
  have c1 : w1.cell? ⟨b, 1, none⟩ = some v := by rw [hbk.cell]; rfl
  have hll : (Lib.byteCells l).length = l.length := by simp [Lib.byteCells]
  go_wp2_with (at_builtin; refine Lib.wpList_append_own_string _ rfl _ _ 87 9 rfl B 5 i0 Tryd.underlying87 Tryd.underlying9 hi hz0 hz1 hz2 _ _ _ rfl hown s rfl ?c3 ?c4 ?c5 ?_)
  case c3 => unfold maxLen; omega
  case c4 => omega
  case c5 => have := hb1.size; omega
  intro v' w2 hown' hgrow _
  have hlt : b < w1.heap.size := hbk.lt
  have hb2 : Blk w2 b 89 #[.pointer (some ⟨b, 0, none⟩), v] := hbk.grown hgrow hne
  have d0 : w2.cell? ⟨b, 0, none⟩ = some (.pointer (some ⟨b, 0, none⟩)) := by rw [hb2.cell]; rfl
  have d1 : w2.cell? ⟨b, 1, none⟩ = some v := by rw [hb2.cell]; rfl
  have f1 := hb2.frozen 1
  obtain ⟨ao, n', cap, rfl⟩ : ∃ ao n' cap, v' = .slice ao n' cap := by
    rcases hown'.2 with ⟨hv, _⟩ | ⟨g, cap, cur, hv, _⟩
    · exact ⟨_, _, _, hv⟩
    · exact ⟨_, _, _, hv⟩
  go_wp2
  go_ret2
  have hne' := Lib.ownBlock_ne hown' hb2 (by decide)
  have hcs : Lib.byteCells l ++ Lib.strCells s = Lib.byteCells (l ++ s.data.toList) := by simp [Lib.byteCells, Lib.strCells]
  refine ⟨rfl, .inr ⟨_, hb2.set_ 1 _, ?_, hne'⟩, ?_⟩
  · rw [← hcs]
    have : (Lib.byteCells l ++ Lib.strCells s).length = (Lib.byteCells l).length + s.size := by simp [Lib.strCells_length]
    rw [this]
    rw [hll]
    exact owns_set hown' hne' 1 _
  · exact ((hb1.mono (S' := fun x => x = b ∨ B ≤ x) (fun _ _ h => .inl h)).grown hgrow (fun k hk => .inl (.inr (hown.lt k hk).1))).setCell (p := ⟨b, 1, none⟩) (.inl (.inl rfl)) _
end Go.Proofs.YtjcjmjnajhkdaaaDoor

-- part EscQ
namespace Go.Proofs.YtjcjmjnajhkdaaaDoor
open Go.RowKit
set_option linter.unusedVariables false
set_option linter.unusedSimpArgs false
set_option maxRecDepth 100000

theorem fresh_my (w : World) : MyB (w.alloc (.cells #[.pointer none, .slice none 0 0] 89)) (w.heap.size + 2) w.heap.size [] :=
  .inl ⟨_, Blk.new w _ _, World.ownsRow_nil _ _ _ _, by simp [Value.ownBlock]⟩

theorem sign_take {s : List UInt8} {k : Nat} (hk : k < s.length) : signsL (s.take (k + 1)) = signsL (s.take k) ++ signL s[k] := by
  rw [List.take_succ_eq_append_getElem hk, signs_append, signs_one]
theorem Keeps.cell_ {S : Nat → Prop} {w w' : World} (h : Keeps S w w') {a : Addr} (ha : a.block < w.heap.size) (hs : ¬ S a.block) : w'.cell? a = w.cell? a := World.cell?_of_block (h.block a.block ha hs)

/-- What stands at round k of Quote's loop. -/
structure QuInv (w0 w : World) (b g : Nat) (s : List UInt8) (k : Nat) : Prop where
  my : MyB w (g + 1) b (signsL (s.take k))
  cells : ∀ j, j < s.length → w.cell? ⟨g, j, none⟩ = some (.int .u8 (s.getD j 0).toNat)
  keeps : Pure' w0 w
  big : w0.heap.size ≤ b ∧ b < g ∧ g < w.heap.size

set_option maxHeartbeats 1000000 in
theorem quote_big (s : List UInt8) (w : World) (hs : s.length ≤ 1000000) (h1 : s ≠ []) (h2 : s ≠ [45]) : Calls Tryd.prog 54 #[.string ⟨s.toArray⟩] w fun e w' => e = .returned (.string ⟨(quoteL s).toArray⟩) ∧ Pure' w w' := by
  go_enter Tryd.func54, Tryd.ntmps54
  have q1 : s.isEmpty = false := by cases s with | nil => exact absurd rfl h1 | cons _ _ => rfl
  have q2 : (s == [45]) = false := by simpa using h2
  go_wp2
  rw [Lib.run_convert_string_bytes _ 9 87 5 _ Tryd.underlying9 Tryd.underlying87 Tryd.underlying5]
  simp only [Result.andThen]
  rw [Oper.upon_value]
  have hsz : ((⟨s.toArray⟩ : ByteArray)).size = s.length := by simp [ByteArray.size]
  rw [hsz]
  generalize hcap : grownCap _ _ _ _ = cap
  have I0 : QuInv w (Lib.bytesWorld (w.alloc (.cells #[.pointer none, .slice none 0 0] 89)) 5 ⟨s.toArray⟩) w.heap.size (w.heap.size + 1) s 0 := by
    refine ⟨.inl ⟨_, ?_, World.ownsRow_nil _ _ _ _, by simp [Value.ownBlock]⟩, fun j hj => ?_, ?_, Nat.le_refl _, by omega, by rw [Lib.bytesWorld_size]; simp⟩
    · unfold Blk; rw [Lib.bytesWorld_at_old _ _ _ _ (by simp)]; exact Blk.new w _ _
    · have := Lib.bytesWorld_cell (w.alloc (.cells #[.pointer none, .slice none 0 0] 89)) 5 ⟨s.toArray⟩ j (by rw [hsz]; exact hj)
      simpa using this
    · refine ((Keeps.refl _ w).alloc _).trans (S' := fun _ => False) ⟨?_, ?_, ?_, ?_, fun k hk _ => Lib.bytesWorld_at_old _ _ _ _ hk⟩ (fun _ _ h => h)
      · rfl
      · rfl
      · rfl
      · rw [Lib.bytesWorld_size]; omega
  have hg : (w.alloc (.cells #[.pointer none, .slice none 0 0] 89)).heap.size = w.heap.size + 1 := by simp
  rw [hg]
  generalize Lib.bytesWorld (w.alloc (.cells #[.pointer none, .slice none 0 0] 89)) 5 ⟨s.toArray⟩ = w1 at *
  generalize hb : w.heap.size = b at *
  generalize hgg : b + 1 = g at *
  have HI0 := Lib.hid I0
  have HW := Lib.hid ws_
  have HS := Lib.hid sign_
  clear I0
  generalize hn : s.length = n at *
  go_wp2
  go_loopw [15] (fun v wr => ∃ k : Nat, k ≤ n ∧ v = .int .i64 k ∧ QuInv w wr b g s k) (fun v _ => n - (intOf v).toNat)
  case atStart => exact ⟨0, Nat.zero_le _, rfl, HI0.out⟩
  case round =>
    obtain ⟨k, hk, rfl, hI⟩ := hrel
    have HI := Lib.hid hI
    clear hI
    by_cases hlt : k < n
    · have hc := HI.out.cells k (by omega)
      have HM := Lib.hid HI.out.my
      have HLen : Hid (∀ c : UInt8, (signsL (s.take k)).length + (⟨(signL c).toArray⟩ : ByteArray).size ≤ 140737488355328) := Lib.hid (fun c => by
        have h1 := signs_len (s.take k); have h2 := sign_len c
        have h3 : (⟨(signL c).toArray⟩ : ByteArray).size = (signL c).length := by simp [ByteArray.size]
        rw [List.length_take] at h1
        omega)
      go_wp2_with (first | (go_at_call 74; refine (HS.out _ _).mono ?_; rintro e w2 ⟨rfl, hk2⟩; have HK2 := Lib.hid hk2; clear hk2) | (go_at_call 52; refine (HW.out (g + 1) b (signsL (s.take k)) _ _ (HM.out.keep HK2.out (fun h => h) (fun _ _ h => h)) (HLen.out _) (by have := HI.out.big; have := HK2.out.size; omega)).mono ?_; rintro e w3 ⟨rfl, hm3, hk3⟩; have HM3 := Lib.hid hm3; have HK3 := Lib.hid hk3; clear hm3 hk3))
      go_roundw
      case rel =>
        refine ⟨k + 1, by omega, by go_num, ?_⟩
        have hB := HI.out.big
        have hz2 := HK2.out.size
        have hz3 := HK3.out.size
        refine ⟨?_, fun j hj => ?_, (HI.out.keeps.trans HK2.out (fun _ _ h => h)).trans HK3.out (fun x hx h => by have h' : x = b ∨ g + 1 ≤ x := h; omega), hB.1, hB.2.1, by omega⟩
        · have hm := HM3.out
          rw [sign_take (by omega)]
          exact hm
        · rw [← HI.out.cells j hj, ← HK2.out.cell_ (a := ⟨g, j, none⟩) (show g < _ by omega) (fun h => h)]
          exact HK3.out.cell_ (a := ⟨g, j, none⟩) (show g < _ by omega) (fun h => by have h' : g = b ∨ g + 1 ≤ g := h; omega)
      case measure => simp [intOf]; omega
    · obtain rfl : k = n := by omega
      have HB := Lib.hid HI.out.my
      have hbig := HI.out.big
      have HC := Lib.hid (fun (l : List UInt8) (wx : World) (h1 : Lib.IsBuilder 89 5 b b (Lib.byteCells l) wx) (h2 : b ≤ wx.heap.size) => Tryd.Builder_String_any b b l wx h1 h2)
      go_wp2_with (go_at_call 53; refine (HC.out (signsL (s.take k)) _ (HB.out.is (by omega) (Nat.le_refl _)) (by omega)).mono ?_; rintro e w3 ⟨rfl, hb3⟩)
      go_ret
      have hq : quoteL s = signsL (s.take k) := by unfold quoteL; rw [if_neg h1, if_neg h2, List.take_of_length_le (by omega)]
      refine ⟨by rw [hq]; rfl, HI.out.keeps.trans (Keeps.of_below' hb3) (fun x hx h => by have h' : b ≤ x := h; omega)⟩

set_option maxHeartbeats 1000000 in
theorem quote_ (s : List UInt8) (w : World) (hs : s.length ≤ 1000000) : Calls Tryd.prog 54 #[.string ⟨s.toArray⟩] w fun e w' => e = .returned (.string ⟨(quoteL s).toArray⟩) ∧ Pure' w w' := by
  by_cases h1 : s = []
  · subst h1
    have hq := Lib.hid (show quoteL [] = [45] from rfl)
    go_enter Tryd.func54, Tryd.ntmps54
    go_wp2
    go_ret
    exact ⟨by rw [hq.out]; rfl, Keeps.refl _ w⟩
  · by_cases h2 : s = [45]
    · subst h2
      have hq := Lib.hid (show quoteL [45] = codedL 45 from rfl)
      have HC := Lib.hid (coded_ 45 w)
      go_enter Tryd.func54, Tryd.ntmps54
      go_wp2_with (go_at_call 73; refine (HC.out).mono ?_; rintro e w1 ⟨rfl, hk⟩)
      go_ret
      exact ⟨by rw [hq.out]; rfl, hk⟩
    · exact quote_big s w hs h1 h2
end Go.Proofs.YtjcjmjnajhkdaaaDoor

-- part EscR
namespace Go.Proofs.YtjcjmjnajhkdaaaDoor
open Go.RowKit
set_option linter.unusedVariables false
set_option linter.unusedSimpArgs false
set_option maxRecDepth 100000

theorem rplain_cases (c : UInt8) : (33 ≤ (c.toNat : Int) → (c.toNat : Int) ≤ 126 → plainB c = ((c.toNat : Int) != 92)) ∧ (126 < (c.toNat : Int) → plainB c = false) ∧ ((c.toNat : Int) < 33 → plainB c = false) := by
  obtain ⟨p1, p2, p3⟩ := plain_cases c
  exact ⟨fun h => p1 (by omega), p2, fun h => p3 (by omega)⟩

set_option maxHeartbeats 1000000 in
theorem rplain_ (c : UInt8) (w : World) : Calls Tryd.prog 76 #[.int .u8 c.toNat] w fun e w' => e = .returned (.bool (plainB c)) ∧ w = w' := by
  obtain ⟨p1, p2, p3⟩ := rplain_cases c
  have H := @Lib.hid _ p1
  have H2 := @Lib.hid _ p2
  have H3 := @Lib.hid _ p3
  clear p1 p2 p3
  go_enter Tryd.func76, Tryd.ntmps76
  go_wp2
  · go_ret
    rw [H.out (by assumption) (by assumption)]; exact ⟨rfl, rfl⟩
  · go_ret
    rw [H2.out (by assumption)]; exact ⟨rfl, rfl⟩
  · go_ret
    rw [H3.out (by assumption)]; exact ⟨rfl, rfl⟩

theorem hex_cut : ∀ k : Fin 16, (⟨#[48, 49, 50, 51, 52, 53, 54, 55, 56, 57, 97, 98, 99, 100, 101, 102]⟩ : ByteArray).extract k.val (k.val + 1) = ⟨#[hexd k.val]⟩ := by decide +kernel

set_option maxHeartbeats 1000000 in
theorem rdigit_ (k : Nat) (hk : k < 16) (w : World) : Calls Tryd.prog 77 #[.int .i64 k] w fun e w' => e = .returned (.string ⟨#[hexd k]⟩) ∧ w = w' := by
  have hc := Lib.hid (hex_cut ⟨k, hk⟩)
  have h1 : (0 : Int) ≤ k := by omega
  have h2 : (k : Int) < 16 := by omega
  have h3 : (k : Int) + 1 ≤ 16 := by omega
  go_enter Tryd.func77, Tryd.ntmps77
  go_wp2
  go_ret
  refine ⟨?_, rfl⟩
  rw [← hc.out]
  rfl

set_option maxHeartbeats 1000000 in
theorem rsign_ (c : UInt8) (w : World) : Calls Tryd.prog 59 #[.int .u8 c.toNat] w fun e w' => e = .returned (.string ⟨(signL c).toArray⟩) ∧ Pure' w w' := by
  have hcv := conv1 c w
  have HP := Lib.hid (rplain_ c)
  have HD := Lib.hid rdigit_
  have hlt := c.toNat_lt
  go_enter Tryd.func59, Tryd.ntmps59
  by_cases h : c.toNat = 92
  · have hi : ((c.toNat : Int) == 92) = true := by simp [h]
    have HL := Lib.hid (show signL c = [92, 92] by unfold signL; rw [if_pos h])
    clear h
    go_wp2
    go_ret
    rw [HL.out]; exact ⟨rfl, Keeps.refl _ w⟩
  · have hi : ((c.toNat : Int) == 92) = false := by simp; omega
    cases hp : plainB c with
    | true =>
      have HL := Lib.hid (show signL c = [c] by unfold signL; rw [if_neg h, if_pos hp])
      have HB := Lib.hid hp
      clear h hp
      go_wp2_with (go_at_call 76; refine (HP.out _).mono ?_; rintro e w1 ⟨rfl, rfl⟩; rw [HB.out])
      go_ret
      rw [HL.out]; exact ⟨rfl, (Keeps.refl _ w).alloc _⟩
    | false =>
      have HL := Lib.hid (show signL c = codedL c by unfold signL; rw [if_neg h, if_neg (by rw [hp]; decide)])
      have HB := Lib.hid hp
      clear h hp
      have e1 : Hid (∀ w, Calls Tryd.prog 77 #[.int .i64 ((c.toNat : Int) / 16)] w fun e w' => e = .returned (.string ⟨#[hexd (c.toNat / 16)]⟩) ∧ w = w') := Lib.hid (fun w => by have := rdigit_ (c.toNat / 16) (by omega) w; simpa using this)
      have e2 : Hid (∀ w, Calls Tryd.prog 77 #[.int .i64 ((c.toNat : Int) % 16)] w fun e w' => e = .returned (.string ⟨#[hexd (c.toNat % 16)]⟩) ∧ w = w') := Lib.hid (fun w => by have := rdigit_ (c.toNat % 16) (by omega) w; simpa using this)
      go_wp2_with (first | (go_at_call 76; refine (HP.out _).mono ?_; rintro e w1 ⟨rfl, rfl⟩; rw [HB.out]) | (go_at_call 77; refine (e1.out _).mono ?_; rintro e w1 ⟨rfl, rfl⟩) | (go_at_call 77; refine (e2.out _).mono ?_; rintro e w1 ⟨rfl, rfl⟩))
      go_ret
      rw [HL.out]; exact ⟨rfl, Keeps.refl _ _⟩

set_option maxHeartbeats 1000000 in
theorem rquote_big (s : List UInt8) (w : World) (hs : s.length ≤ 1000000) (h1 : s ≠ []) (h2 : s ≠ [45]) : Calls Tryd.prog 28 #[.string ⟨s.toArray⟩] w fun e w' => e = .returned (.string ⟨(quoteL s).toArray⟩) ∧ Pure' w w' := by
  go_enter Tryd.func28, Tryd.ntmps28
  have q1 : s.isEmpty = false := by cases s with | nil => exact absurd rfl h1 | cons _ _ => rfl
  have q2 : (s == [45]) = false := by simpa using h2
  have hsz : ((⟨s.toArray⟩ : ByteArray)).size = s.length := by simp [ByteArray.size]
  have HS := Lib.hid rsign_
  have HG : Hid (∀ (k : Nat) (h : k < s.length) h', (⟨s.toArray⟩ : ByteArray)[k]'h' = s[k]) := Lib.hid (fun k h h' => rfl)
  generalize hn : s.length = n at *
  go_wp2
  go_loopw [3, 4] (fun v3 v wr => ∃ k : Nat, k ≤ n ∧ v = .int .i64 k ∧ v3 = .string ⟨(signsL (s.take k)).toArray⟩ ∧ Pure' w wr) (fun _ v _ => n - (intOf v).toNat)
  case atStart => exact ⟨0, Nat.zero_le _, rfl, rfl, Keeps.refl _ _⟩
  case round =>
    obtain ⟨k, hk, rfl, rfl, hI⟩ := hrel
    have HI := Lib.hid hI
    clear hI
    by_cases hlt : k < n
    · have hA : (signsL (s.take k)).length ≤ 4000000 := by
        have h1 := signs_len (s.take k); rw [List.length_take] at h1; omega
      have hA' : (⟨(signsL (s.take k)).toArray⟩ : ByteArray).size ≤ 4000000 := by simpa [ByteArray.size] using hA
      have hB := sign_len ((⟨s.toArray⟩ : ByteArray)[k]'(by omega))
      go_wp2_with (go_at_call 59; refine (HS.out _ _).mono ?_; rintro e w2 ⟨rfl, hk2⟩; have HK2 := Lib.hid hk2; clear hk2)
      go_roundw
      case rel =>
        refine ⟨k + 1, by omega, by go_num, ?_, HI.out.trans HK2.out (fun _ _ h => h)⟩
        rw [sign_take (by omega)]
        simp
        rfl
      case measure => simp [intOf]; omega
    · obtain rfl : k = n := by omega
      go_wp2
      go_ret
      have hq : quoteL s = signsL (s.take k) := by unfold quoteL; rw [if_neg h1, if_neg h2, List.take_of_length_le (by omega)]
      exact ⟨by rw [hq]; rfl, HI.out⟩

set_option maxHeartbeats 1000000 in
theorem rquote_ (s : List UInt8) (w : World) (hs : s.length ≤ 1000000) : Calls Tryd.prog 28 #[.string ⟨s.toArray⟩] w fun e w' => e = .returned (.string ⟨(quoteL s).toArray⟩) ∧ Pure' w w' := by
  by_cases h1 : s = []
  · subst h1
    have hq := Lib.hid (show quoteL [] = [45] from rfl)
    go_enter Tryd.func28, Tryd.ntmps28
    go_wp2
    go_ret
    exact ⟨by rw [hq.out]; rfl, Keeps.refl _ w⟩
  · by_cases h2 : s = [45]
    · subst h2
      have hq := Lib.hid (show quoteL [45] = [92, 120, 50, 100] by decide +kernel)
      go_enter Tryd.func28, Tryd.ntmps28
      go_wp2
      go_ret
      exact ⟨by rw [hq.out]; rfl, Keeps.refl _ w⟩
    · exact rquote_big s w hs h1 h2
end Go.Proofs.YtjcjmjnajhkdaaaDoor

-- part EscN
namespace Go.Proofs.YtjcjmjnajhkdaaaDoor
open Go.RowKit
set_option linter.unusedVariables false
set_option linter.unusedSimpArgs false
set_option maxRecDepth 100000

theorem drewN_two (w : World) (a b : Nat) : (w.drewN a).drewN b = w.drewN (a + b) := by unfold World.drewN; simp [Nat.add_assoc]

/-- What next answers. -/
def nextV (l : List UInt8) : Value := match nextL l with
  | some (c, r) => .tuple #[.int .u8 c.toNat, .string ⟨r.toArray⟩, .bool true]
  | none => .tuple #[.int .u8 0, .string ⟨#[]⟩, .bool false]

theorem hex_index (c : UInt8) : Lib.indexByte hexL c = (match hexL.idxOf? c with | some x => (x : Int) | none => -1) := all_bytes (p := fun c => Lib.indexByte hexL c = (match hexL.idxOf? c with | some x => (x : Int) | none => -1)) (by decide +kernel) c
theorem hex_small (c : UInt8) (x : Nat) (h : hexL.idxOf? c = some x) : x < 16 := by
  have := all_bytes (p := fun c => (hexL.idxOf? c).all (fun x => decide (x < 16)) = true) (by decide +kernel) c
  rw [h] at this; simpa using this
theorem hex_join : ∀ x y : Fin 16, bits BinOp.or .i64 ((x.val : Int) * 16) (y.val : Int) = ((x.val * 16 + y.val : Nat) : Int) := by decide +kernel

set_option maxHeartbeats 1000000 in
theorem next_plain (a : UInt8) (r : List UInt8) (w : World) (h : a ≠ 92) (hs : r.length ≤ 1000000) : Calls Tryd.prog 66 #[.string ⟨(a :: r).toArray⟩] w fun e w' => e = .returned (nextV (a :: r)) ∧ ∃ k, w' = w.drewN k := by
  have hv := Lib.hid (show nextV (a :: r) = .tuple #[.int .u8 a.toNat, .string ⟨r.toArray⟩, .bool true] by unfold nextV nextL; simp [h])
  have h92 : a.toNat ≠ 92 := fun e => h (UInt8.toNat_inj.1 (by simpa using e))
  have hb : ((a.toNat : Int) != 92) = true := by simp; omega
  have hsz : (⟨(a :: r).toArray⟩ : ByteArray).size = r.length + 1 := by simp [ByteArray.size]
  have h0 : (0 : Nat) < (⟨(a :: r).toArray⟩ : ByteArray).size := by omega
  have h0' : (0 : Int) < (((⟨(a :: r).toArray⟩ : ByteArray).size : Nat) : Int) := by omega
  have hg : ∀ h', (⟨(a :: r).toArray⟩ : ByteArray)[0]'h' = a := fun _ => rfl
  have hx := extract_end ⟨(a :: r).toArray⟩ 1
  have hx' : (⟨(a :: r).toArray⟩ : ByteArray).extract 1 (r.length + 1) = ⟨r.toArray⟩ := by rw [← hsz, hx]; rfl
  have HX := Lib.hid hx'
  have h1 : (1 : Int) ≤ (((⟨(a :: r).toArray⟩ : ByteArray).size : Nat) : Int) := by omega
  clear hx hx' h h92
  generalize hS : (⟨(a :: r).toArray⟩ : ByteArray) = S at *
  go_enter Tryd.func66, Tryd.ntmps66
  go_wp2
  go_quiet (fail)
  go_wp2
  go_ret3
  rw [HX.out, hv.out]
  exact ⟨rfl, _, rfl⟩

set_option maxHeartbeats 1000000 in
theorem next_slash (r : List UInt8) (w : World) (hs : r.length ≤ 1000000) : Calls Tryd.prog 66 #[.string ⟨(92 :: 92 :: r).toArray⟩] w fun e w' => e = .returned (nextV (92 :: 92 :: r)) ∧ ∃ k, w' = w.drewN k := by
  have hv := Lib.hid (show nextV (92 :: 92 :: r) = .tuple #[.int .u8 92, .string ⟨r.toArray⟩, .bool true] by unfold nextV nextL; simp)
  have hsz : (⟨(92 :: 92 :: r).toArray⟩ : ByteArray).size = r.length + 2 := by simp [ByteArray.size]
  have h0 : (0 : Nat) < (⟨(92 :: 92 :: r).toArray⟩ : ByteArray).size := by omega
  have h0' : (0 : Int) < (((⟨(92 :: 92 :: r).toArray⟩ : ByteArray).size : Nat) : Int) := by omega
  have hg : ∀ h', (⟨(92 :: 92 :: r).toArray⟩ : ByteArray)[0]'h' = 92 := fun _ => rfl
  have HX : Hid ((⟨(92 :: 92 :: r).toArray⟩ : ByteArray).extract 2 (r.length + 2) = ⟨r.toArray⟩) := Lib.hid (by rw [← hsz, extract_end]; rfl)
  have h1 : (2 : Int) ≤ (((⟨(92 :: 92 :: r).toArray⟩ : ByteArray).size : Nat) : Int) := by omega
  have HP : Hid (Lib.hasPrefix (⟨(92 :: 92 :: r).toArray⟩ : ByteArray).data.toList [92, 92] = true) := Lib.hid (by simp [Lib.hasPrefix])
  have HC := Lib.hid (Tryd.strings_HasPrefix ⟨(92 :: 92 :: r).toArray⟩ ⟨#[92, 92]⟩ w)
  generalize hS : (⟨(92 :: 92 :: r).toArray⟩ : ByteArray) = S at *
  go_enter Tryd.func66, Tryd.ntmps66
  go_wp2_with (go_at_call 80; refine HC.out.mono ?_; rintro e w1 ⟨rfl, rfl⟩; rw [HP.out])
  go_quiet (fail)
  go_wp2
  go_ret3
  rw [HX.out, hv.out]
  exact ⟨rfl, _, rfl⟩
set_option maxHeartbeats 1000000 in
theorem next_short (l : List UInt8) (w : World) (hs : (92 :: l).length < 4) (hp : ([92, 92] : List UInt8).isPrefixOf (92 :: l) = false) (hn : nextL (92 :: l) = none) : Calls Tryd.prog 66 #[.string ⟨(92 :: l).toArray⟩] w fun e w' => e = .returned (nextV (92 :: l)) ∧ ∃ k, w' = w.drewN k := by
  have hv := Lib.hid (show nextV (92 :: l) = .tuple #[.int .u8 0, .string ⟨#[]⟩, .bool false] by unfold nextV; rw [hn])
  have hsz : (⟨(92 :: l).toArray⟩ : ByteArray).size = l.length + 1 := by simp [ByteArray.size]
  have h0 : (0 : Nat) < (⟨(92 :: l).toArray⟩ : ByteArray).size := by omega
  have h0' : (0 : Int) < (((⟨(92 :: l).toArray⟩ : ByteArray).size : Nat) : Int) := by omega
  have hg : ∀ h', (⟨(92 :: l).toArray⟩ : ByteArray)[0]'h' = 92 := fun _ => rfl
  have h4 : (((⟨(92 :: l).toArray⟩ : ByteArray).size : Nat) : Int) < 4 := by simp at hs; omega
  have h4' : (l.length : Int) + 1 < 4 := by simp at hs; omega
  have HP : Hid (Lib.hasPrefix (⟨(92 :: l).toArray⟩ : ByteArray).data.toList [92, 92] = false) := Lib.hid hp
  have HC := Lib.hid (Tryd.strings_HasPrefix ⟨(92 :: l).toArray⟩ ⟨#[92, 92]⟩ w)
  clear hp hn hs
  generalize hS : (⟨(92 :: l).toArray⟩ : ByteArray) = S at *
  go_enter Tryd.func66, Tryd.ntmps66
  go_wp2_with (go_at_call 80; refine HC.out.mono ?_; rintro e w1 ⟨rfl, rfl⟩; rw [HP.out])
  go_ret3
  rw [hv.out]
  exact ⟨rfl, 0, rfl⟩

set_option maxHeartbeats 1000000 in
theorem next_other (b h k : UInt8) (r : List UInt8) (w : World) (hs : r.length ≤ 1000000) (hb : b ≠ 92) (hb' : b ≠ 120) : Calls Tryd.prog 66 #[.string ⟨(92 :: b :: h :: k :: r).toArray⟩] w fun e w' => e = .returned (nextV (92 :: b :: h :: k :: r)) ∧ ∃ k, w' = w.drewN k := by
  have hv := Lib.hid (show nextV (92 :: b :: h :: k :: r) = .tuple #[.int .u8 0, .string ⟨#[]⟩, .bool false] by unfold nextV nextL; simp [hb, hb'])
  have hsz : (⟨(92 :: b :: h :: k :: r).toArray⟩ : ByteArray).size = r.length + 4 := by simp [ByteArray.size]
  have h0 : (0 : Nat) < (⟨(92 :: b :: h :: k :: r).toArray⟩ : ByteArray).size := by omega
  have h0' : (0 : Int) < (((⟨(92 :: b :: h :: k :: r).toArray⟩ : ByteArray).size : Nat) : Int) := by omega
  have h1' : (1 : Int) < (((⟨(92 :: b :: h :: k :: r).toArray⟩ : ByteArray).size : Nat) : Int) := by omega
  have h1 : 1 < (⟨(92 :: b :: h :: k :: r).toArray⟩ : ByteArray).size := by omega
  have hg : ∀ h', (⟨(92 :: b :: h :: k :: r).toArray⟩ : ByteArray)[0]'h' = 92 := fun _ => rfl
  have hg1 : ∀ h', (⟨(92 :: b :: h :: k :: r).toArray⟩ : ByteArray)[1]'h' = b := fun _ => rfl
  have h120 : b.toNat ≠ 120 := fun e => hb' (UInt8.toNat_inj.1 (by simpa using e))
  have ht : ((b.toNat : Int) != 120) = true := by simp; omega
  have h4 : ¬ (r.length : Int) + 4 < 4 := by omega
  have HP : Hid (Lib.hasPrefix (⟨(92 :: b :: h :: k :: r).toArray⟩ : ByteArray).data.toList [92, 92] = false) := Lib.hid (by
    have hbb : ((92 : UInt8) == b) = false := by rw [beq_eq_false_iff_ne]; exact fun e => hb e.symm
    show ((92 : UInt8) == 92 && (((92 : UInt8) == b) && List.isPrefixOf [] (h :: k :: r))) = false
    rw [hbb]; rfl)
  have HC := Lib.hid (Tryd.strings_HasPrefix ⟨(92 :: b :: h :: k :: r).toArray⟩ ⟨#[92, 92]⟩ w)
  clear hb hb' h120
  generalize hS : (⟨(92 :: b :: h :: k :: r).toArray⟩ : ByteArray) = S at *
  go_enter Tryd.func66, Tryd.ntmps66
  go_wp2_with (go_at_call 80; refine HC.out.mono ?_; rintro e w1 ⟨rfl, rfl⟩; rw [HP.out])
  go_ret3
  rw [hv.out]
  exact ⟨rfl, 0, rfl⟩

set_option maxHeartbeats 1000000 in
theorem next_hex (h k : UInt8) (r : List UInt8) (w : World) (hs : r.length ≤ 1000000) : Calls Tryd.prog 66 #[.string ⟨(92 :: 120 :: h :: k :: r).toArray⟩] w fun e w' => e = .returned (nextV (92 :: 120 :: h :: k :: r)) ∧ ∃ k, w' = w.drewN k := by
  have hsz : (⟨(92 :: 120 :: h :: k :: r).toArray⟩ : ByteArray).size = r.length + 4 := by simp [ByteArray.size]
  have h0 : (0 : Nat) < (⟨(92 :: 120 :: h :: k :: r).toArray⟩ : ByteArray).size := by omega
  have h0' : (0 : Int) < (((⟨(92 :: 120 :: h :: k :: r).toArray⟩ : ByteArray).size : Nat) : Int) := by omega
  have h1' : (1 : Int) < (((⟨(92 :: 120 :: h :: k :: r).toArray⟩ : ByteArray).size : Nat) : Int) := by omega
  have h2' : (2 : Int) < (((⟨(92 :: 120 :: h :: k :: r).toArray⟩ : ByteArray).size : Nat) : Int) := by omega
  have h3' : (3 : Int) < (((⟨(92 :: 120 :: h :: k :: r).toArray⟩ : ByteArray).size : Nat) : Int) := by omega
  have hg : ∀ h', (⟨(92 :: 120 :: h :: k :: r).toArray⟩ : ByteArray)[0]'h' = 92 := fun _ => rfl
  have hg1 : ∀ h', (⟨(92 :: 120 :: h :: k :: r).toArray⟩ : ByteArray)[1]'h' = 120 := fun _ => rfl
  have hg2 : ∀ h', (⟨(92 :: 120 :: h :: k :: r).toArray⟩ : ByteArray)[2]'h' = h := fun _ => rfl
  have hg3 : ∀ h', (⟨(92 :: 120 :: h :: k :: r).toArray⟩ : ByteArray)[3]'h' = k := fun _ => rfl
  have h4 : ¬ (r.length : Int) + 4 < 4 := by omega
  have HX : Hid ((⟨(92 :: 120 :: h :: k :: r).toArray⟩ : ByteArray).extract 4 (r.length + 4) = ⟨r.toArray⟩) := Lib.hid (by rw [← hsz, extract_end]; rfl)
  have HP : Hid (Lib.hasPrefix (⟨(92 :: 120 :: h :: k :: r).toArray⟩ : ByteArray).data.toList [92, 92] = false) := Lib.hid rfl
  have HC := Lib.hid (Tryd.strings_HasPrefix ⟨(92 :: 120 :: h :: k :: r).toArray⟩ ⟨#[92, 92]⟩ w)
  have HI : Hid (∀ (c : UInt8) (w : World), Calls Tryd.prog 81 #[.string ⟨#[48, 49, 50, 51, 52, 53, 54, 55, 56, 57, 97, 98, 99, 100, 101, 102]⟩, .int .u8 c.toNat] w fun e w' => e = .returned (.int .i64 (match hexL.idxOf? c with | some x => (x : Int) | none => -1)) ∧ w' = w) := Lib.hid (fun c w => by
    have := Tryd.strings_IndexByte ⟨#[48, 49, 50, 51, 52, 53, 54, 55, 56, 57, 97, 98, 99, 100, 101, 102]⟩ (c.toNat : Int) w
    rw [← hex_index c]
    simpa [hexL] using this)
  generalize hS : (⟨(92 :: 120 :: h :: k :: r).toArray⟩ : ByteArray) = S at *
  have hvn := Lib.hid (show (hexL.idxOf? h = none ∨ hexL.idxOf? k = none) → nextV (92 :: 120 :: h :: k :: r) = .tuple #[.int .u8 0, .string ⟨#[]⟩, .bool false] by
    intro hh
    unfold nextV nextL
    rcases hh with hh | hh
    · simp [hh]
    · cases hx : hexL.idxOf? h <;> simp [hh, hx])
  have hvs := Lib.hid (show ∀ x y, hexL.idxOf? h = some x → hexL.idxOf? k = some y → nextV (92 :: 120 :: h :: k :: r) = .tuple #[.int .u8 ((UInt8.ofNat (x * 16 + y)).toNat), .string ⟨r.toArray⟩, .bool true] by
    intro x y h1 h2
    unfold nextV nextL; simp [h1, h2])
  go_enter Tryd.func66, Tryd.ntmps66
  cases hx : hexL.idxOf? h with
  | none =>
    have I1 : Hid (∀ w, Calls Tryd.prog 81 #[.string ⟨#[48, 49, 50, 51, 52, 53, 54, 55, 56, 57, 97, 98, 99, 100, 101, 102]⟩, .int .u8 h.toNat] w fun e w' => e = .returned (.int .i64 (-1)) ∧ w' = w) := Lib.hid (fun w => by have := HI.out h w; rwa [hx] at this)
    have HN := Lib.hid (hvn.out (.inl hx))
    clear hx hvn hvs
    have I2 : Hid (∃ y : Int, ∀ w, Calls Tryd.prog 81 #[.string ⟨#[48, 49, 50, 51, 52, 53, 54, 55, 56, 57, 97, 98, 99, 100, 101, 102]⟩, .int .u8 k.toNat] w fun e w' => e = .returned (.int .i64 y) ∧ w' = w) := Lib.hid ⟨_, fun w => HI.out k w⟩
    obtain ⟨y, i2⟩ := I2.out
    have I2' := Lib.hid i2
    clear i2 I2 HI
    go_wp2_with (go_at_call 80; refine HC.out.mono ?_; rintro e w1 ⟨rfl, rfl⟩; rw [HP.out])
    go_quiet ((first | (go_at_call 81; refine (I1.out _).mono ?_; rintro e w1 ⟨rfl, rfl⟩; exact ⟨rfl, _, rfl⟩) | (go_at_call 81; refine (I2'.out _).mono ?_; rintro e w1 ⟨rfl, rfl⟩; exact ⟨rfl, _, rfl⟩)))
    go_wp2
    go_ret3
    rw [HN.out]
    exact ⟨rfl, _, rfl⟩
  | some x =>
    have hx16 := hex_small h x hx
    have I1 : Hid (∀ w, Calls Tryd.prog 81 #[.string ⟨#[48, 49, 50, 51, 52, 53, 54, 55, 56, 57, 97, 98, 99, 100, 101, 102]⟩, .int .u8 h.toNat] w fun e w' => e = .returned (.int .i64 x) ∧ w' = w) := Lib.hid (fun w => by have := HI.out h w; rwa [hx] at this)
    have n1 : ¬ (x : Int) < 0 := by omega
    cases hy : hexL.idxOf? k with
    | none =>
      have I2 : Hid (∀ w, Calls Tryd.prog 81 #[.string ⟨#[48, 49, 50, 51, 52, 53, 54, 55, 56, 57, 97, 98, 99, 100, 101, 102]⟩, .int .u8 k.toNat] w fun e w' => e = .returned (.int .i64 (-1)) ∧ w' = w) := Lib.hid (fun w => by have := HI.out k w; rwa [hy] at this)
      have HN := Lib.hid (hvn.out (.inr hy))
      clear hx hy hvn hvs HI
      go_wp2_with (go_at_call 80; refine HC.out.mono ?_; rintro e w1 ⟨rfl, rfl⟩; rw [HP.out])
      go_quiet ((first | (go_at_call 81; refine (I1.out _).mono ?_; rintro e w1 ⟨rfl, rfl⟩; exact ⟨rfl, _, rfl⟩) | (go_at_call 81; refine (I2.out _).mono ?_; rintro e w1 ⟨rfl, rfl⟩; exact ⟨rfl, _, rfl⟩)))
      go_wp2
      go_ret3
      rw [HN.out]
      exact ⟨rfl, _, rfl⟩
    | some y =>
      have hy16 := hex_small k y hy
      have I2 : Hid (∀ w, Calls Tryd.prog 81 #[.string ⟨#[48, 49, 50, 51, 52, 53, 54, 55, 56, 57, 97, 98, 99, 100, 101, 102]⟩, .int .u8 k.toNat] w fun e w' => e = .returned (.int .i64 y) ∧ w' = w) := Lib.hid (fun w => by have := HI.out k w; rwa [hy] at this)
      have n2 : ¬ (y : Int) < 0 := by omega
      have HN := Lib.hid (hvs.out x y hx hy)
      have hj := hex_join ⟨x, hx16⟩ ⟨y, hy16⟩
      simp only at hj
      have hw1 : (x : Int) * 16 < 256 := by omega
      have hw2 : ((x * 16 + y : Nat) : Int) < 256 := by omega
      have h4'' : (4 : Int) ≤ (r.length : Int) + 4 := by omega
      clear hx hy hvn hvs HI
      go_wp2_with (go_at_call 80; refine HC.out.mono ?_; rintro e w1 ⟨rfl, rfl⟩; rw [HP.out])
      go_quiet ((first | (go_at_call 81; refine (I1.out _).mono ?_; rintro e w1 ⟨rfl, rfl⟩; exact ⟨rfl, _, rfl⟩) | (go_at_call 81; refine (I2.out _).mono ?_; rintro e w1 ⟨rfl, rfl⟩; exact ⟨rfl, _, rfl⟩)))
      go_wp2
      go_quiet (fail)
      go_wp2
      go_ret3
      rw [HN.out, HX.out]
      refine ⟨?_, _, drewN_two _ _ _⟩
      have e : (UInt8.ofNat (x * 16 + y)).toNat = x * 16 + y := by simp; omega
      rw [e]
      first | rfl | (congr 4; omega)

theorem next_ (l : List UInt8) (w : World) (h : l ≠ []) (hs : l.length ≤ 1000000) : Calls Tryd.prog 66 #[.string ⟨l.toArray⟩] w fun e w' => e = .returned (nextV l) ∧ ∃ k, w' = w.drewN k := by
  match l, h with
  | a :: r, _ =>
    by_cases ha : a = 92
    · subst ha
      match r with
      | [] => exact next_short [] w (by simp) rfl rfl
      | b :: r2 =>
        by_cases hb : b = 92
        · subst hb
          exact next_slash r2 w (by simp at hs; omega)
        · have hbb : ((92 : UInt8) == b) = false := by rw [beq_eq_false_iff_ne]; exact fun e => hb e.symm
          have hpf : ∀ t, ([92, 92] : List UInt8).isPrefixOf (92 :: b :: t) = false := by
            intro t
            show ((92 : UInt8) == 92 && (((92 : UInt8) == b) && List.isPrefixOf [] t)) = false
            rw [hbb]; rfl
          match r2 with
          | [] => exact next_short [b] w (by simp) (hpf _) (by simp [nextL, hb])
          | [c] => exact next_short [b, c] w (by simp) (hpf _) (by simp [nextL, hb])
          | h :: k :: r4 =>
            by_cases hb' : b = 120
            · subst hb'
              exact next_hex h k r4 w (by simp at hs; omega)
            · exact next_other b h k r4 w (by simp at hs; omega) hb hb'
    · exact next_plain a r w ha (by simp at hs; omega)
end Go.Proofs.YtjcjmjnajhkdaaaDoor

-- part EscU
namespace Go.Proofs.YtjcjmjnajhkdaaaDoor
open Go.RowKit
set_option linter.unusedVariables false
set_option linter.unusedSimpArgs false
set_option maxRecDepth 100000

noncomputable def unqV (s : List UInt8) : Value := match unqL s with
  | some out => .tuple #[.string ⟨out.toArray⟩, .int .i64 0]
  | none => .tuple #[.string ⟨#[]⟩, .int .i64 3]

theorem reads_nil {t : List UInt8} (h : Reads [] t) : t = [] := by
  cases h with
  | done => rfl
  | step h1 _ => exact nomatch h1
theorem reads_next {s r o : List UInt8} {c : UInt8} (h : nextL s = some (c, r)) (ho : Reads s o) : ∃ t, o = c :: t ∧ Reads r t := by
  cases ho with
  | done => exact nomatch h
  | step h1 h2 => rw [h] at h1; injection h1 with h1; injection h1 with e1 e2; subst e1; subst e2; exact ⟨_, rfl, h2⟩
theorem reads_none {s o : List UInt8} (h : nextL s = none) (hs : s ≠ []) (ho : Reads s o) : False := by
  cases ho with
  | done => exact hs rfl
  | step h1 h2 => rw [h] at h1; exact nomatch h1
theorem quote_reads {s o : List UInt8} (h : quoteL o = s) (hs : s ≠ [45]) : Reads s o := by
  unfold quoteL at h
  split at h
  · exact absurd h.symm hs
  · split at h
    · rename_i e; subst e; subst h
      exact .step (c := 45) (r := []) (by decide +kernel) .done
    · subst h; exact reads_signs o
theorem next_len {s r : List UInt8} {c : UInt8} (h : nextL s = some (c, r)) : r.length < s.length := by
  unfold nextL at h
  split at h
  · exact nomatch h
  · split at h
    · injection h with h; injection h with _ h; subst h; simp; try omega
    · split at h
      · exact nomatch h
      · split at h
        · injection h with h; injection h with _ h; subst h; simp; try omega
        · split at h
          · exact nomatch h
          · exact nomatch h
          · split at h
            · exact nomatch h
            · split at h
              · injection h with h; injection h with _ h; subst h; simp; omega
              · exact nomatch h

/-- What stands when `rest` is left of s, and `out` is read. -/
def UnInv (s out rest : List UInt8) : Prop := out.length + rest.length ≤ s.length ∧ ∀ o, Reads s o → ∃ t, o = out ++ t ∧ Reads rest t
theorem UnInv.start (s : List UInt8) : UnInv s [] s := ⟨by simp, fun o h => ⟨o, rfl, h⟩⟩
theorem UnInv.step {s out rest r : List UInt8} {c : UInt8} (h : UnInv s out rest) (hn : nextL rest = some (c, r)) : UnInv s (out ++ [c]) r := by
  refine ⟨by have := next_len hn; have := h.1; simp; omega, fun o ho => ?_⟩
  obtain ⟨t, e, ht⟩ := h.2 o ho
  obtain ⟨t', e', ht'⟩ := reads_next hn ht
  exact ⟨t', by rw [e, e']; simp, ht'⟩
theorem UnInv.fails {s out rest : List UInt8} (h : UnInv s out rest) (hs : s ≠ [45]) (hr : rest ≠ []) (hn : nextL rest = none) : unqL s = none := by
  refine unq_none fun o ho => ?_
  obtain ⟨t, _, ht⟩ := h.2 o (quote_reads ho hs)
  exact reads_none hn hr ht
theorem UnInv.ends {s out : List UInt8} (h : UnInv s out []) (hs : s ≠ [45]) (hq : quoteL out ≠ s) : unqL s = none := by
  refine unq_none fun o ho => ?_
  obtain ⟨t, e, ht⟩ := h.2 o (quote_reads ho hs)
  rw [reads_nil ht, List.append_nil] at e
  exact hq (e ▸ ho)

set_option maxHeartbeats 1000000 in
theorem unquote_big (s : List UInt8) (w : World) (hs : s.length ≤ 100000) (h45 : s ≠ [45]) : Calls Tryd.prog 42 #[.string ⟨s.toArray⟩] w fun e w' => e = .returned (unqV s) ∧ Pure' w w' := by
  obtain ⟨i0, hi, hz0, hz1, hz2⟩ := info_parts u8info'
  have q2 : (s == [45]) = false := by simpa using h45
  have HN := Lib.hid next_
  have HQ := Lib.hid quote_
  go_enter Tryd.func42, Tryd.ntmps42
  go_wp2
  go_loopw [4, 5] (fun v4 v5 wr => ∃ out rest : List UInt8, ∃ a c, v4 = .slice a out.length c ∧ Row wr 5 1 (.slice a out.length c) out.length (out.map byteV) ∧ v5 = .string ⟨rest.toArray⟩ ∧ UnInv s out rest ∧ Pure' w wr ∧ w.heap.size ≤ wr.heap.size ∧ (∀ b, (Value.slice a out.length c).ownBlock = some b → w.heap.size ≤ b)) (fun _ v5 _ => match v5 with | .string b => b.size | _ => 0)
  case atStart => exact ⟨[], s, none, 0, rfl, Row.nil _ _ _, rfl, UnInv.start s, Keeps.refl _ _, Nat.le_refl _, by simp [Value.ownBlock]⟩
  case round =>
    obtain ⟨out, rest, a, c, rfl, hrow, rfl, hinv, hpure, hsz, hown⟩ := hrel
    have HI := Lib.hid hinv
    have HR := Lib.hid hrow
    have HP := Lib.hid hpure
    have HO := Lib.hid hown
    clear hinv hrow hpure hown
    by_cases hr : rest = []
    · subst hr
      have hcv := conv_row (dst := 9) Tryd.underlying87 Tryd.underlying5 Tryd.underlying9 HR.out
      have hlen : out.length ≤ 1000000 := by have := HI.out.1; simp at this; omega
      by_cases hq : quoteL out = s
      · have hv := Lib.hid (show unqV s = .tuple #[.string ⟨out.toArray⟩, .int .i64 0] by unfold unqV; rw [unq_iff.2 hq])
        have HQ1 := Lib.hid hq
        clear hq
        go_wp2_with (go_at_call 54; refine (HQ.out _ _ hlen).mono ?_; rintro e w2 ⟨rfl, hk2⟩; rw [HQ1.out]; have HK2 := Lib.hid hk2; clear hk2)
        go_ret2
        rw [hv.out]
        exact ⟨rfl, HP.out.trans HK2.out (fun _ _ h => h)⟩
      · have hv := Lib.hid (show unqV s = .tuple #[.string ⟨#[]⟩, .int .i64 3] by unfold unqV; rw [HI.out.ends h45 hq])
        have hq2 : (quoteL out == s) = false := by simpa using hq
        clear hq
        go_wp2_with (go_at_call 54; refine (HQ.out _ _ hlen).mono ?_; rintro e w2 ⟨rfl, hk2⟩; have HK2 := Lib.hid hk2; clear hk2)
        go_ret2
        rw [hv.out]
        exact ⟨rfl, HP.out.trans HK2.out (fun _ _ h => h)⟩
    · have hre : rest.isEmpty = false := by cases rest with | nil => exact absurd rfl hr | cons _ _ => rfl
      have hlen : rest.length ≤ 1000000 := by have := HI.out.1; omega
      cases hn : nextL rest with
      | none =>
        have hv := Lib.hid (show unqV s = .tuple #[.string ⟨#[]⟩, .int .i64 3] by unfold unqV; rw [HI.out.fails h45 hr hn])
        have hx := Lib.hid (show nextV rest = .tuple #[.int .u8 0, .string ⟨#[]⟩, .bool false] by unfold nextV; rw [hn])
        clear hn
        go_wp2_with (go_at_call 66; refine (HN.out rest _ hr hlen).mono ?_; rintro e w2 ⟨rfl, q, rfl⟩; rw [hx.out])
        go_ret2
        rw [hv.out]
        exact ⟨rfl, HP.out.drewN _⟩
      | some cr =>
        obtain ⟨b, r⟩ := cr
        have hx := Lib.hid (show nextV rest = .tuple #[.int .u8 b.toNat, .string ⟨r.toArray⟩, .bool true] by unfold nextV; rw [hn])
        have HI2 := Lib.hid (HI.out.step hn)
        have HL := Lib.hid (next_len hn)
        clear hn
        go_wp2_with (first | (go_at_call 66; refine (HN.out rest _ hr hlen).mono ?_; rintro e w2 ⟨rfl, q, rfl⟩; rw [hx.out]) | (at_builtin; refine wpl_append _ rfl (.tmp 23) (.tmp 25) 87 rfl 5 i0 (.int .u8 0) 1 1 Tryd.underlying87 hi hz0 hz1 hz2 rfl (by decide) (.slice a out.length c) out.length (out.map byteV) rfl ?own ⟨wr.heap.size, 0, none⟩ 1 1 [.int .u8 b.toNat] rfl rfl ?news ?one (by decide) ?b1 ?b2 ?k))
        case own => exact (HR.out.drewN _).alloc _
        case news => exact news1
        case one => exact fun u hu => by simp at hu; subst hu; rfl
        case b1 => unfold maxLen; have := HI.out.1; omega
        case b2 => have := HI.out.1; omega
        case k =>
          intro g cap w3 hrow3 hgrow hg hgl
          have HR3 := Lib.hid hrow3
          have HG3 := Lib.hid hgrow
          have HGB := Lib.hid hg
          clear hrow3 hgrow hg
          go_wp2
          go_roundw
          case rel =>
            have hsz3 := HG3.out.size
            have hP3 : Pure' w w3 := (((HP.out.drewN q).alloc _)).grown HG3.out (fun k hk => .inr (HO.out k hk))
            refine ⟨out ++ [b], r, some ⟨g, 0, none⟩, cap, by simp, ?_, rfl, HI2.out, hP3, hP3.size, ?_⟩
            · have := HR3.out
              simpa [byteV] using this
            · intro x hx
              have hxg : g = x := by simpa [Value.ownBlock] using hx
              rcases HGB.out with h | h
              · exact hxg ▸ HO.out g h
              · have h' : g = wr.heap.size + 1 := h
                omega
          case measure => have := HL.out; simp [ByteArray.size]; omega

theorem unqV_dash : unqV [45] = .tuple #[.string ⟨#[]⟩, .int .i64 0] := by unfold unqV; rw [unq_iff.2 (show quoteL [] = [45] from rfl)]
set_option maxHeartbeats 1000000 in
theorem unquote_ (s : List UInt8) (w : World) (hs : s.length ≤ 100000) : Calls Tryd.prog 42 #[.string ⟨s.toArray⟩] w fun e w' => e = .returned (unqV s) ∧ Pure' w w' := by
  by_cases h45 : s = [45]
  · subst h45
    rw [unqV_dash]
    go_enter Tryd.func42, Tryd.ntmps42
    go_wp2
    go_ret2
    exact ⟨rfl, Keeps.refl _ _⟩
  · exact unquote_big s w hs h45
end Go.Proofs.YtjcjmjnajhkdaaaDoor

-- part EscV
namespace Go.Proofs.YtjcjmjnajhkdaaaDoor
open Go.RowKit
set_option linter.unusedVariables false
set_option linter.unusedSimpArgs false
set_option maxRecDepth 100000

/-- What stands in the reference's Unquote: out is read, the signs of out stand at the start. -/
theorem runq_ends {s out : List UInt8} (h : signsL out = s) (h0 : s ≠ []) (h45 : s ≠ [45]) : unqL s = some out := by
  refine unq_iff.2 ?_
  unfold quoteL
  have e1 : out ≠ [] := fun e => h0 (by rw [← h, e]; rfl)
  have e2 : out ≠ [45] := fun e => h45 (by rw [← h, e]; decide +kernel)
  rw [if_neg e1, if_neg e2, h]
theorem runq_fails {s out rest : List UInt8} (h : signsL out ++ rest = s) (hr : rest ≠ []) (h45 : s ≠ [45]) (h2d : s ≠ [92, 120, 50, 100]) (hn : ∀ c : UInt8, ¬ signL c <+: rest) : unqL s = none := by
  refine unq_none fun o ho => ?_
  have hso : signsL o = s := by
    unfold quoteL at ho
    split at ho
    · exact absurd ho.symm h45
    · split at ho
      · exact absurd (ho.symm.trans (by decide +kernel)) h2d
      · exact ho
  obtain ⟨d, _, hd⟩ := signs_cut (hso.trans h.symm)
  cases d with
  | nil => exact hr (by simpa [signsL] using hd.symm)
  | cons c d => exact hn c ⟨signsL d, by simpa [signsL] using hd⟩

/-- The reference's state: out is read, rest is left. -/
def RuSt (s : List UInt8) (w wr : World) (out rest : List UInt8) (a : Option Addr) (c : Nat) : Prop :=
  Row wr 5 1 (.slice a out.length c) out.length (out.map byteV) ∧ signsL out ++ rest = s ∧ Pure' w wr ∧ (∀ b, (Value.slice a out.length c).ownBlock = some b → w.heap.size ≤ b)

theorem RuSt.pure {s : List UInt8} {w wr w2 : World} {out rest : List UInt8} {a : Option Addr} {c : Nat} (h : RuSt s w wr out rest a c) (hk : Pure' wr w2) : RuSt s w w2 out rest a c :=
  ⟨h.1.keep hk (fun _ _ h => h), h.2.1, h.2.2.1.trans hk (fun _ _ h => h), h.2.2.2⟩
theorem signs_ge : ∀ l, l.length ≤ (signsL l).length
  | [] => Nat.le_refl _
  | c :: l => by
    have h1 := signs_ge l
    have h2 := List.length_pos_iff.2 (sign_ne c)
    simp only [signsL, List.flatMap_cons, List.length_append, List.length_cons] at *
    omega

set_option maxHeartbeats 2000000 in
theorem runquote_big (s : List UInt8) (w : World) (hs : s.length ≤ 100000) (h45 : s ≠ [45]) (h2d : s ≠ [92, 120, 50, 100]) (h0 : s ≠ []) : Calls Tryd.prog 46 #[.string ⟨s.toArray⟩] w fun e w' => e = .returned (unqV s) ∧ Pure' w w' := by
  obtain ⟨i0, hi, hz0, hz1, hz2⟩ := info_parts u8info'
  have q1 : (s == [45]) = false := by simpa using h45
  have q2 : (s == [92, 120, 50, 100]) = false := by simpa using h2d
  have q3 : s.isEmpty = false := by cases s with | nil => exact absurd rfl h0 | cons _ _ => rfl
  have hsz : ((⟨s.toArray⟩ : ByteArray)).size = s.length := by simp [ByteArray.size]
  have HS := Lib.hid rsign_
  have H0 := Lib.hid h0
  have H1 := Lib.hid h45
  have H2 := Lib.hid h2d
  have HR0 := Lib.hid (show RuSt s w (w.alloc (.cells #[] 5)) [] s (some ⟨w.heap.size, 0, none⟩) 0 from ⟨by have := row_new w [] 0 rfl (by decide); exact this, rfl, (Keeps.refl _ w).alloc _, by intro b hb; simp [Value.ownBlock] at hb; omega⟩)
  clear h0 h45 h2d
  generalize hS : (⟨s.toArray⟩ : ByteArray) = S at *
  generalize hn : s.length = n at *
  go_enter Tryd.func46, Tryd.ntmps46
  subst hS
  go_wp2
  go_loopw [4, 5] (fun v4 v5 wr => ∃ (out rest : List UInt8) (a : Option Addr) (c : Nat), v4 = .slice a out.length c ∧ v5 = .int .i64 (signsL out).length ∧ RuSt s w wr out rest a c) (fun _ v5 _ => n - (intOf v5).toNat)
  case atStart => exact ⟨[], s, _, 0, rfl, rfl, HR0.out⟩
  case round =>
    obtain ⟨out, rest, a, c, rfl, rfl, hst⟩ := hrel
    have HT := Lib.hid hst
    have hl : (signsL out).length + rest.length = n := by rw [← hn, ← hst.2.1, List.length_append]
    clear hst
    by_cases hr : rest = []
    · subst hr
      have hcv := conv_row (dst := 9) Tryd.underlying87 Tryd.underlying5 Tryd.underlying9 HT.out.1
      have hle : (signsL out).length = n := by simpa using hl
      have hv := Lib.hid (show unqV s = .tuple #[.string ⟨out.toArray⟩, .int .i64 0] by unfold unqV; rw [runq_ends (by simpa using HT.out.2.1) H0.out H1.out])
      go_wp2
      go_ret2
      rw [hv.out]
      exact ⟨rfl, HT.out.2.2.1⟩
    · have hlt : (signsL out).length < n := by have := List.length_pos_iff.2 hr; omega
      go_wp2
      go_loopw [4, 5, 6, 7] (fun v4 v5 v6 v7 wi => ∃ (k : Nat) (fd : Bool) (out' rest' : List UInt8) (a' : Option Addr) (c' : Nat), k ≤ 256 ∧ v7 = .int .i64 k ∧ v6 = .bool fd ∧ v4 = .slice a' out'.length c' ∧ v5 = .int .i64 (signsL out').length ∧ RuSt s w wi out' rest' a' c' ∧ (fd = false → rest' = rest ∧ ∀ x : UInt8, x.toNat < k → ¬ signL x <+: rest) ∧ (fd = true → rest'.length < rest.length)) (fun _ _ _ v7 _ => 256 - (intOf v7).toNat)
      case atStart => exact ⟨0, false, out, rest, a, c, by omega, rfl, rfl, rfl, rfl, HT.out, fun _ => ⟨rfl, fun x h => absurd h (Nat.not_lt_zero _)⟩, fun h => nomatch h⟩
      case round =>
        obtain ⟨k, fd, out', rest', a', c', hk, rfl, rfl, rfl, rfl, hst, hf, ht⟩ := hrel
        have HT2 := Lib.hid hst
        have HF := Lib.hid hf
        have HD := Lib.hid ht
        clear hst hf ht
        cases fd with
        | true =>
          have HD0 := Lib.hid (HD.out rfl)
          have hl2 : (signsL out').length + rest'.length = n := by rw [← hn, ← HT2.out.2.1, List.length_append]
          clear HD HF
          by_cases hk2 : (k : Int) < 256
          · go_wp2
            go_roundw
            case rel => exact ⟨out', rest', a', c', rfl, rfl, HT2.out⟩
            case measure => have := HD0.out; simp [intOf]; omega
          · go_wp2
            go_roundw
            case rel => exact ⟨out', rest', a', c', rfl, rfl, HT2.out⟩
            case measure => have := HD0.out; simp [intOf]; omega
        | false =>
          have HF0 := Lib.hid (HF.out rfl)
          clear HF HD
          by_cases hk2 : k < 256
          · have hk64 : (k : Int) < 256 := by omega
            have hb : ((UInt8.ofNat k).toNat : Int) = k := by simp; omega
            have HS1 : Hid (∀ w, Calls Tryd.prog 59 #[.int .u8 k] w fun e w' => e = .returned (.string ⟨(signL (UInt8.ofNat k)).toArray⟩) ∧ Pure' w w') := Lib.hid (fun w => by have := rsign_ (UInt8.ofNat k) w; rwa [hb] at this)
            have hpre : (signL (UInt8.ofNat k)) <+: rest ↔ (s.drop (signsL out').length).take (signL (UInt8.ofNat k)).length = signL (UInt8.ofNat k) := by
              have e1 : s.drop (signsL out').length = rest := by rw [← HT2.out.2.1, List.drop_left, HF0.out.1]
              rw [e1, List.prefix_iff_eq_take, eq_comm]
            have hA : (signsL out').length + rest.length = n := by rw [← hn, ← HT2.out.2.1, List.length_append, HF0.out.1]
            have hT := sign_len (UInt8.ofNat k)
            have HX : Hid (∀ A B : Nat, (⟨s.toArray⟩ : ByteArray).extract A (A + B) = ⟨((s.drop A).take B).toArray⟩) := Lib.hid (fun A B => bytes_eq (by simp [ByteArray.extract, ByteArray.copySlice, List.take_drop]))
            have HO := Lib.hid (HT2.out.2.2.2)
            generalize hAA : (signsL out').length = A at *
            generalize hTT : signL (UInt8.ofNat k) = T at *
            generalize hBB : T.length = B at *
            have hts : (⟨T.toArray⟩ : ByteArray).size = B := by simp [ByteArray.size, hBB]
            have b1 : (A : Int) ≤ 100000 := by omega
            have b2 : (B : Int) ≤ 4 := by omega
            by_cases hfit : B ≤ n - A
            · have f1 : (B : Int) ≤ (n : Int) - (A : Int) := by omega
              have f2 : (A : Int) + (B : Int) ≤ (n : Int) := by omega
              have hx := HX.out A B
              generalize hY : (s.drop A).take B = Y at *
              cases hyt : (Y == T) with
              | true =>
                have HPre := Lib.hid (hpre.2 (eq_of_beq hyt))
                have HNew := Lib.hid (show signsL (out' ++ [UInt8.ofNat k]) = signsL out' ++ T by rw [signs_append, signs_one, hTT])
                clear hpre
                go_wp2_with (first | (go_at_call 59; refine (HS1.out _).mono ?_; rintro e w2 ⟨rfl, hk3⟩; have HK3 := Lib.hid hk3; clear hk3) | (at_builtin; refine wpl_append _ rfl (.tmp 49) (.tmp 52) 87 rfl 5 i0 (.int .u8 0) 1 1 Tryd.underlying87 hi hz0 hz1 hz2 rfl (by decide) (.slice a' out'.length c') out'.length (out'.map byteV) rfl ?own ⟨w2.heap.size, 0, none⟩ 1 1 [.int .u8 k] rfl rfl ?news ?one (by decide) ?b1 ?b2 ?k))
                case own => exact (HT2.out.1.keep HK3.out (fun _ _ h => h)).alloc _
                case news => exact news1
                case one => exact fun u hu => by simp at hu; subst hu; rfl
                case b1 => have := signs_ge out'; unfold maxLen; omega
                case b2 => have := signs_ge out'; omega
                case k =>
                  intro g cap w3 hrow3 hgrow hg hgl
                  have HR3 := Lib.hid hrow3
                  have HG3 := Lib.hid hgrow
                  have HGB := Lib.hid hg
                  clear hrow3 hgrow hg
                  go_wp2
                  go_roundw
                  case rel =>
                    obtain ⟨tl, htl⟩ := HPre.out
                    have hP3 : Pure' w w3 := (((HT2.out.2.2.1.trans HK3.out (fun _ _ h => h)).alloc _)).grown HG3.out (fun k hk => .inr (HO.out k hk))
                    refine ⟨k + 1, true, out' ++ [UInt8.ofNat k], tl, some ⟨g, 0, none⟩, cap, by omega, by go_num, rfl, by simp, ?_, ⟨?_, ?_, hP3, ?_⟩, (fun h => nomatch h), fun _ => ?_⟩
                    · rw [HNew.out, List.length_append, hAA, hBB]; simp
                    · have e : byteV (UInt8.ofNat k) = .int .u8 k := by unfold byteV; rw [hb]
                      rw [List.map_append, List.map_cons, List.map_nil, e]
                      have := HR3.out
                      simpa using this
                    · rw [HNew.out, List.append_assoc, htl, ← HF0.out.1]; exact HT2.out.2.1
                    · intro x hx
                      have hxg : g = x := by simpa [Value.ownBlock] using hx
                      rcases HGB.out with h | h
                      · exact hxg ▸ HO.out g h
                      · have h' : g = w2.heap.size + 1 := h
                        have := (HT2.out.2.2.1.trans HK3.out (fun _ _ h => h)).size
                        omega
                    · have hTne : 0 < T.length := List.length_pos_iff.2 (by rw [← hTT]; exact sign_ne _)
                      rw [← htl, List.length_append]; omega
                  case measure => simp [intOf]; omega
              | false =>
                have HNO : Hid (¬ T <+: rest) := Lib.hid (fun h => by rw [hpre.1 h] at hyt; simp at hyt)
                clear hpre
                go_wp2_with (go_at_call 59; refine (HS1.out _).mono ?_; rintro e w2 ⟨rfl, hk3⟩; have HK3 := Lib.hid hk3; clear hk3)
                go_roundw
                case rel =>
                  refine ⟨k + 1, false, out', rest', a', c', by omega, by go_num, rfl, rfl, by rw [hAA], HT2.out.pure HK3.out, fun _ => ⟨HF0.out.1, fun x hx => ?_⟩, fun h => nomatch h⟩
                  by_cases hxk : x.toNat = k
                  · have : x = UInt8.ofNat k := by rw [← hxk]; simp
                    rw [this, hTT]
                    exact HNO.out
                  · exact HF0.out.2 x (by omega)
                case measure => simp [intOf]; omega
            · have f1 : (n : Int) - (A : Int) < (B : Int) := by omega
              have HNO : Hid (¬ T <+: rest) := Lib.hid (fun h => by have := h.length_le; omega)
              clear hpre
              go_wp2_with (go_at_call 59; refine (HS1.out _).mono ?_; rintro e w2 ⟨rfl, hk3⟩; have HK3 := Lib.hid hk3; clear hk3)
              go_roundw
              case rel =>
                refine ⟨k + 1, false, out', rest', a', c', by omega, by go_num, rfl, rfl, by rw [hAA], HT2.out.pure HK3.out, fun _ => ⟨HF0.out.1, fun x hx => ?_⟩, fun h => nomatch h⟩
                by_cases hxk : x.toNat = k
                · have : x = UInt8.ofNat k := by rw [← hxk]; simp
                  rw [this, hTT]
                  exact HNO.out
                · exact HF0.out.2 x (by omega)
              case measure => simp [intOf]; omega
          · obtain rfl : k = 256 := by omega
            have hv := Lib.hid (show unqV s = .tuple #[.string ⟨#[]⟩, .int .i64 3] by unfold unqV; rw [runq_fails HT.out.2.1 hr H1.out H2.out (fun x => HF0.out.2 x x.toNat_lt)])
            go_wp2
            go_ret2
            rw [hv.out]
            exact ⟨rfl, HT2.out.2.2.1⟩

theorem unqV_2d : unqV [92, 120, 50, 100] = .tuple #[.string ⟨#[45]⟩, .int .i64 0] := by unfold unqV; rw [unq_iff.2 (show quoteL [45] = [92, 120, 50, 100] by decide +kernel)]
theorem unqV_nil : unqV [] = .tuple #[.string ⟨#[]⟩, .int .i64 3] := by unfold unqV; rw [unq_none (fun o h => quote_ne o h)]
set_option maxHeartbeats 1000000 in
theorem runquote_ (s : List UInt8) (w : World) (hs : s.length ≤ 100000) : Calls Tryd.prog 46 #[.string ⟨s.toArray⟩] w fun e w' => e = .returned (unqV s) ∧ Pure' w w' := by
  by_cases h45 : s = [45]
  · subst h45
    rw [unqV_dash]
    go_enter Tryd.func46, Tryd.ntmps46
    go_wp2
    go_ret2
    exact ⟨rfl, Keeps.refl _ _⟩
  · by_cases h2d : s = [92, 120, 50, 100]
    · subst h2d
      rw [unqV_2d]
      go_enter Tryd.func46, Tryd.ntmps46
      go_wp2
      go_ret2
      exact ⟨rfl, Keeps.refl _ _⟩
    · by_cases h0 : s = []
      · subst h0
        rw [unqV_nil]
        go_enter Tryd.func46, Tryd.ntmps46
        go_wp2
        go_ret2
        exact ⟨rfl, Keeps.refl _ _⟩
      · exact runquote_big s w hs h45 h2d h0
end Go.Proofs.YtjcjmjnajhkdaaaDoor

-- part EscP
namespace Go.Proofs.YtjcjmjnajhkdaaaDoor
open Go.Lib
set_option linter.unusedVariables false
set_option linter.unusedSimpArgs false

def wordsF : List UInt8 → List UInt8 → List (List UInt8)
  | [], w => if w = [] then [] else [w]
  | c :: r, w => if c = 32 then (if w = [] then [] else [w]) ++ wordsF r [] else wordsF r (w ++ [c])
def isSp (n : Nat) : Bool := n == 32

theorem wordsF_skip : ∀ (k : Nat) (l w : List UInt8), k ≤ l.length → (∀ j, j < k → l.getD j 0 ≠ 32) → wordsF l w = wordsF (l.drop k) (w ++ l.take k)
  | 0, l, w, _, _ => by simp
  | k + 1, [], w, h, _ => by simp at h
  | k + 1, c :: r, w, h, hz => by
    have h0 := hz 0 (by omega)
    have hc : c ≠ 32 := by simpa using h0
    rw [wordsF, if_neg hc, wordsF_skip k r (w ++ [c]) (by simpa using h) (fun j hj => by have := hz (j + 1) (by omega); simpa using this)]
    simp

theorem decodeN_sp (n b0 b1 b2 b3 : Nat) : ((decodeN n b0 b1 b2 b3).1 = 32 ∧ b0 = 32 ∧ (decodeN n b0 b1 b2 b3).2 = 1) ∨ ((decodeN n b0 b1 b2 b3).1 ≠ 32 ∧ b0 ≠ 32) := by
  unfold decodeN
  repeat' split
  all_goals (first | omega | (simp only; omega))

theorem get_getD (s : ByteArray) (i : Nat) : s.get! i = s.data.toList.getD i 0 := by
  show s.data[i]! = _
  rw [Array.getElem!_eq_getD, Array.getD_eq_getD_getElem?, List.getD_eq_getElem?_getD, Array.getElem?_toList]
  rfl

theorem sp_step (s : ByteArray) (pos : Nat) (h : pos < s.size) :
    1 ≤ (Utf8.decode s pos).2 ∧ pos + (Utf8.decode s pos).2 ≤ s.size ∧
    ((isSp (Utf8.decode s pos).1 = true ∧ s.data.toList.getD pos 0 = 32 ∧ (Utf8.decode s pos).2 = 1) ∨
     (isSp (Utf8.decode s pos).1 = false ∧ ∀ j, j < (Utf8.decode s pos).2 → (s.data.toList.drop pos).getD j 0 ≠ 32)) := by
  have hw := width_pos s pos
  have h1 := decodeN_le_n' (s.size - pos) (s.get! pos).toNat (s.get! (pos + 1)).toNat (s.get! (pos + 2)).toNat (s.get! (pos + 3)).toNat (by omega)
  have h2 := decodeN_sp (s.size - pos) (s.get! pos).toNat (s.get! (pos + 1)).toNat (s.get! (pos + 2)).toNat (s.get! (pos + 3)).toNat
  have h3 := decodeN_conts (s.size - pos) (s.get! pos).toNat (s.get! (pos + 1)).toNat (s.get! (pos + 2)).toNat (s.get! (pos + 3)).toNat
  rw [← decode_at] at h1 h2 h3
  obtain ⟨c2, c3, c4, c5⟩ := h3
  refine ⟨hw, by omega, ?_⟩
  rcases h2 with ⟨e1, e2, e3⟩ | ⟨e1, e2⟩
  · refine .inl ⟨by simp [isSp, e1], ?_, e3⟩
    rw [← get_getD]
    exact UInt8.toNat_inj.1 e2
  · refine .inr ⟨by simp [isSp, e1], fun j hj he => ?_⟩
    have hd : (s.data.toList.drop pos).getD j 0 = s.get! (pos + j) := by
      rw [get_getD, List.getD_eq_getElem?_getD, List.getElem?_drop, List.getD_eq_getElem?_getD]
    rw [hd] at he
    have he' : (s.get! (pos + j)).toNat = 32 := by rw [he]; rfl
    match j, hj, he' with
    | 0, _, he' => exact e2 he'
    | 1, hj, he' => have := (c2 (by omega)).1; rw [he'] at this; omega
    | 2, hj, he' => have := (c3 (by omega)).1; rw [he'] at this; omega
    | 3, hj, he' => have := (c4 (by omega)).1; rw [he'] at this; omega
    | j + 4, hj, _ => omega

theorem wspans (s : ByteArray) : ∀ (f pos : Nat) (st : Option Nat) (acc : List (Nat × Nat)), s.size ≤ pos + f → pos ≤ s.size → (∀ a, st = some a → a < pos) →
    acc.map (fun p => pieceU s.data.toList p.1 p.2) ++ wordsF (s.data.toList.drop pos) (openPiece s.data.toList st pos) = (closeSpans s (spansFromP isSp s f pos st acc)).map (fun p => pieceU s.data.toList p.1 p.2)
  | f, pos, st, acc, h, hp, hst => by
    by_cases hlt : pos < s.size
    · cases f with
      | zero => omega
      | succ f =>
      obtain ⟨hw, hwn, hd⟩ := sp_step s pos hlt
      have hlen : s.data.toList.length = s.size := by rw [← Lib.size_eq]
      simp only [spansFromP, if_pos hlt]
      rcases hd with ⟨e1, e2, e3⟩ | ⟨e1, e2⟩
      · have hcons : s.data.toList.drop pos = 32 :: s.data.toList.drop (pos + 1) := by
          rw [List.drop_eq_getElem_cons (by omega)]
          congr 1
          rw [List.getD_eq_getElem?_getD, List.getElem?_eq_getElem (by omega)] at e2
          exact e2
        rw [hcons]
        simp only [wordsF, e1, if_true, e3]
        cases st with
        | none =>
          have ih := wspans s f (pos + 1) none acc (by omega) (by omega) (fun a h => by cases h)
          simpa [openPiece] using ih
        | some a =>
          have hpn := pieceU_ne s.data.toList a pos (hst a rfl) (by omega)
          have ih := wspans s f (pos + 1) none (acc ++ [(a, pos)]) (by omega) (by omega) (fun a h => by cases h)
          simpa [openPiece, hpn] using ih
      · simp only [e1, Bool.false_eq_true, if_false]
        rw [wordsF_skip (Utf8.decode s pos).2 _ _ (by rw [List.length_drop]; omega) e2, List.drop_drop]
        cases st with
        | none =>
          have ih := wspans s f (pos + (Utf8.decode s pos).2) (some pos) acc (by omega) hwn (fun a h => by cases h; omega)
          have e : ([] : List UInt8) ++ (s.data.toList.drop pos).take (Utf8.decode s pos).2 = pieceU s.data.toList pos (pos + (Utf8.decode s pos).2) := by
            unfold pieceU
            rw [List.nil_append, Nat.add_sub_cancel_left]
          simp only [openPiece] at ih ⊢
          rw [e]
          exact ih
        | some a =>
          have ih := wspans s f (pos + (Utf8.decode s pos).2) (some a) acc (by omega) hwn (fun b h => by cases h; have := hst a rfl; omega)
          simp only [openPiece] at ih ⊢
          rw [pieceU_grow _ _ _ _ (Nat.le_of_lt (hst a rfl))]
          exact ih
    · obtain rfl : pos = s.size := by omega
      have hd : s.data.toList.drop s.size = [] := List.drop_eq_nil_of_le (by rw [← Lib.size_eq]; exact Nat.le_refl _)
      rw [hd, spansFromP_end isSp s _ _ _ _ hlt]
      cases st with
      | none => simp [wordsF, closeSpans, openPiece]
      | some a =>
        have := pieceU_ne s.data.toList a s.size (hst a rfl) (by rw [← Lib.size_eq]; exact Nat.le_refl _)
        simp [wordsF, closeSpans, openPiece, this]

/-- The words of a line. -/
def wordsL (l : List UInt8) : List (List UInt8) := wordsF l []

theorem fields_words (l : List UInt8) : goFieldsP isSp ⟨l.toArray⟩ = (wordsL l).map (fun x => (⟨x.toArray⟩ : ByteArray)) := by
  have h := wspans ⟨l.toArray⟩ (ByteArray.size ⟨l.toArray⟩) 0 none [] (by omega) (Nat.zero_le _) (fun a h => by cases h)
  simp only [List.map_nil, List.nil_append, openPiece, List.drop_zero] at h
  unfold wordsL goFieldsP spansOfP
  rw [show wordsF l [] = _ from h, List.map_map]
  congr 1
  funext p
  simp only [Function.comp, pieceU]
  apply ByteArray.ext
  apply Array.ext'
  simp

/-- A text of no blank is one word. -/
theorem words_one (l : List UInt8) (hne : l ≠ []) (h : ∀ x ∈ l, x ≠ 32) : wordsL l = [l] := by
  unfold wordsL
  rw [wordsF_skip l.length l [] (Nat.le_refl _) (fun j hj => by
    rw [List.getD_eq_getElem?_getD, List.getElem?_eq_getElem hj]
    exact h _ (List.getElem_mem hj))]
  simp [wordsF, hne]

theorem wordsF_len : ∀ (l w : List UInt8), ((wordsF l w).length ≤ l.length + 1) ∧ ∀ x ∈ wordsF l w, x.length ≤ l.length + w.length
  | [], w => by
    unfold wordsF
    split
    · simp
    · simp
  | c :: r, w => by
    rw [wordsF]
    split
    · obtain ⟨h1, h2⟩ := wordsF_len r []
      refine ⟨?_, fun x hx => ?_⟩
      · split <;> simp <;> omega
      · rcases List.mem_append.1 hx with hx | hx
        · split at hx
          · cases hx
          · simp at hx; subst hx; simp
        · have := h2 x hx
          simp at this ⊢; omega
    · obtain ⟨h1, h2⟩ := wordsF_len r (w ++ [c])
      refine ⟨by simp; omega, fun x hx => ?_⟩
      have := h2 x hx
      simp at this ⊢; omega
end Go.Proofs.YtjcjmjnajhkdaaaDoor

-- part EscS
namespace Go.Proofs.YtjcjmjnajhkdaaaDoor
open Go.RowKit
set_option linter.unusedVariables false
set_option linter.unusedSimpArgs false
set_option maxRecDepth 100000

theorem texts_at {w : World} {B n k : Nat} {A : Option Addr} {l : List ByteArray} (h : Sees w B 1 A n (l.map Value.string)) (hk : k < n) : ∃ (ad : Addr) (hl : k < l.length), A = some ad ∧ w.cell? (ad.add k) = some (.string l[k]) := by
  obtain ⟨ad, u, hA, hu, hc⟩ := h.at_ hk
  have hl : k < l.length := by have := h.1; simp at this; omega
  refine ⟨ad, hl, hA, ?_⟩
  rw [List.getElem?_map, List.getElem?_eq_getElem hl] at hu
  simp only [Option.map_some, Option.some.injEq] at hu
  rw [hc, hu]

set_option maxHeartbeats 1000000 in
theorem same_ (A1 A2 : Option Addr) (n c1 c2 B : Nat) (l : List ByteArray) (w : World) (h1 : Sees w B 1 A1 n (l.map Value.string)) (h2 : Sees w B 1 A2 n (l.map Value.string)) (hn : n ≤ 1000000000) :
    Calls Tryd.prog 23 #[.slice A1 n c1, .slice A2 n c2] w fun e w' => e = .returned (.bool true) ∧ ∃ k, w' = w.drewN k := by
  have HS1 := Lib.hid h1
  have HS2 := Lib.hid h2
  clear h1 h2
  go_enter Tryd.func23, Tryd.ntmps23
  go_wp2
  go_loopw [5] (fun v5 wr => ∃ k : Nat, k ≤ n ∧ v5 = .int .i64 k ∧ ∃ q, wr = w.drewN q) (fun v5 _ => n - (intOf v5).toNat)
  case atStart => exact ⟨0, Nat.zero_le _, rfl, 0, rfl⟩
  case round =>
    obtain ⟨k, hk, rfl, q, rfl⟩ := hrel
    by_cases hlt : k < n
    · obtain ⟨ad1, hkl, rfl, hc1⟩ := texts_at HS1.out hlt
      obtain ⟨ad2, _, rfl, hc2⟩ := texts_at HS2.out hlt
      generalize l[k] = x at *
      go_wp2
      go_quiet (fail)
      go_wp2
      go_roundw
      case rel => exact ⟨k + 1, by omega, by go_num, _, rfl⟩
      case measure => simp [intOf]; omega
    · obtain rfl : k = n := by omega
      go_wp2
      go_ret
      exact ⟨rfl, _, rfl⟩

theorem words1 (W : World) (x : Nat) : Calls Tryd.prog 41 #[.int .i32 x] W fun e w' => e = .returned (.bool (isSp x)) ∧ w' = W := by
  have hb : isSp x = ((x : Int) == 32) := by
    unfold isSp
    cases h : (x == 32)
    · simp at h; simp; omega
    · simp at h; simp; omega
  have HB := Lib.hid hb
  clear hb
  go_enter Tryd.func41, Tryd.ntmps41
  go_wp2
  go_ret
  rw [HB.out]
  exact ⟨rfl, rfl⟩

theorem owns_mono {w : World} {base : Nat} {e : TypeId} {size : Nat} {v : Value} {n : Nat} {xs : List Value} (h : w.ownsRow base e size v n xs) : Row w e size v n xs := by
  refine ⟨h.1, ?_⟩
  rcases h.2 with h2 | ⟨g, cap, cur, h1, _, r⟩
  · exact .inl h2
  · exact .inr ⟨g, cap, cur, h1, Nat.zero_le _, r⟩
theorem row_empty (w : World) (e : TypeId) : Row (w.alloc (.cells #[] e)) e 1 (.slice (some ⟨w.heap.size, 0, none⟩) 0 0) 0 [] :=
  ⟨rfl, .inr ⟨w.heap.size, 0, #[], rfl, Nat.zero_le _, Blk.new w e #[], Nat.le_refl _, Nat.zero_le _, rfl, rfl⟩⟩
theorem get_c {s : List UInt8} {k : Nat} (h : k < s.length) : ∃ c, s.drop k = c :: s.drop (k + 1) ∧ ∀ h', (⟨s.toArray⟩ : ByteArray)[k]'h' = c := ⟨s[k], List.drop_eq_getElem_cons h, fun _ => rfl⟩
theorem strV_one (x : ByteArray) : ∀ u ∈ [Value.string x], u.oneCell' = true := by intro u hu; simp at hu; subst hu; rfl

/-- What both give: the words, in a row of its own. -/
def WordsPost (l : List UInt8) (w : World) (e : Ending) (w' : World) : Prop :=
  ∃ A c, e = .returned (.slice A (wordsL l).length c) ∧ Sees w' w'.heap.size 1 A (wordsL l).length (((wordsL l).map (fun x => (⟨x.toArray⟩ : ByteArray))).map Value.string) ∧ Pure' w w'

/-- .. and where it lies. -/
def WordsPost2 (l : List UInt8) (w : World) (e : Ending) (w' : World) : Prop :=
  ∃ A c, e = .returned (.slice A (wordsL l).length c) ∧ Sees w' w'.heap.size 1 A (wordsL l).length (((wordsL l).map (fun x => (⟨x.toArray⟩ : ByteArray))).map Value.string) ∧ (∀ ad, A = some ad → ∃ g, ad = ⟨g, 0, none⟩ ∧ w.heap.size ≤ g) ∧ Pure' w w'
theorem WordsPost2.less {l : List UInt8} {w w' : World} {e : Ending} (h : WordsPost2 l w e w') : WordsPost l w e w' := by
  obtain ⟨A, c, h1, h2, _, h3⟩ := h
  exact ⟨A, c, h1, h2, h3⟩
theorem own_form {w0 w : World} {e : TypeId} {size n m cp : Nat} {a : Option Addr} {xs : List Value} (h : Row w e size (.slice a m cp) n xs) (ho : ∀ b, (Value.slice a m cp).ownBlock = some b → w0.heap.size ≤ b) : ∀ ad, a = some ad → ∃ g, ad = ⟨g, 0, none⟩ ∧ w0.heap.size ≤ g := by
  intro ad e
  subst e
  rcases h.2 with ⟨h, _⟩ | ⟨g, cap, cur, hv, _⟩
  · cases h
  · cases hv
    exact ⟨g, rfl, ho g rfl⟩

set_option maxHeartbeats 1000000 in
theorem words2_ (l : List UInt8) (w : World) (hs : l.length ≤ 1000000) : Calls Tryd.prog 18 #[.string ⟨l.toArray⟩] w fun e w' => WordsPost2 l w e w' := by
  have cF := Tryd.strings_FieldsFunc_runes 41 #[] (enters_of Tryd.func41 (by kernel_rfl) rfl) isSp ⟨l.toArray⟩ w (by show l.toArray.size ≤ _; simp; omega)
    (fun W x hx hb => (words1 W x).mono fun e w' ⟨he, hw⟩ => ⟨he, 0, hw⟩)
  rw [fields_words, List.length_map] at cF
  have CF := Lib.hid cF
  clear cF
  go_enter Tryd.func18, Tryd.ntmps18
  go_wp2_with (go_at_call 40; refine CF.out.mono ?_; rintro e w1 ⟨A, rfl, hA, hrow, hbel⟩; have HR := Lib.hid hrow; have HB := Lib.hid hbel; clear hrow hbel)
  go_ret
  exact ⟨_, _, rfl, Row.sees (owns_mono HR.out), (fun ad e => by cases e; exact ⟨_, rfl, hA⟩), Keeps.of_below HB.out⟩
theorem words_ (l : List UInt8) (w : World) (hs : l.length ≤ 1000000) : Calls Tryd.prog 18 #[.string ⟨l.toArray⟩] w fun e w' => WordsPost l w e w' := (words2_ l w hs).mono fun _ _ h => h.less

theorem strInfo : (Tryd.prog.info? 9).map (fun i => (i.zero, i.size, i.bytes)) = some (some (.string ByteArray.empty), 1, 16) := by kernel_rfl

set_option maxHeartbeats 1000000 in
theorem rwords2_ (s : List UInt8) (w : World) (hs : s.length ≤ 1000000) : Calls Tryd.prog 21 #[.string ⟨s.toArray⟩] w fun e w' => WordsPost2 s w e w' := by
  obtain ⟨i0, hi, hz0, hz1, hz2⟩ := info_parts strInfo
  have hsz : ((⟨s.toArray⟩ : ByteArray)).size = s.length := by simp [ByteArray.size]
  have HG := Lib.hid (fun k => @get_c s k)
  have HX : Hid (∀ A : Nat, (⟨s.toArray⟩ : ByteArray).extract A (A + 1) = ⟨((s.drop A).take 1).toArray⟩) := Lib.hid (fun A => bytes_eq (by simp [ByteArray.extract, ByteArray.copySlice, List.take_drop]))
  generalize hn : s.length = n at *
  go_enter Tryd.func21, Tryd.ntmps21
  go_wp2
  go_loopw [3, 4, 5] (fun v3 v4 v5 wr => ∃ (k : Nat) (word : List UInt8) (acc : List (List UInt8)), k ≤ n + 1 ∧ v5 = .int .i64 k ∧ v4 = .string ⟨word.toArray⟩ ∧ word.length ≤ k ∧
      acc.length ≤ k ∧ Row wr 9 1 v3 acc.length ((acc.map (fun x => (⟨x.toArray⟩ : ByteArray))).map Value.string) ∧ (∀ b, v3.ownBlock = some b → w.heap.size ≤ b) ∧
      (k ≤ n → acc ++ wordsF (s.drop k) word = wordsL s) ∧ (k = n + 1 → acc = wordsL s) ∧ Pure' w wr) (fun _ _ v5 _ => n + 1 - (intOf v5).toNat)
  case atStart =>
    exact ⟨0, [], [], Nat.zero_le _, rfl, rfl, Nat.zero_le _, Nat.zero_le _, row_empty w _, by intro b hb; simp [Value.ownBlock] at hb; omega, fun _ => by simp [wordsL], fun h => by omega, (Keeps.refl _ w).alloc _⟩
  case round =>
    obtain ⟨k, word, acc, hk, rfl, rfl, hw, ha, hr, hown, h1, h2, hp⟩ := hrel
    obtain ⟨a, cp, rfl, hcp⟩ := hr.form
    have HR := Lib.hid hr
    have HO := Lib.hid hown
    have H1 := Lib.hid h1
    have H2 := Lib.hid h2
    have HP := Lib.hid hp
    clear hr hown h1 h2 hp
    by_cases hlt : k < n
    · obtain ⟨c, hd, hg⟩ := HG.out k hlt
      have hh := H1.out (by omega)
      rw [hd, wordsF] at hh
      have HDr := Lib.hid hd
      clear hd
      by_cases h32 : c = 32
      · rw [if_pos h32] at hh
        have t1 : ((c.toNat : Int) != 32) = false := by subst h32; rfl
        clear h32
        by_cases hwd : word = []
        · subst hwd
          rw [if_pos rfl] at hh
          have HH := Lib.hid hh
          clear hh
          go_wp2
          go_roundw
          case rel => exact ⟨k + 1, [], acc, by omega, by go_num, rfl, Nat.zero_le _, by omega, HR.out, HO.out, fun _ => HH.out, fun h => by omega, HP.out⟩
          case measure => simp [intOf]; omega
        · rw [if_neg hwd] at hh
          have q3 : word.isEmpty = false := by cases word with | nil => exact absurd rfl hwd | cons _ _ => rfl
          have HH := Lib.hid hh
          clear hh hwd
          go_wp2_with (at_builtin; refine wpl_append _ rfl (.tmp 32) (.tmp 34) 23 rfl 9 i0 (.string ByteArray.empty) 1 16 Tryd.underlying23 hi hz0 hz1 hz2 rfl (by decide) (.slice a acc.length cp) acc.length ((acc.map (fun x => (⟨x.toArray⟩ : ByteArray))).map Value.string) rfl ?own ⟨wr.heap.size, 0, none⟩ 1 1 [.string ⟨word.toArray⟩] rfl rfl ?news ?one (by decide) ?b1 ?b2 ?k)
          case own => exact Row.alloc HR.out _
          case news => exact news1
          case one => exact strV_one _
          case b1 => unfold maxLen; omega
          case b2 => omega
          case k =>
            intro b1 cap1 w1 ho1 hg1 hb1 hl1
            have HK := Lib.hid ((HP.out.alloc _).grown hg1 (fun k hk => .inr (HO.out k hk)))
            have HD : Hid (w.heap.size ≤ b1) := by
              rcases hb1 with h | h
              · exact Lib.hid (HO.out _ h)
              · exact Lib.hid (by rw [h]; have := HP.out.size; simp [World.alloc]; omega)
            have HR1 : Hid (Row w1 9 1 (.slice (some ⟨b1, 0, none⟩) (acc ++ [word]).length cap1) (acc ++ [word]).length (((acc ++ [word]).map (fun x => (⟨x.toArray⟩ : ByteArray))).map Value.string)) := Lib.hid (by simpa using ho1)
            clear ho1 hg1 hb1
            go_wp2
            go_roundw
            case rel => exact ⟨k + 1, [], acc ++ [word], by omega, by go_num, rfl, Nat.zero_le _, by simp; omega, by have := HR1.out; simpa using this, fun b hb => by simp [Value.ownBlock] at hb; rw [← hb]; exact HD.out, fun _ => by have := HH.out; simpa using this, fun h => by omega, HK.out⟩
            case measure => simp [intOf]; omega

      · rw [if_neg h32] at hh
        have t1 : ((c.toNat : Int) != 32) = true := by
          have : c.toNat ≠ 32 := fun h => h32 (UInt8.toNat_inj.1 h)
          simp; omega
        have HH := Lib.hid hh
        clear h32 hh
        have hA' : (⟨word.toArray⟩ : ByteArray).size ≤ 1000001 := by simp [ByteArray.size]; omega
        go_wp2
        go_roundw
        case rel =>
          refine ⟨k + 1, word ++ [c], acc, by omega, by go_num, ?_, by simp; omega, by omega, HR.out, HO.out, fun _ => HH.out, fun h => by omega, HP.out⟩
          rw [HX.out, HDr.out]
          exact congrArg Value.string (bytes_eq (by simp))
        case measure => simp [intOf]; omega
    · by_cases hkn : k = n
      · have hh := H1.out (by omega)
        rw [List.drop_eq_nil_of_le (by omega), wordsF] at hh
        by_cases hwd : word = []
        · subst hwd
          rw [if_pos rfl] at hh
          have HH := Lib.hid hh
          clear hh
          go_wp2
          go_roundw
          case rel => exact ⟨k + 1, [], acc, by omega, by go_num, rfl, Nat.zero_le _, by omega, HR.out, HO.out, fun h => by omega, fun _ => by have := HH.out; simpa using this, HP.out⟩
          case measure => simp [intOf]; omega
        · rw [if_neg hwd] at hh
          have q3 : word.isEmpty = false := by cases word with | nil => exact absurd rfl hwd | cons _ _ => rfl
          have HH := Lib.hid hh
          clear hh hwd
          go_wp2_with (at_builtin; refine wpl_append _ rfl (.tmp 32) (.tmp 34) 23 rfl 9 i0 (.string ByteArray.empty) 1 16 Tryd.underlying23 hi hz0 hz1 hz2 rfl (by decide) (.slice a acc.length cp) acc.length ((acc.map (fun x => (⟨x.toArray⟩ : ByteArray))).map Value.string) rfl ?own ⟨wr.heap.size, 0, none⟩ 1 1 [.string ⟨word.toArray⟩] rfl rfl ?news ?one (by decide) ?b1 ?b2 ?k)
          case own => exact Row.alloc HR.out _
          case news => exact news1
          case one => exact strV_one _
          case b1 => unfold maxLen; omega
          case b2 => omega
          case k =>
            intro b1 cap1 w1 ho1 hg1 hb1 hl1
            have HK := Lib.hid ((HP.out.alloc _).grown hg1 (fun k hk => .inr (HO.out k hk)))
            have HD : Hid (w.heap.size ≤ b1) := by
              rcases hb1 with h | h
              · exact Lib.hid (HO.out _ h)
              · exact Lib.hid (by rw [h]; have := HP.out.size; simp [World.alloc]; omega)
            have HR1 : Hid (Row w1 9 1 (.slice (some ⟨b1, 0, none⟩) (acc ++ [word]).length cap1) (acc ++ [word]).length (((acc ++ [word]).map (fun x => (⟨x.toArray⟩ : ByteArray))).map Value.string)) := Lib.hid (by simpa using ho1)
            clear ho1 hg1 hb1
            go_wp2
            go_roundw
            case rel => exact ⟨k + 1, [], acc ++ [word], by omega, by go_num, rfl, Nat.zero_le _, by simp; omega, by have := HR1.out; simpa using this, fun b hb => by simp [Value.ownBlock] at hb; rw [← hb]; exact HD.out, fun h => by omega, fun _ => HH.out, HK.out⟩
            case measure => simp [intOf]; omega

      · obtain rfl : acc = wordsL s := H2.out (by omega)
        go_wp2
        go_ret
        exact ⟨_, _, rfl, HR.out.sees, own_form HR.out HO.out, HP.out⟩
theorem rwords_ (s : List UInt8) (w : World) (hs : s.length ≤ 1000000) : Calls Tryd.prog 21 #[.string ⟨s.toArray⟩] w fun e w' => WordsPost s w e w' := (rwords2_ s w hs).mono fun _ _ h => h.less

end Go.Proofs.YtjcjmjnajhkdaaaDoor
