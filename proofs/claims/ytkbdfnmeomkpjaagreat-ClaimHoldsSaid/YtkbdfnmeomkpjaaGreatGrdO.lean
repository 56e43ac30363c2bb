/- A guard made; no condition but the sizes. -/
import Derived.Test.YtkbdfnmeomkpjaaGreatGrdN
namespace Go.Proofs.YtkbdfnmeomkpjaaGreat
open Go.RowKit
set_option linter.unusedVariables false
set_option linter.unusedSimpArgs false
set_option maxRecDepth 100000

/-! ### What it comes to, plainly -/
def gR (l : List (List UInt8)) (R : List GR) : Prop := ∀ (d : Nat) r, R[d]? = some r → ∀ c : UInt8, grHas r c.toNat = l.any (fun y => decide (y.reverse[d]? = some c))
theorem gR.step {l : List (List UInt8)} {y : List UInt8} {m : Nat} {R R' : List GR} (h : gR l R) (hn : NoteR y m m R R') (hl : R.length = m) (hl' : R'.length = m) : gR (l ++ [y]) R' := by
  intro d r' hr' c
  have hd := (List.getElem?_eq_some_iff.1 hr').1
  obtain ⟨r, hr⟩ : ∃ r, R[d]? = some r := ⟨_, List.getElem?_eq_getElem (by omega)⟩
  rw [hn d r r' hr hr' c, h d r hr c, List.any_append]
  congr 1
  simp
def gT (l : List (List UInt8)) (m : Nat) (T : Nat → List Nat) : Prop := ∀ d, d < m - 1 → T d = l.map (fun y => prN y d)
theorem gT.step {l : List (List UInt8)} {y : List UInt8} {m : Nat} {T T' : Nat → List Nat} (h : gT l m T) (hn : NoteT y m m T T') : gT (l ++ [y]) m T' := by
  intro d hd
  rw [hn d hd, if_pos (by omega), h d hd, List.map_append]
  rfl
/-- The numbers of the first k texts that end with a byte. -/
def endK (l : List (List UInt8)) (c k : Nat) : List Nat := (List.range k).filter (fun j => decide ((l.getD j []).reverse[0]? = some (UInt8.ofNat c)))
theorem endK_succ (l : List (List UInt8)) (c k : Nat) : endK l c (k + 1) = endK l c k ++ (if (l.getD k []).reverse[0]? = some (UInt8.ofNat c) then [k] else []) := by
  unfold endK
  rw [List.range_succ, List.filter_append]
  congr 1
  rw [List.filter_cons, List.filter_nil]
  by_cases h : (l.getD k []).reverse[0]? = some (UInt8.ofNat c)
  · rw [decide_eq_true h, if_pos rfl, if_pos h]
  · rw [decide_eq_false h, if_neg (by decide), if_neg h]
def gG (l : List (List UInt8)) (k : Nat) (G : Nat → List Nat) : Prop := ∀ c, c < 256 → G c = endK l c k
theorem gG.step {l : List (List UInt8)} {k : Nat} {G : Nat → List Nat} {y : List UInt8} {c : UInt8} (h : gG l k G) (hy : l[k]? = some y) (hc : y.reverse[0]? = some c) : gG l (k + 1) (fupd G c.toNat (G c.toNat ++ [k])) := by
  intro e he
  rw [endK_succ, List.getD_eq_getElem?_getD, hy]
  show _ = endK l e k ++ (if y.reverse[0]? = some (UInt8.ofNat e) then [k] else [])
  rw [hc]
  by_cases hec : e = c.toNat
  · subst hec
    rw [fupd_same, h _ he, if_pos (by simp)]
  · rw [fupd_other _ _ hec, h _ he, if_neg (by
      intro e2
      injection e2 with e2
      apply hec
      rw [e2]
      simp
      omega), List.append_nil]
theorem endK_len (l : List (List UInt8)) (c k : Nat) : (endK l c k).length ≤ k := by
  unfold endK
  have := List.length_filter_le (fun j => decide ((l.getD j []).reverse[0]? = some (UInt8.ofNat c))) (List.range k)
  simpa using this

/-! ### The parts made -/
def gr0 : GR := (0, 0, 0, 0)
theorem gr0_has (c : Nat) : grHas gr0 c = false := by
  rw [grHas_bit]
  have : grW gr0 c = 0 := by unfold grW rowW gr0; split <;> (try rfl); split <;> (try rfl); split <;> rfl
  rw [this]
  simp
theorem rowInfo : (Tryz.prog.info? 124).map (fun i => (i.zero, i.size, i.bytes)) = some (some (.agg #[.int .u64 0, .int .u64 0, .int .u64 0, .int .u64 0]), 4, 32) := by kernel_rfl
theorem slcInfo : (Tryz.prog.info? 89).map (fun i => (i.zero, i.size, i.bytes)) = some (some (.slice none 0 0), 1, 24) := by kernel_rfl
theorem made_rows (n : Nat) : (madeCells (Value.agg #[.int .u64 0, .int .u64 0, .int .u64 0, .int .u64 0]).cells (n * 4)).toList = grVs (List.replicate n gr0) := by
  have hc : (Value.agg #[.int .u64 0, .int .u64 0, .int .u64 0, .int .u64 0]).cells = #[.int .u64 0, .int .u64 0, .int .u64 0, .int .u64 0] := rfl
  rw [hc]
  apply List.ext_getElem?
  intro i
  by_cases hi : i < n * 4
  · obtain ⟨k, j, hj, rfl⟩ : ∃ k j, j < 4 ∧ i = k * 4 + j := ⟨i / 4, i % 4, Nat.mod_lt _ (by decide), by omega⟩
    have hk : (List.replicate n gr0)[k]? = some gr0 := by rw [List.getElem?_replicate, if_pos (by omega)]
    rw [grVs_at _ k j gr0 hk hj]
    have : j = 0 ∨ j = 1 ∨ j = 2 ∨ j = 3 := by omega
    have h4 : (k * 4 + j) % 4 = j := by omega
    rw [madeCells, Array.toList_map, Array.toList_range, List.getElem?_map, List.getElem?_range hi]
    show some ((#[Value.int .u64 0, Value.int .u64 0, Value.int .u64 0, Value.int .u64 0] : Array Value)[(k * 4 + j) % (#[Value.int .u64 0, Value.int .u64 0, Value.int .u64 0, Value.int .u64 0] : Array Value).size]!) = _
    rw [show (#[Value.int .u64 0, .int .u64 0, .int .u64 0, .int .u64 0] : Array Value).size = 4 from rfl, h4]
    rcases this with e | e | e | e <;> subst e <;> rfl
  · rw [List.getElem?_eq_none (by simp [madeCells]; omega), List.getElem?_eq_none (by rw [grVs_len]; simp; omega)]

theorem made_two (n : Nat) : (madeCells (Value.slice none 0 0).cells (n * 1)).toList = (List.range n).map (fun _ => Value.slice none 0 0) := by
  rw [Nat.mul_one, show (Value.slice none 0 0).cells = #[.slice none 0 0] from rfl, madeCells_one]
  apply List.ext_getElem
  · simp
  · intro i h1 h2; simp
theorem mk_rows (m : Nat) (hm : m ≤ 1000) : ∃ ZR : Array Value, ZR.toList = grVs (List.replicate m gr0) ∧ ∀ w, (Instr.makeSlice 80 (.int .i64 (m : Int)) (.int .i64 (m : Int))).run Tryz.prog w = .ok (.slice (some ⟨w.heap.size, 0, none⟩) m m) (w.alloc (.cells ZR 124)) := by
  obtain ⟨i, h1, h2, h3, h4⟩ := info_parts rowInfo
  refine ⟨_, made_rows m, fun w => ?_⟩
  have hr := run_make (P := Tryz.prog) w 80 124 i _ Tryz.underlying80 h1 h2 .i64 .i64 m m (by omega) (by omega) (by rw [h4]; omega) (by omega)
  simp only [Int.toNat_natCast] at hr
  rw [hr, h3]
theorem mk_twos (m : Nat) (hm : m ≤ 1000) : ∃ ZT : Array Value, ZT.toList = (List.range m).map (fun _ => Value.slice none 0 0) ∧ ∀ w, (Instr.makeSlice 81 (.int .i64 (m : Int)) (.int .i64 (m : Int))).run Tryz.prog w = .ok (.slice (some ⟨w.heap.size, 0, none⟩) m m) (w.alloc (.cells ZT 89)) := by
  obtain ⟨i, h1, h2, h3, h4⟩ := info_parts slcInfo
  refine ⟨_, made_two m, fun w => ?_⟩
  have hr := run_make (P := Tryz.prog) w 81 89 i _ Tryz.underlying81 h1 h2 .i64 .i64 m m (by omega) (by omega) (by rw [h4]; omega) (by omega)
  simp only [Int.toNat_natCast] at hr
  rw [hr, h3]
theorem Row.newAt {w : World} {e : TypeId} {size n b : Nat} {cs : Array Value} {xs : List Value} (hb : b = w.heap.size) (hn : n ≤ maxLen) (hl : cs.size = n * size) (hx : cs.toList = xs) : Row (w.alloc (.cells cs e)) e size (.slice (some ⟨b, 0, none⟩) n n) n xs := by
  subst hb; subst hx
  refine ⟨by simpa using hl, .inr ⟨w.heap.size, n, cs, rfl, Nat.zero_le _, Blk.new w e cs, Nat.le_refl _, hn, hl, ?_⟩⟩
  rw [List.take_of_length_le (by simp [hl])]
def nilS : Nat → Value := fun _ => .slice none 0 0
def nilL : Nat → List Nat := fun _ => []
/-- What is made first. -/
theorem GdB.made {w W : World} {n0 g b1 b2 mb m : Nat} {x : Option Addr} (hb : Blk W g 84 #[.pointer x, .slice (some ⟨b1, 0, none⟩) m m, .slice (some ⟨b2, 0, none⟩) (m - 1) (m - 1), .map (some mb)])
    (h1 : Row W 124 4 (.slice (some ⟨b1, 0, none⟩) m m) m (grVs (List.replicate m gr0))) (h2 : Row W 89 1 (.slice (some ⟨b2, 0, none⟩) (m - 1) (m - 1)) (m - 1) ((List.range (m - 1)).map (fun _ => Value.slice none 0 0)))
    (h3 : GMp Tryz.prog 5 W mb 0 nilS) (hn : n0 ≤ g ∧ n0 ≤ b1 ∧ n0 ≤ b2 ∧ n0 ≤ mb) : GdB W n0 g b1 b2 mb m 0 x (List.replicate m gr0) nilS nilL nilS nilL :=
  ⟨hb, by simp, h1, h2, Fam.nil W _ _ _, h3, Fam.nil W _ _ _, hn, fun r hr => by
    have := List.eq_of_mem_replicate hr
    subst this
    intro u hu
    simp [gr0] at hu
    subst hu
    decide⟩
end Go.Proofs.YtkbdfnmeomkpjaaGreat
