/- Two rows of numbers that are alike, and what a set's lists are; no condition but the sizes. -/
import Derived.Test.YtkbdfnmeomkpjaaGreatLnkS
namespace Go.Proofs.YtkbdfnmeomkpjaaGreat
open Go.RowKit
set_option linter.unusedVariables false
set_option linter.unusedSimpArgs false
set_option maxRecDepth 100000

theorem ints_at {w : World} {B n k : Nat} {A : Option Addr} {zs : List Int} (h : Sees w B 1 A n (zs.map (Value.int .i64))) (hk : k < n) : ∃ (ad : Addr) (z : Int), A = some ad ∧ zs[k]? = some z ∧ w.cell? (ad.add k) = some (.int .i64 z) := by
  obtain ⟨ad, u, hA, hu, hc⟩ := h.at_ hk
  have hl : k < zs.length := by have := h.1; simp at this; omega
  refine ⟨ad, zs[k], hA, List.getElem?_eq_getElem hl, ?_⟩
  rw [List.getElem?_map, List.getElem?_eq_getElem hl] at hu
  simp only [Option.map_some, Option.some.injEq] at hu
  rw [hc, hu]
theorem rsame_ (A1 A2 : Option Addr) (n c1 c2 B1 B2 : Nat) (zs : List Int) (w : World) (h1 : Sees w B1 1 A1 n (zs.map (Value.int .i64))) (h2 : Sees w B2 1 A2 n (zs.map (Value.int .i64))) (hn : n ≤ 1000000000) :
    Calls Tryz.prog 22 #[.slice A1 n c1, .slice A2 n c2] w fun e w' => e = .returned (.bool true) ∧ ∃ k, w' = w.drewN k := by
  have HS1 := Lib.hid h1
  have HS2 := Lib.hid h2
  clear h1 h2
  go_enter Tryz.func22, Tryz.ntmps22
  go_wp2
  go_loopw [5] (fun v5 wr => ∃ k : Nat, k ≤ n ∧ v5 = .int .i64 k ∧ ∃ q, wr = w.drewN q) (fun v5 _ => n - (intOf v5).toNat)
  case atStart => exact ⟨0, Nat.zero_le _, rfl, 0, rfl⟩
  case round =>
    obtain ⟨k, hk, rfl, q, rfl⟩ := hrel
    by_cases hlt : k < n
    · obtain ⟨ad1, z, rfl, hz1, hc1⟩ := ints_at HS1.out hlt
      obtain ⟨ad2, z2, rfl, hz2, hc2⟩ := ints_at HS2.out hlt
      obtain rfl : z = z2 := by rw [hz1] at hz2; injection hz2
      clear hz1 hz2
      go_wp2
      go_quiet (fail)
      go_wp2
      go_roundw
      case rel => exact ⟨k + 1, by omega, by go_num, _, rfl⟩
      case measure => simp [intOf]; omega
    · obtain rfl : k = n := by omega
      go_wp2
      go_ret
      exact ⟨rfl, _, rfl⟩

theorem sees_new (w : World) (e : TypeId) (us : List Value) (n : Nat) (hn : us.length = n) : Sees (w.alloc (.cells us.toArray e)) (w.alloc (.cells us.toArray e)).heap.size 1 (some ⟨w.heap.size, 0, none⟩) n us := by
  refine ⟨by omega, fun _ => ⟨_, rfl, ?_, fun j u hu => ?_⟩⟩
  · show w.heap.size < (w.heap.push _).size
    rw [Array.size_push]; exact Nat.lt_succ_self _
  · rw [show (⟨w.heap.size, 0, none⟩ : Addr).add j = ⟨w.heap.size, j, none⟩ from by unfold Addr.add; split <;> simp_all, (Blk.new w e us.toArray).cell]
    simpa using hu
/-- Both lists of a set are one. -/
theorem same_lists {l lp lq : List ByteArray} {er : Int} (h : (OkL l ∧ er = 0 ∧ lp.Perm l ∧ InOrd lp) ∨ (¬ OkL l ∧ lp = [] ∧ er ≠ 0)) (h' : (OkL l ∧ lq.Perm l ∧ InOrd lq) ∨ (¬ OkL l ∧ lq = [])) : bl lq = bl lp := by
  rcases h with ⟨a1, _, a2, a3⟩ | ⟨a1, rfl, _⟩
  · rcases h' with ⟨_, b2, b3⟩ | ⟨b1, _⟩
    · have o1 := (new_ord (l := l) (lp := lp) (.inl ⟨a1, a2, a3⟩)).1
      have o2 := (new_ord (l := l) (lp := lq) (.inl ⟨a1, b2, b3⟩)).1
      have hp : (bl lq).Perm (bl lp) := (b2.trans a2.symm).map _
      exact hp.eq_of_pairwise (le := fun a b => a < b) (fun a b _ _ h1 h2 => absurd h2 (lt_as h1)) o2 o1
    · exact absurd a1 b1
  · rcases h' with ⟨b1, _⟩ | ⟨_, rfl⟩
    · exact absurd b1 a1
    · rfl
theorem drewn_pure {w w' : World} (h : ∃ k, w' = w.drewN k) : Pure' w w' := by
  obtain ⟨k, rfl⟩ := h
  exact (Keeps.refl _ w).drewN k
theorem bl_len (lp : List ByteArray) : (bl lp).length = lp.length := by simp [bl]
theorem st_short {l : List (List UInt8)} {M : Nat} (hs : Sts l (statesL l)) (hll : ∀ y ∈ l, y.length ≤ M) {t : Nat} {p : List UInt8} (hp : (statesL l)[t]? = some p) : p.length ≤ M := by
  rcases (hs.mem p).1 (List.mem_of_getElem? hp) with rfl | ⟨x, hx, hpx⟩
  · exact Nat.zero_le _
  · exact Nat.le_trans hpx.length_le (hll x hx)


theorem noSt_out (g tg b cap fb ob : Nat) (l : List (List UInt8)) (S : List TSt) (F O : List Int) (k : Int) (w : World) (h : LkA w g tg b cap fb ob l S F O) (hk : ¬ (0 ≤ k ∧ k < (S.length : Int))) : NoSt (some ⟨g, 0, none⟩) k w := by
  have := lis_ g tg b cap fb ob l S F O k w h
  rw [isB_out hk] at this
  exact this


end Go.Proofs.YtkbdfnmeomkpjaaGreat
