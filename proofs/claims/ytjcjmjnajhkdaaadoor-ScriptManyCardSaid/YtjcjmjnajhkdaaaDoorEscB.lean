import Derived.Test.YtjcjmjnajhkdaaaDoorEscA
namespace Go.Proofs.YtjcjmjnajhkdaaaDoor
open Go.RowKit
set_option linter.unusedVariables false
set_option linter.unusedSimpArgs false
set_option maxRecDepth 100000

/-- A builder of the law's own, with the floor of its buffer beside it. -/
def MyBu (w : World) (B b : Nat) (l : List UInt8) (p : Value) : Prop :=
  ∃ v, Blk w b 89 #[p, v] ∧ w.ownsRow B 5 1 v (Lib.byteCells l).length (Lib.byteCells l) ∧ v.ownBlock ≠ some b
def MyB (w : World) (B b : Nat) (l : List UInt8) : Prop := MyBu w B b l (.pointer none) ∨ MyBu w B b l (.pointer (some ⟨b, 0, none⟩))

theorem owns_less {w : World} {B B' : Nat} {e : TypeId} {size n : Nat} {v : Value} {xs : List Value} (h : w.ownsRow B e size v n xs) (hB : B' ≤ B) : w.ownsRow B' e size v n xs := by
  refine ⟨h.1, ?_⟩
  rcases h.2 with h | ⟨g, cap, cur, hv, hb, r⟩
  · exact .inl h
  · exact .inr ⟨g, cap, cur, hv, by omega, r⟩
theorem owns_set {w : World} {B b n size : Nat} {e : TypeId} {v : Value} {xs : List Value} (h : w.ownsRow B e size v n xs) (hn : v.ownBlock ≠ some b) (i : Nat) (u : Value) : (w.setCell ⟨b, i, none⟩ u).ownsRow B e size v n xs :=
  h.kept (row := some b) ⟨rfl, rfl, rfl, by simp [World.setCell], fun k _ hk => Below.heap_setCell w ⟨b, i, none⟩ u k (fun e => hk (by rw [show k = b from e]))⟩ (Or.inr hn)
theorem MyBu.at_ {w : World} {B B' b : Nat} {l : List UInt8} {p : Value} (h : MyBu w B b l p) (h1 : B' ≤ B) (h2 : B' ≤ b) : Lib.BuilderAt 89 5 B' b p (Lib.byteCells l) w := by
  obtain ⟨v, hb, ho, hn⟩ := h
  exact ⟨h2, v, hb, owns_less ho h1, hn⟩
theorem MyB.is {w : World} {B B' b : Nat} {l : List UInt8} (h : MyB w B b l) (h1 : B' ≤ B) (h2 : B' ≤ b) : Lib.IsBuilder 89 5 B' b (Lib.byteCells l) w := by
  rcases h with h | h
  · exact .inl (h.at_ h1 h2)
  · exact .inr (h.at_ h1 h2)
theorem Keeps.of_below' {B : Nat} {w w1 : World} (h : Below B w w1) : Keeps (fun x => B ≤ x) w w1 := ⟨h.os, h.tape, h.output, h.size, fun k hk hn => h.block k (by simp only [Nat.not_le] at hn; exact hn)⟩
theorem MyBu.keep {w w' : World} {B b : Nat} {l : List UInt8} {p : Value} {S : Nat → Prop} (h : MyBu w B b l p) (hk : Keeps S w w') (hb : ¬ S b) (hs : ∀ x, B ≤ x → ¬ S x) : MyBu w' B b l p := by
  obtain ⟨v, h1, h2, h3⟩ := h
  refine ⟨v, h1.keep hk hb, ?_, h3⟩
  refine ⟨h2.1, ?_⟩
  rcases h2.2 with h | ⟨g, cap, cur, hv, hg, hh, r⟩
  · exact .inl h
  · exact .inr ⟨g, cap, cur, hv, hg, Blk.keep (t := 5) hh hk (hs g hg), r⟩
theorem MyB.keep {w w' : World} {B b : Nat} {l : List UInt8} {S : Nat → Prop} (h : MyB w B b l) (hk : Keeps S w w') (hb : ¬ S b) (hs : ∀ x, B ≤ x → ¬ S x) : MyB w' B b l := by
  rcases h with h | h
  · exact .inl (h.keep hk hb hs)
  · exact .inr (h.keep hk hb hs)

theorem cc_ (B b : Nat) (l : List UInt8) (w : World) (h : MyB w B b l) :
    Calls Tryd.prog 71 #[.pointer (some ⟨b, 0, none⟩)] w fun e w' => e = .returned (.tuple #[]) ∧ MyBu w' B b l (.pointer (some ⟨b, 0, none⟩)) ∧ Keeps (fun x => x = b) w w' := by
  rcases h with h | h
  · have hA := h.at_ (B' := 0) (Nat.zero_le _) (Nat.zero_le _)
    refine (copyCheck_fresh b w hA.cell0 hA.shape hA.frozen0).mono ?_
    rintro e w' ⟨rfl, rfl⟩
    have hk := Keeps.one w b 0 (.pointer (some ⟨b, 0, none⟩))
    refine ⟨rfl, ?_, hk⟩
    obtain ⟨v, h1, h2, h3⟩ := h
    refine ⟨v, h1.set_ 0 _, ?_, h3⟩
    exact h2.kept (row := some b) ⟨rfl, rfl, rfl, by simp [World.setCell], fun k _ hk => Below.heap_setCell _ _ _ _ (fun e => hk (by simp [e]))⟩ (Or.inr h3)
  · have hA := h.at_ (B' := 0) (Nat.zero_le _) (Nat.zero_le _)
    refine (copyCheck_used b w hA.cell0).mono ?_
    rintro e w' ⟨rfl, rfl⟩
    exact ⟨rfl, h, Keeps.refl _ _⟩

set_option maxHeartbeats 1000000 in
theorem ws_ (B b : Nat) (l : List UInt8) (s : ByteArray) (w : World) (h : MyB w B b l) (hlen : l.length + s.size ≤ 140737488355328) (hBw : B ≤ w.heap.size) :
    Calls Tryd.prog 52 #[.pointer (some ⟨b, 0, none⟩), .string s] w fun e w' => e = .returned (.tuple #[.int .i64 s.size, .nilIface]) ∧ MyB w' B b (l ++ s.data.toList) ∧ Keeps (fun x => x = b ∨ B ≤ x) w w' := by
  obtain ⟨i0, hi, hz0, hz1, hz2⟩ := info_parts u8info'
  go_enter Tryd.func52, Tryd.ntmps52
  go_wp2_with (go_at_call 71; refine (cc_ B b l _ h).mono ?_)
  rintro e w1 ⟨rfl, h1, hb1⟩
  obtain ⟨v, hbk, hown, hne⟩ := h1
  have c0 : w1.cell? ⟨b, 0, none⟩ = some (.pointer (some ⟨b, 0, none⟩)) := by rw [hbk.cell]; rfl
  have c1 : w1.cell? ⟨b, 1, none⟩ = some v := by rw [hbk.cell]; rfl
  have hll : (Lib.byteCells l).length = l.length := by simp [Lib.byteCells]
  go_wp2_with (at_builtin; refine Lib.wpList_append_own_string _ rfl _ _ 87 9 rfl B 5 i0 Tryd.underlying87 Tryd.underlying9 hi hz0 hz1 hz2 _ _ _ rfl hown s rfl ?c3 ?c4 ?c5 ?_)
  case c3 => unfold maxLen; omega
  case c4 => omega
  case c5 => have := hb1.size; omega
  intro v' w2 hown' hgrow _
  have hlt : b < w1.heap.size := hbk.lt
  have hb2 : Blk w2 b 89 #[.pointer (some ⟨b, 0, none⟩), v] := hbk.grown hgrow hne
  have d0 : w2.cell? ⟨b, 0, none⟩ = some (.pointer (some ⟨b, 0, none⟩)) := by rw [hb2.cell]; rfl
  have d1 : w2.cell? ⟨b, 1, none⟩ = some v := by rw [hb2.cell]; rfl
  have f1 := hb2.frozen 1
  obtain ⟨ao, n', cap, rfl⟩ : ∃ ao n' cap, v' = .slice ao n' cap := by
    rcases hown'.2 with ⟨hv, _⟩ | ⟨g, cap, cur, hv, _⟩
    · exact ⟨_, _, _, hv⟩
    · exact ⟨_, _, _, hv⟩
  go_wp2
  go_ret2
  have hne' := Lib.ownBlock_ne hown' hb2 (by decide)
  have hcs : Lib.byteCells l ++ Lib.strCells s = Lib.byteCells (l ++ s.data.toList) := by simp [Lib.byteCells, Lib.strCells]
  refine ⟨rfl, .inr ⟨_, hb2.set_ 1 _, ?_, hne'⟩, ?_⟩
  · rw [← hcs]
    have : (Lib.byteCells l ++ Lib.strCells s).length = (Lib.byteCells l).length + s.size := by simp [Lib.strCells_length]
    rw [this]
    rw [hll]
    exact owns_set hown' hne' 1 _
  · exact ((hb1.mono (S' := fun x => x = b ∨ B ≤ x) (fun _ _ h => .inl h)).grown hgrow (fun k hk => .inl (.inr (hown.lt k hk).1))).setCell (p := ⟨b, 1, none⟩) (.inl (.inl rfl)) _
end Go.Proofs.YtjcjmjnajhkdaaaDoor
