/- A string's builder, and what is written to it, by the program; no condition but the sizes. -/
import Derived.Test.YtkbdfnmeomkpjaaGreatBuilder
import Derived.Test.YtkbdfnmeomkpjaaGreatClsA
namespace Go.Proofs.YtkbdfnmeomkpjaaGreat
open Go.RowKit
set_option linter.unusedVariables false
set_option linter.unusedSimpArgs false
set_option maxRecDepth 100000

theorem u8info2 : (Tryz.prog.info? 5).map (fun i => (i.zero, i.size, i.bytes)) = some (some (.int .u8 0), 1, 1) := by kernel_rfl
/-- A builder of the law's own, with the floor of its buffer beside it. -/
def MyBu (w : World) (B b : Nat) (l : List UInt8) (p : Value) : Prop :=
  ∃ v, Blk w b 211 #[p, v] ∧ w.ownsRow B 5 1 v (Lib.byteCells l).length (Lib.byteCells l) ∧ v.ownBlock ≠ some b
def MyB (w : World) (B b : Nat) (l : List UInt8) : Prop := MyBu w B b l (.pointer none) ∨ MyBu w B b l (.pointer (some ⟨b, 0, none⟩))

theorem owns_less {w : World} {B B' : Nat} {e : TypeId} {size n : Nat} {v : Value} {xs : List Value} (h : w.ownsRow B e size v n xs) (hB : B' ≤ B) : w.ownsRow B' e size v n xs := by
  refine ⟨h.1, ?_⟩
  rcases h.2 with h | ⟨g, cap, cur, hv, hb, r⟩
  · exact .inl h
  · exact .inr ⟨g, cap, cur, hv, by omega, r⟩
theorem owns_set {w : World} {B b n size : Nat} {e : TypeId} {v : Value} {xs : List Value} (h : w.ownsRow B e size v n xs) (hn : v.ownBlock ≠ some b) (i : Nat) (u : Value) : (w.setCell ⟨b, i, none⟩ u).ownsRow B e size v n xs :=
  h.kept (row := some b) ⟨rfl, rfl, rfl, by simp [World.setCell], fun k _ hk => Below.heap_setCell w ⟨b, i, none⟩ u k (fun e => hk (by rw [show k = b from e]))⟩ (Or.inr hn)
theorem MyBu.at_ {w : World} {B B' b : Nat} {l : List UInt8} {p : Value} (h : MyBu w B b l p) (h1 : B' ≤ B) (h2 : B' ≤ b) : Lib.BuilderAt 211 5 B' b p (Lib.byteCells l) w := by
  obtain ⟨v, hb, ho, hn⟩ := h
  exact ⟨h2, v, hb, owns_less ho h1, hn⟩
theorem MyB.is {w : World} {B B' b : Nat} {l : List UInt8} (h : MyB w B b l) (h1 : B' ≤ B) (h2 : B' ≤ b) : Lib.IsBuilder 211 5 B' b (Lib.byteCells l) w := by
  rcases h with h | h
  · exact .inl (h.at_ h1 h2)
  · exact .inr (h.at_ h1 h2)
theorem Keeps.of_below' {B : Nat} {w w1 : World} (h : Below B w w1) : Keeps (fun x => B ≤ x) w w1 := ⟨h.os, h.tape, h.output, h.size, fun k hk hn => h.block k (by simp only [Nat.not_le] at hn; exact hn)⟩
theorem MyBu.keep {w w' : World} {B b : Nat} {l : List UInt8} {p : Value} {S : Nat → Prop} (h : MyBu w B b l p) (hk : Keeps S w w') (hb : ¬ S b) (hs : ∀ x, B ≤ x → ¬ S x) : MyBu w' B b l p := by
  obtain ⟨v, h1, h2, h3⟩ := h
  refine ⟨v, h1.keep hk hb, ?_, h3⟩
  refine ⟨h2.1, ?_⟩
  rcases h2.2 with h | ⟨g, cap, cur, hv, hg, hh, r⟩
  · exact .inl h
  · exact .inr ⟨g, cap, cur, hv, hg, Blk.keep (t := 5) hh hk (hs g hg), r⟩
theorem MyB.keep {w w' : World} {B b : Nat} {l : List UInt8} {S : Nat → Prop} (h : MyB w B b l) (hk : Keeps S w w') (hb : ¬ S b) (hs : ∀ x, B ≤ x → ¬ S x) : MyB w' B b l := by
  rcases h with h | h
  · exact .inl (h.keep hk hb hs)
  · exact .inr (h.keep hk hb hs)

theorem wplB_append {P : Program} (w : World) {ops : Array Oper} {rest : List Oper} {o : Oper} {a : Act} {Q : Exit → Act → World → Prop} (hgd : o.guard = none) (s x : Operand) (t : TypeId)
    (ho : o.op = .call { callee := .builtin .append, args := #[s, x], argTypes := #[t, t] })
    (e : TypeId) (i : TypeInfo) (z : Value) (size bytes : Nat) (ht : P.underlying t = some (.slice e)) (hi : P.info? e = some i) (hz : i.zero = some z)
    (hsize : i.size = size) (hby : i.bytes = bytes) (hzs : z.cells.size = size) (hsz : 0 < size)
    (B : Nat) (v : Value) (n : Nat) (xs : List Value) (hs : a.eval s = v) (hown : w.ownsRow B e size v n xs) (hBw : B ≤ w.heap.size)
    (ad : Addr) (m c : Nat) (news : List Value) (hx : a.eval x = .slice (some ad) m c) (hl : news.length = m * size) (hnews : ∀ j u, news[j]? = some u → w.cell? (ad.add j) = some u) (h1 : ∀ u ∈ news, u.oneCell' = true)
    (hm : 0 < m) (h63 : n + m ≤ maxLen) (hbytes : (n + m) * bytes ≤ 140737488355328)
    (h : ∀ g cap w', w'.ownsRow B e size (.slice (some ⟨g, 0, none⟩) (n + m) cap) (n + m) (xs ++ news) → w.grownBy w' v.ownBlock → (v.ownBlock = some g ∨ g = w.heap.size) → g < w'.heap.size →
      wpList P ops Q rest (a.put o.dst (.slice (some ⟨g, 0, none⟩) (n + m) cap)) w') : wpList P ops Q (o :: rest) a w := by
  refine wpList_plain hgd fun K hK => ?_
  obtain ⟨v', w', hrun, h2, h3, _, h5⟩ := run_append_own_at (P := P) w B t o.type e i z size bytes ht hi hz hsize hby hzs hsz v n xs hown ad m c news hl hnews h1 h63 hbytes hBw
  obtain ⟨g, cap, rfl, hg, _⟩ := Row.some_ (w := w') (e := e) (size := size) (xs := xs ++ news) (owns_less h2 (Nat.zero_le _)) (by omega)
  unfold Oper.wp execOp
  simp only [ho, resolve, invoke, builtin, Sem.run_bind, Sem.run_pure, Result.andThen_ok, List.map_toArray, List.map_cons, List.map_nil, hs, hx, hrun]
  refine hK _ _ (h g cap w' h2 h3 ?_ hg)
  rcases h5 with h5 | h5
  · exact .inl (by rw [← h5]; rfl)
  · exact .inr (by simpa [Value.ownBlock] using h5)

theorem cc_ (B b : Nat) (l : List UInt8) (w : World) (h : MyB w B b l) :
    Calls Tryz.prog 166 #[.pointer (some ⟨b, 0, none⟩)] w fun e w' => e = .returned (.tuple #[]) ∧ MyBu w' B b l (.pointer (some ⟨b, 0, none⟩)) ∧ Keeps (fun x => x = b) w w' := by
  rcases h with h | h
  · have hA := h.at_ (B' := 0) (Nat.zero_le _) (Nat.zero_le _)
    refine (copyCheck_fresh b w hA.cell0 hA.shape hA.frozen0).mono ?_
    rintro e w' ⟨rfl, rfl⟩
    have hk := Keeps.one w b 0 (.pointer (some ⟨b, 0, none⟩))
    refine ⟨rfl, ?_, hk⟩
    obtain ⟨v, h1, h2, h3⟩ := h
    refine ⟨v, h1.set_ 0 _, ?_, h3⟩
    exact h2.kept (row := some b) ⟨rfl, rfl, rfl, by simp [World.setCell], fun k _ hk => Below.heap_setCell _ _ _ _ (fun e => hk (by simp [e]))⟩ (Or.inr h3)
  · have hA := h.at_ (B' := 0) (Nat.zero_le _) (Nat.zero_le _)
    refine (copyCheck_used b w hA.cell0).mono ?_
    rintro e w' ⟨rfl, rfl⟩
    exact ⟨rfl, h, Keeps.refl _ _⟩

theorem byteCells_snoc (l : List UInt8) (c : UInt8) : Lib.byteCells l ++ [.int .u8 (c.toNat : Int)] = Lib.byteCells (l ++ [c]) := by simp [Lib.byteCells]
set_option maxHeartbeats 1000000 in
theorem wb_ (B b : Nat) (l : List UInt8) (c : UInt8) (w : World) (h : MyB w B b l) (hlen : l.length + 1 ≤ 140737488355328) (hBw : B ≤ w.heap.size) :
    Calls Tryz.prog 158 #[.pointer (some ⟨b, 0, none⟩), .int .u8 (c.toNat : Int)] w fun e w' => e = .returned .nilIface ∧ MyB w' B b (l ++ [c]) ∧ Keeps (fun x => x = b ∨ B ≤ x) w w' := by
  obtain ⟨i0, hi, hz0, hz1, hz2⟩ := info_parts u8info2
  go_enter Tryz.func158, Tryz.ntmps158
  go_wp2_with (go_at_call 166; refine (cc_ B b l _ h).mono ?_)
  rintro e w1 ⟨rfl, h1, hb1⟩
  obtain ⟨v, hbk, hown, hne⟩ := h1
  have c1 : w1.cell? ⟨b, 1, none⟩ = some v := by rw [hbk.cell]; rfl
  have hll : (Lib.byteCells l).length = l.length := by simp [Lib.byteCells]
  have hBw1 : B ≤ w1.heap.size := Nat.le_trans hBw hb1.size
  rw [hll] at hown
  have HOW := Lib.hid (hown.alloc (.cells #[.int .u8 (c.toNat : Int)] 5))
  have HBK := Lib.hid (hbk.alloc (.cells #[.int .u8 (c.toNat : Int)] 5))
  have HK1 := Lib.hid hb1
  obtain ⟨ao, co, rfl⟩ : ∃ ao co, v = .slice ao l.length co := by
    rcases hown.2 with ⟨hv, hn0⟩ | ⟨g, cap, cur, hv, _⟩
    · exact ⟨_, _, by rw [hv, hn0]⟩
    · exact ⟨_, _, hv⟩
  have hlt := hbk.lt
  clear hown hbk hb1
  go_wp2_with (at_builtin; refine wplB_append _ rfl (.tmp 11) (.tmp 13) 111 rfl 5 i0 (.int .u8 0) 1 1 Tryz.underlying111 hi hz0 hz1 hz2 rfl (by decide) B (.slice ao l.length co) l.length (Lib.byteCells l) rfl HOW.out (Nat.le_trans hBw1 (by simp)) ⟨w1.heap.size, 0, none⟩ 1 1 [.int .u8 (c.toNat : Int)] rfl rfl ?news ?one (by decide) ?b1 ?b2 ?k)
  case news => exact news1
  case one => exact fun u hu => by simp at hu; subst hu; rfl
  case b1 => unfold maxLen; omega
  case b2 => omega
  case k =>
    intro g cap w2 hown' hgrow hat hgl
    have hne2 : (Value.slice ao l.length co).ownBlock ≠ some b := hne
    have hb2 : Blk w2 b 211 #[.pointer (some ⟨b, 0, none⟩), .slice ao l.length co] := HBK.out.grown hgrow hne2
    have d1 := hb2.cell 1
    have f1 := hb2.frozen 1
    have HB2 := Lib.hid hb2
    have HG := Lib.hid (And.intro hown' hgrow)
    clear hown' hgrow hat hne2 hb2
    go_wp2
    go_ret
    have hne' := Lib.ownBlock_ne HG.out.1 HB2.out (by decide)
    refine ⟨rfl, .inr ⟨_, HB2.out.set_ 1 _, ?_, hne'⟩, ?_⟩
    · have h := owns_set HG.out.1 hne' 1 (.slice (some ⟨g, 0, none⟩) (l.length + 1) cap)
      have e : (Lib.byteCells (l ++ [c])).length = l.length + 1 := by simp [Lib.byteCells]
      rw [e, ← byteCells_snoc]
      exact h
    · exact (((HK1.out.mono (S' := fun x => x = b ∨ B ≤ x) (fun _ _ h => .inl h)).alloc _).grown HG.out.2 (fun k hk => .inl (.inr (HOW.out.lt k hk).1))).setCell (p := ⟨b, 1, none⟩) (.inl (.inl rfl)) _
end Go.Proofs.YtkbdfnmeomkpjaaGreat
