/- Links in memory, and the step by them; no condition but the sizes. -/
import Derived.Test.YtkbdfnmeomkpjaaGreatTriE
namespace Go.Proofs.YtkbdfnmeomkpjaaGreat
open Go.RowKit
set_option linter.unusedVariables false
set_option linter.unusedSimpArgs false
set_option maxRecDepth 100000

theorem drewN_add (w : World) (a b : Nat) : (w.drewN a).drewN b = w.drewN (a + b) := by
  simp [World.drewN, Nat.add_assoc]
/-- Links in memory: where to fall, where the next pattern is. -/
structure LkA (w : World) (g tg b cap fb ob : Nat) (l : List (List UInt8)) (S : List TSt) (F O : List Int) : Prop where
  box : Blk w g 161 #[.pointer (some ⟨tg, 0, none⟩), .slice (some ⟨fb, 0, none⟩) S.length S.length, .slice (some ⟨ob, 0, none⟩) S.length S.length]
  fa : Blk w fb 3 (F.map (Value.int .i64)).toArray
  ou : Blk w ob 3 (O.map (Value.int .i64)).toArray
  fl : F.length = S.length
  ol : O.length = S.length
  ti : TI w tg b cap l S
  ne : fb ≠ ob
theorem LkA.pure {w w' : World} {g tg b cap fb ob : Nat} {l : List (List UInt8)} {S : List TSt} {F O : List Int} (h : LkA w g tg b cap fb ob l S F O) (hk : Pure' w w') : LkA w' g tg b cap fb ob l S F O :=
  ⟨h.box.keep hk (fun hf => hf), h.fa.keep hk (fun hf => hf), h.ou.keep hk (fun hf => hf), h.fl, h.ol, h.ti.pure hk, h.ne⟩
theorem LkA.fcell {w : World} {g tg b cap fb ob : Nat} {l : List (List UInt8)} {S : List TSt} {F O : List Int} (h : LkA w g tg b cap fb ob l S F O) {i : Nat} {z : Int} (hi : F[i]? = some z) : w.cell? ⟨fb, i, none⟩ = some (.int .i64 z) := by
  rw [h.fa.cell]; simp [hi]
theorem LkA.ocell {w : World} {g tg b cap fb ob : Nat} {l : List (List UInt8)} {S : List TSt} {F O : List Int} (h : LkA w g tg b cap fb ob l S F O) {i : Nat} {z : Int} (hi : O[i]? = some z) : w.cell? ⟨ob, i, none⟩ = some (.int .i64 z) := by
  rw [h.ou.cell]; simp [hi]
theorem LkA.setF {w : World} {g tg b cap fb ob : Nat} {l : List (List UInt8)} {S : List TSt} {F O : List Int} (h : LkA w g tg b cap fb ob l S F O) (i : Nat) (z : Int) : LkA (w.setCell ⟨fb, i, none⟩ (.int .i64 z)) g tg b cap fb ob l S (F.set i z) O := by
  have hg : g ≠ fb := h.box.differ h.fa (by decide)
  refine ⟨h.box.off hg, ?_, h.ou.off (fun e => h.ne e.symm), by rw [List.length_set]; exact h.fl, h.ol, ?_, h.ne⟩
  · have := h.fa.set_ i (.int .i64 z)
    rwa [show ((F.map (Value.int .i64)).toArray.setIfInBounds i (.int .i64 z)) = ((F.set i z).map (Value.int .i64)).toArray by simp [List.map_set]] at this
  · have h1 : tg ≠ fb := h.ti.tr.box.differ h.fa (by decide)
    have h2 : b ≠ fb := fun e => h.ti.tr.row.blk_ne h.fa (by decide) (by rw [e]; rfl)
    exact ⟨h.ti.tr.keep (Keeps.one w fb i _) h1 h2, h.ti.ok, h.ti.srt, h.ti.few, h.ti.ne⟩
theorem LkA.setO {w : World} {g tg b cap fb ob : Nat} {l : List (List UInt8)} {S : List TSt} {F O : List Int} (h : LkA w g tg b cap fb ob l S F O) (i : Nat) (z : Int) : LkA (w.setCell ⟨ob, i, none⟩ (.int .i64 z)) g tg b cap fb ob l S F (O.set i z) := by
  have hg : g ≠ ob := h.box.differ h.ou (by decide)
  refine ⟨h.box.off hg, h.fa.off h.ne, ?_, h.fl, by rw [List.length_set]; exact h.ol, ?_, h.ne⟩
  · have := h.ou.set_ i (.int .i64 z)
    rwa [show ((O.map (Value.int .i64)).toArray.setIfInBounds i (.int .i64 z)) = ((O.set i z).map (Value.int .i64)).toArray by simp [List.map_set]] at this
  · have h1 : tg ≠ ob := h.ti.tr.box.differ h.ou (by decide)
    have h2 : b ≠ ob := fun e => h.ti.tr.row.blk_ne h.ou (by decide) (by rw [e]; rfl)
    exact ⟨h.ti.tr.keep (Keeps.one w ob i _) h1 h2, h.ti.ok, h.ti.srt, h.ti.few, h.ti.ne⟩
/-- The first K falls, the first K ways out are known. -/
def FOk (l : List (List UInt8)) (K : Nat) (F : List Int) : Prop := ∀ (t : Nat) (p : List UInt8), t < K → (statesL l)[t]? = some p → F[t]? = some (lsuf (statesL l) p.tail : Int)
def OOk (l : List (List UInt8)) (K : Nat) (O : List Int) : Prop := ∀ (t : Nat) (p : List UInt8), t < K → (statesL l)[t]? = some p → O[t]? = some (osuf l (statesL l) p.tail)

/-- One step of the fall, plainly. -/
theorem fall_step {l S : List (List UInt8)} (h : Sts l S) {p q : List UInt8} {c : UInt8} (hn : p ++ [c] ∉ S) (hp : p ≠ []) (hq : S[lsuf S p.tail]? = some q) : lsuf S (p ++ [c]) = lsuf S (q ++ [c]) := by
  cases p with
  | nil => exact absurd rfl hp
  | cons a p =>
    rw [List.cons_append, lsuf_out (by simpa using hn)]
    exact lsuf_step h c hq
theorem fall_end {S : List (List UInt8)} {c : UInt8} (hn : [] ++ [c] ∉ S) : lsuf S ([] ++ [c]) = 0 := by
  rw [List.nil_append] at hn ⊢
  rw [lsuf_out hn]
  rfl

set_option maxHeartbeats 2000000 in
theorem fall_ (g tg b cap fb ob : Nat) (l : List (List UInt8)) (S : List TSt) (F O : List Int) (K t : Nat) (p : List UInt8) (c : UInt8) (w : World) (h : LkA w g tg b cap fb ob l S F O) (hF : FOk l K F) (ht : t < K) (hp : (statesL l)[t]? = some p) :
    Calls Tryz.prog 123 #[.pointer (some ⟨g, 0, none⟩), .int .i64 (t : Int), .int .u8 c.toNat] w fun e w' => e = .returned (.int .i64 (lsuf (statesL l) (p ++ [c]) : Int)) ∧ ∃ k, w' = w.drewN k := by
  have HL := Lib.hid h
  have HF := Lib.hid hF
  have HST := Lib.hid h.ti.sts
  have HP := Lib.hid hp
  have hlen := h.ti.ok.len
  have hfew := h.ti.few
  have htl := (List.getElem?_eq_some_iff.1 hp).1
  obtain ⟨n, hn⟩ : ∃ n, S.length = n := ⟨_, rfl⟩
  have HN := Lib.hid hn
  rw [hn] at hlen hfew
  have HLN := Lib.hid hlen
  clear h hF hp hn
  have hcl := c.toNat_lt
  obtain ⟨R, hR⟩ : ∃ R, lsuf (statesL l) (p ++ [c]) = R := ⟨_, rfl⟩
  have HR := Lib.hid hR
  rw [hR]
  clear hR
  rw [← hlen] at htl
  go_enter Tryz.func123, Tryz.ntmps123
  go_wp2
  go_loopg [1, 7, 8] t (fun gh v1 v7 v8 wr => ∃ (t1 : Nat) (p1 : List UInt8), t1 ≤ gh ∧ t1 < K ∧ t1 < n ∧ v1 = .int .i64 (t1 : Int) ∧ RowKit.Hid ((statesL l)[t1]? = some p1) ∧ RowKit.Hid (lsuf (statesL l) (p1 ++ [c]) = R) ∧ RowKit.Hid (∃ k, wr = w.drewN k))
  case atStart => exact ⟨t, p, Nat.le_refl _, ht, htl, rfl, HP, HR, Lib.hid ⟨0, rfl⟩⟩
  case round =>
    obtain ⟨t1, p1, hg, hK, htn, rfl, HP1, HR1, HW⟩ := hrel
    have HLw := Lib.hid (show LkA wr g tg b cap fb ob l S F O from HL.out.pure (by obtain ⟨k, e⟩ := HW.out; rw [e]; exact (Keeps.refl _ w).drewN k))
    have c0 := HLw.out.box.cell 0
    have HNX := Lib.hid (next_ tg b cap l S t1 p1 c wr HLw.out.ti HP1.out)
    go_wp2_with fail
    refine HNX.out.mono ?_
    rintro e w2 ⟨hcase, k2, rfl⟩
    have HW2 := Lib.hid (show ∃ k, wr.drewN k2 = w.drewN k by obtain ⟨k, e⟩ := HW.out; exact ⟨k + k2, by rw [e, drewN_add]⟩)
    rcases hcase with ⟨m, rfl, hm⟩ | ⟨rfl, hno⟩
    · have HM := Lib.hid hm
      obtain rfl : R = m := by rw [← HR1.out]; exact lsuf_in HST.out hm
      clear hm
      go_wp2
      go_ret
      exact ⟨rfl, HW2.out⟩
    · have HNO := Lib.hid hno
      clear hno
      rcases Nat.eq_zero_or_pos t1 with h0 | h0
      · subst h0
        have hp0 : p1 = [] := by have := HP1.out; rw [HST.out.zero] at this; cases this; rfl
        subst hp0
        have hR0 : R = 0 := by rw [← HR1.out]; exact fall_end HNO.out
        subst hR0
        go_wp2
        go_ret
        exact ⟨rfl, HW2.out⟩
      · obtain ⟨hlt, q, hq, _⟩ := fall_less HST.out HP1.out h0
        have hne : p1 ≠ [] := by
          rintro rfl
          have := HST.out.idx HP1.out
          rw [HST.out.idx HST.out.zero] at this
          omega
        have f1 := HF.out t1 p1 hK HP1.out
        have HR2 := Lib.hid (show lsuf (statesL l) (q ++ [c]) = R by rw [← fall_step HST.out HNO.out hne hq]; exact HR1.out)
        have HQ := Lib.hid hq
        generalize lsuf (statesL l) p1.tail = t2 at *
        have fc : (wr.drewN k2).cell? ⟨fb, t1, none⟩ = some (.int .i64 (t2 : Int)) := (HLw.out.pure ((Keeps.refl _ wr).drewN k2)).fcell f1
        have c1 : (wr.drewN k2).cell? ⟨g, 1, none⟩ = some (.slice (some ⟨fb, 0, none⟩) n n) := by rw [((HLw.out.pure ((Keeps.refl _ wr).drewN k2)).box).cell, HN.out]; rfl
        have ht1 : ((t1 : Int) == 0) = false := by rw [beq_eq_false_iff_ne]; omega
        clear hq f1 hne c0
        cases gk with
        | zero => omega
        | succ g3 =>
          go_wp2
          go_roundg g3
          case measure => omega
          case rel => exact ⟨t2, q, by omega, by omega, by omega, rfl, HQ, HR2, HW2⟩

end Go.Proofs.YtkbdfnmeomkpjaaGreat
