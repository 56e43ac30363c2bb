/- An automaton made, and gone through; no condition but the sizes. -/
import Derived.Test.YtkbdfnmeomkpjaaGreatSprE
namespace Go.Proofs.YtkbdfnmeomkpjaaGreat
open Go.RowKit
set_option linter.unusedVariables false
set_option linter.unusedSimpArgs false
set_option maxRecDepth 100000

/-- An automaton of a set. -/
structure AutI (w : World) (g : Nat) (kind : Int) (l : List (List UInt8)) : Prop where
  ex : ∃ (lg tg b cap fb ob : Nat) (S : List TSt) (F O : List Int) (dp sp : Option Addr), Blk w g 136 #[.int .i64 kind, .pointer (some ⟨lg, 0, none⟩), .pointer dp, .pointer sp] ∧ LkI w lg tg b cap fb ob l S F O ∧
    (kind = 1 → ∃ dg, dp = some ⟨dg, 0, none⟩ ∧ DenI w dg l) ∧ (kind = 2 → ∃ sg, sp = some ⟨sg, 0, none⟩ ∧ SpI w sg l)
  short : ∀ (t : Nat) (p : List UInt8), (statesL l)[t]? = some p → p.length ≤ 20
  few : l.length ≤ 12
theorem AutI.pure {w w' : World} {g : Nat} {kind : Int} {l : List (List UInt8)} (h : AutI w g kind l) (hk : Pure' w w') : AutI w' g kind l := by
  obtain ⟨lg, tg, b, cap, fb, ob, S, F, O, dp, sp, h1, h2, h3, h4⟩ := h.ex
  refine ⟨⟨lg, tg, b, cap, fb, ob, S, F, O, dp, sp, h1.keep hk (fun hf => hf), h2.pure hk, fun e => ?_, fun e => ?_⟩, h.short, h.few⟩
  · obtain ⟨dg, e1, e2⟩ := h3 e; exact ⟨dg, e1, e2.pure hk⟩
  · obtain ⟨sg, e1, e2⟩ := h4 e; exact ⟨sg, e1, e2.pure hk⟩
theorem DenI.of {w : World} {l : List (List UInt8)} {g cg nb n W : Nat} {bs : List UInt8} {f : Nat → Nat} (hs : Sts l (statesL l)) (h1 : DenA w g cg nb n W bs f) (h2 : DOk l bs W f) (hn : n = (statesL l).length) (hf : n ≤ 241) : DenI w g l := by
  subst hn
  exact ⟨⟨cg, nb, W, bs, f, h1, h2⟩, hs, hf⟩
def NewAutPost (l : List (List UInt8)) (kind : Int) (w : World) (e : Ending) (w' : World) : Prop :=
  ((1 ≤ kind ∧ kind ≤ 3 ∧ ∃ g : Nat, e = .returned (.tuple #[.pointer (some ⟨g, 0, none⟩), .int .i64 0]) ∧ AutI w' g kind l) ∨ (¬ (1 ≤ kind ∧ kind ≤ 3) ∧ e = .returned (.tuple #[.pointer none, .int .i64 2]))) ∧ Pure' w w'

theorem DenI.off {w : World} {g k : Nat} {l : List (List UInt8)} {cs : Array Value} (h : DenI w g l) (hk : Blk w k 136 cs) (i : Nat) (u : Value) : DenI (w.setCell ⟨k, i, none⟩ u) g l := by
  obtain ⟨cg, nb, W, bs, f, h1, h2⟩ := h.ex
  obtain ⟨A, c, q1, q2⟩ := h1.cls.box
  exact ⟨⟨cg, nb, W, bs, f, ⟨h1.box.off (h1.box.differ hk (by decide)), ⟨⟨A, c, q1.off (q1.differ hk (by decide)), q2.off (fun e => q2.blk_ne hk (by decide) e)⟩, h1.cls.nd, h1.cls.few⟩, h1.tab.off (h1.tab.differ hk (by decide)), h1.wid⟩, h2⟩, h.sts, h.few⟩
theorem SpI.off {w : World} {g k : Nat} {l : List (List UInt8)} {cs : Array Value} (h : SpI w g l) (hk : Blk w k 136 cs) (i : Nat) (u : Value) : SpI (w.setCell ⟨k, i, none⟩ u) g l := by
  obtain ⟨H, bb, fb, C, A, cc, bf, ff, h1, h2⟩ := h.ex
  exact ⟨⟨H, bb, fb, C, A, cc, bf, ff, ⟨⟨h1.sc.box.off (h1.sc.box.differ hk (by decide)), h1.sc.row.off (fun e => h1.sc.row.blk_ne hk (by decide) e)⟩, h1.own, h1.ba.off (h1.ba.differ hk (by decide)), h1.fa.off (h1.fa.differ hk (by decide)), h1.ne, h1.hb, h1.hf⟩, h2⟩, h.sts, h.few⟩

set_option maxHeartbeats 4000000 in
theorem newAut_ (x : Option Addr) (lp : List ByteArray) (kind : Int) (w : World) (h : SetP w x lp) (hn : lp.length ≤ 12) (hll : ∀ y ∈ bl lp, y.length ≤ 20) (hl : (bl lp).Pairwise (· < ·)) (hne : ∀ y ∈ bl lp, y ≠ []) :
    Calls Tryz.prog 70 #[.pointer x, .int .i64 kind] w fun e w' => NewAutPost (bl lp) kind w e w' := by
  have HLK := Lib.hid (newLink_ x lp w h hn hll hl hne)
  have HDN := Lib.hid (fun (W : World) (hW : Pure' w W) => newDen_ x lp W (h.pure hW) hn hll hl hne)
  have HSN := Lib.hid (fun (W : World) (hW : Pure' w W) => newSpr_ x lp W (h.pure hW) hn hll hl hne)
  have HFW := Lib.hid (show (bl lp).length ≤ 12 by rw [bl_len]; exact hn)
  have HLL := Lib.hid hll
  clear h hl hne
  obtain ⟨l, hbl⟩ : ∃ l, bl lp = l := ⟨_, rfl⟩
  rw [hbl] at HLK HDN HSN HFW HLL hll ⊢
  clear hbl hn hll
  by_cases h1 : kind = 1
  · subst h1
    go_enter Tryz.func70, Tryz.ntmps70
    go_wp2_with fail
    refine HLK.out.mono ?_
    rintro e w1 ⟨lg, tg, b, cap, fb, ob, S, F, O, rfl, hlk, hf, ho, _, hk⟩
    have HLI := Lib.hid (show LkI w1 lg tg b cap fb ob l S F O from ⟨hlk, hf, ho⟩)
    have HST := Lib.hid hlk.ti.sts
    have HSH := Lib.hid (fun (t : Nat) (p : List UInt8) (hp : (statesL l)[t]? = some p) => st_short HST.out HLL.out hp)
    have HK1 := Lib.hid hk
    obtain ⟨g, hg⟩ : ∃ g, w1.heap.size = g := ⟨_, rfl⟩
    have HG := Lib.hid hg
    have HB := Lib.hid (show Blk (w1.alloc (.cells #[.int .i64 1, .pointer (some ⟨lg, 0, none⟩), .pointer none, .pointer none] 136)) g 136 _ from Blk.newAt hg.symm)
    have HK0 := Lib.hid ((Keeps.refl (fun _ => False) w1).alloc (.cells #[.int .i64 1, .pointer (some ⟨lg, 0, none⟩), .pointer none, .pointer none] 136))
    have HKA := Lib.hid (hk.alloc (.cells #[.int .i64 1, .pointer (some ⟨lg, 0, none⟩), .pointer none, .pointer none] 136))
    clear hlk hf ho hk
    go_wp2_with fail
    try rw [hg]
    clear hg
    refine (HDN.out _ HKA.out).mono ?_
    rintro e w2 ⟨dg, cg, nb, n, W, bs, f, rfl, hd1, hd2, hd3, hd4, hdg, hk2⟩
    have HB2 := Lib.hid (HB.out.keep hk2 (fun hf => hf))
    have x1 := HB2.out.cell 2
    have x2 := HB2.out.frozen 2
    have HDI := Lib.hid (DenI.of HST.out hd1 hd2 hd3 hd4)
    have HK2 := Lib.hid (HK0.out.trans hk2 (fun _ _ hf => hf))
    clear hd1 hd2 hd3 hd4 hdg hk2
    go_wp2
    go_ret2
    have hkE : Pure' w1 (w2.setCell ⟨g, 2, none⟩ (.pointer (some ⟨dg, 0, none⟩))) := HK2.out.setCell (p := ⟨g, 2, none⟩) (.inr (by have := HG.out; show w1.heap.size ≤ g; omega)) _
    refine ⟨.inl ⟨by decide, by decide, g, rfl, ⟨lg, tg, b, cap, fb, ob, S, F, O, _, _, HB2.out.set_ 2 _, HLI.out.pure hkE, fun _ => ⟨dg, rfl, HDI.out.off HB2.out 2 _⟩, fun e => absurd e (by decide)⟩, HSH.out, HFW.out⟩, HK1.out.trans hkE (fun _ _ hf => hf)⟩
  by_cases h2 : kind = 2
  · subst h2
    clear h1
    go_enter Tryz.func70, Tryz.ntmps70
    go_wp2_with fail
    refine HLK.out.mono ?_
    rintro e w1 ⟨lg, tg, b, cap, fb, ob, S, F, O, rfl, hlk, hf, ho, _, hk⟩
    have HLI := Lib.hid (show LkI w1 lg tg b cap fb ob l S F O from ⟨hlk, hf, ho⟩)
    have HST := Lib.hid hlk.ti.sts
    have HSH := Lib.hid (fun (t : Nat) (p : List UInt8) (hp : (statesL l)[t]? = some p) => st_short HST.out HLL.out hp)
    have HK1 := Lib.hid hk
    obtain ⟨g, hg⟩ : ∃ g, w1.heap.size = g := ⟨_, rfl⟩
    have HG := Lib.hid hg
    have HB := Lib.hid (show Blk (w1.alloc (.cells #[.int .i64 2, .pointer (some ⟨lg, 0, none⟩), .pointer none, .pointer none] 136)) g 136 _ from Blk.newAt hg.symm)
    have HK0 := Lib.hid ((Keeps.refl (fun _ => False) w1).alloc (.cells #[.int .i64 2, .pointer (some ⟨lg, 0, none⟩), .pointer none, .pointer none] 136))
    have HKA := Lib.hid (hk.alloc (.cells #[.int .i64 2, .pointer (some ⟨lg, 0, none⟩), .pointer none, .pointer none] 136))
    clear hlk hf ho hk
    go_wp2_with fail
    try rw [hg]
    clear hg
    refine (HSN.out _ HKA.out).mono ?_
    rintro e w2 ⟨dg, rfl, hd1, hdg, hk2⟩
    have HB2 := Lib.hid (HB.out.keep hk2 (fun hf => hf))
    have x1 := HB2.out.cell 3
    have x2 := HB2.out.frozen 3
    have HDI := Lib.hid (hd1)
    have HK2 := Lib.hid (HK0.out.trans hk2 (fun _ _ hf => hf))
    clear hd1 hdg hk2
    go_wp2
    go_ret2
    have hkE : Pure' w1 (w2.setCell ⟨g, 3, none⟩ (.pointer (some ⟨dg, 0, none⟩))) := HK2.out.setCell (p := ⟨g, 3, none⟩) (.inr (by have := HG.out; show w1.heap.size ≤ g; omega)) _
    refine ⟨.inl ⟨by decide, by decide, g, rfl, ⟨lg, tg, b, cap, fb, ob, S, F, O, _, _, HB2.out.set_ 3 _, HLI.out.pure hkE, fun e => absurd e (by decide), fun _ => ⟨dg, rfl, HDI.out.off HB2.out 3 _⟩⟩, HSH.out, HFW.out⟩, HK1.out.trans hkE (fun _ _ hf => hf)⟩
  by_cases h3 : kind = 3
  · subst h3
    clear h1 h2
    go_enter Tryz.func70, Tryz.ntmps70
    go_wp2_with fail
    refine HLK.out.mono ?_
    rintro e w1 ⟨lg, tg, b, cap, fb, ob, S, F, O, rfl, hlk, hf, ho, _, hk⟩
    have HLI := Lib.hid (show LkI w1 lg tg b cap fb ob l S F O from ⟨hlk, hf, ho⟩)
    have HST := Lib.hid hlk.ti.sts
    have HSH := Lib.hid (fun (t : Nat) (p : List UInt8) (hp : (statesL l)[t]? = some p) => st_short HST.out HLL.out hp)
    have HK1 := Lib.hid hk
    obtain ⟨g, hg⟩ : ∃ g, w1.heap.size = g := ⟨_, rfl⟩
    have HG := Lib.hid hg
    have HB := Lib.hid (show Blk (w1.alloc (.cells #[.int .i64 3, .pointer (some ⟨lg, 0, none⟩), .pointer none, .pointer none] 136)) g 136 _ from Blk.newAt hg.symm)
    have HK0 := Lib.hid ((Keeps.refl (fun _ => False) w1).alloc (.cells #[.int .i64 3, .pointer (some ⟨lg, 0, none⟩), .pointer none, .pointer none] 136))
    have HKA := Lib.hid (hk.alloc (.cells #[.int .i64 3, .pointer (some ⟨lg, 0, none⟩), .pointer none, .pointer none] 136))
    clear hlk hf ho hk
    try rw [hg]
    clear hg
    go_wp2
    go_ret2
    rw [HG.out]
    refine ⟨.inl ⟨by decide, by decide, g, rfl, ⟨lg, tg, b, cap, fb, ob, S, F, O, _, _, HB.out, HLI.out.pure HK0.out, fun e => absurd e (by decide), fun e => absurd e (by decide)⟩, HSH.out, HFW.out⟩, HKA.out⟩
  · have hno : ¬ (1 ≤ kind ∧ kind ≤ 3) := by omega
    have HNO := Lib.hid hno
    have q1 : (kind == 1) = false := by rw [beq_eq_false_iff_ne]; exact h1
    have q2 : (kind == 2) = false := by rw [beq_eq_false_iff_ne]; exact h2
    have q3 : (kind == 3) = false := by rw [beq_eq_false_iff_ne]; exact h3
    clear hno h1 h2 h3
    go_enter Tryz.func70, Tryz.ntmps70
    go_wp2_with fail
    refine HLK.out.mono ?_
    rintro e w1 ⟨lg, tg, b, cap, fb, ob, S, F, O, rfl, _, _, _, _, hk⟩
    have HKA := Lib.hid (hk.alloc (.cells #[.int .i64 kind, .pointer (some ⟨lg, 0, none⟩), .pointer none, .pointer none] 136))
    clear hk
    go_wp2
    go_ret2
    exact ⟨.inr ⟨HNO.out, rfl⟩, HKA.out⟩

/-! ### Gone through -/
def runZ (l : List (List UInt8)) (k : Int) (t : List UInt8) : Int := t.foldl (stepZ l) k
theorem runZ_snoc (l : List (List UInt8)) (k : Int) (t : List UInt8) (c : UInt8) : runZ l k (t ++ [c]) = stepZ l (runZ l k t) c := by simp [runZ]
def hitsZ (l : List (List UInt8)) (k : Int) : List Int := if 0 ≤ k ∧ k < ((statesL l).length : Int) then hitsI l ((statesL l).getD k.toNat []) else []
def depthZ (l : List (List UInt8)) (k : Int) : Int := if 0 ≤ k ∧ k < ((statesL l).length : Int) then (((statesL l).getD k.toNat []).length : Int) else 0
theorem hitsZ_in {l : List (List UInt8)} {s : Nat} {p : List UInt8} (h : (statesL l)[s]? = some p) : hitsZ l (s : Int) = hitsI l p := by
  have hs := (List.getElem?_eq_some_iff.1 h).1
  unfold hitsZ
  rw [if_pos ⟨by omega, by omega⟩, Int.toNat_natCast, List.getD_eq_getElem?_getD, h]
  rfl
theorem depthZ_in {l : List (List UInt8)} {s : Nat} {p : List UInt8} (h : (statesL l)[s]? = some p) : depthZ l (s : Int) = (p.length : Int) := by
  have hs := (List.getElem?_eq_some_iff.1 h).1
  unfold depthZ
  rw [if_pos ⟨by omega, by omega⟩, Int.toNat_natCast, List.getD_eq_getElem?_getD, h]
  rfl
theorem noSt_of {w : World} {g tg b cap fb ob : Nat} {l : List (List UInt8)} {S : List TSt} {F O : List Int} {k : Int} (h : LkI w g tg b cap fb ob l S F O) (hk : ¬ (0 ≤ k ∧ k < ((statesL l).length : Int))) : NoSt (some ⟨g, 0, none⟩) k w :=
  noSt_out g tg b cap fb ob l S F O k w h.lk (by rw [h.len]; exact hk)
theorem lstep_ (g tg b cap fb ob : Nat) (l : List (List UInt8)) (S : List TSt) (F O : List Int) (k : Int) (c : UInt8) (w : World) (h : LkI w g tg b cap fb ob l S F O) :
    Calls Tryz.prog 97 #[.pointer (some ⟨g, 0, none⟩), .int .i64 k, .int .u8 (c.toNat : Int)] w fun e w' => e = .returned (.int .i64 (stepZ l k c)) ∧ Pure' w w' := by
  by_cases hk : 0 ≤ k ∧ k < ((statesL l).length : Int)
  · obtain ⟨s, rfl⟩ : ∃ s : Nat, k = (s : Int) := ⟨k.toNat, by omega⟩
    have hs : s < (statesL l).length := by omega
    obtain ⟨p, hp⟩ : ∃ p, (statesL l)[s]? = some p := ⟨_, List.getElem?_eq_getElem hs⟩
    rw [stepZ_in c hp]
    exact (step_ g tg b cap fb ob l S F O s p c w h hp).mono fun e w' q => ⟨q.1, drewn_pure q.2⟩
  · rw [stepZ_out c hk]
    exact (step_out _ k (c.toNat : Int) w (noSt_of h hk)).mono fun e w' q => ⟨q.1, by rw [q.2]; exact Keeps.refl _ _⟩
theorem lhits_ (g tg b cap fb ob : Nat) (l : List (List UInt8)) (S : List TSt) (F O : List Int) (k : Int) (w : World) (h : LkI w g tg b cap fb ob l S F O) (hsh : ∀ (t : Nat) (p : List UInt8), (statesL l)[t]? = some p → p.length ≤ 20) :
    Calls Tryz.prog 98 #[.pointer (some ⟨g, 0, none⟩), .int .i64 k] w fun e w' => ∃ A c, e = .returned (.slice A (hitsZ l k).length c) ∧ Nm w w' (.slice A (hitsZ l k).length c) (hitsZ l k) := by
  by_cases hk : 0 ≤ k ∧ k < ((statesL l).length : Int)
  · obtain ⟨s, rfl⟩ : ∃ s : Nat, k = (s : Int) := ⟨k.toNat, by omega⟩
    have hs : s < (statesL l).length := by omega
    obtain ⟨p, hp⟩ : ∃ p, (statesL l)[s]? = some p := ⟨_, List.getElem?_eq_getElem hs⟩
    rw [hitsZ_in hp]
    exact hits_ g tg b cap fb ob l S F O s p w h hp (by have := hsh s p hp; omega)
  · have : hitsZ l k = [] := by unfold hitsZ; rw [if_neg hk]
    rw [this]
    refine (hits_out _ k w (noSt_of h hk)).mono fun e w' q => ?_
    obtain ⟨rfl, rfl⟩ := q
    exact ⟨none, 0, rfl, Row.nil _ _ _, fun b hb => by simp [Value.ownBlock] at hb, Keeps.refl _ _⟩

set_option maxHeartbeats 1000000 in
theorem depth_out (g b cap : Nat) (l : List (List UInt8)) (S : List TSt) (k : Int) (w : World) (h : TI w g b cap l S) (hk : ¬ (0 ≤ k ∧ k < (S.length : Int))) : Calls Tryz.prog 100 #[.pointer (some ⟨g, 0, none⟩), .int .i64 k] w fun e w' => e = .returned (.int .i64 0) ∧ w' = w := by
  have HI := Lib.hid (tis_ _ S k w h.any)
  rw [isB_out hk] at HI
  clear h hk
  go_enter Tryz.func100, Tryz.ntmps100
  go_wp2_with fail
  refine HI.out.mono ?_
  rintro e w1 ⟨rfl, rfl⟩
  go_wp2
  go_ret
  exact ⟨rfl, rfl⟩
theorem tdepth_ (g b cap : Nat) (l : List (List UInt8)) (S : List TSt) (k : Int) (w : World) (h : TI w g b cap l S) : Calls Tryz.prog 100 #[.pointer (some ⟨g, 0, none⟩), .int .i64 k] w fun e w' => e = .returned (.int .i64 (depthZ l k)) ∧ w' = w := by
  by_cases hk : 0 ≤ k ∧ k < ((statesL l).length : Int)
  · obtain ⟨s, rfl⟩ : ∃ s : Nat, k = (s : Int) := ⟨k.toNat, by omega⟩
    have hs : s < (statesL l).length := by omega
    obtain ⟨p, hp⟩ : ∃ p, (statesL l)[s]? = some p := ⟨_, List.getElem?_eq_getElem hs⟩
    rw [depthZ_in hp]
    exact depth_ g b cap l S s p w h hp
  · have : depthZ l k = 0 := by unfold depthZ; rw [if_neg hk]
    rw [this]
    exact depth_out g b cap l S k w h (by rw [h.ok.len]; exact hk)

set_option maxHeartbeats 2000000 in
theorem astep_ (g : Nat) (kind : Int) (l : List (List UInt8)) (k : Int) (c : UInt8) (w : World) (h : AutI w g kind l) : Calls Tryz.prog 71 #[.pointer (some ⟨g, 0, none⟩), .int .i64 k, .int .u8 (c.toNat : Int)] w fun e w' => e = .returned (.int .i64 (stepZ l k c)) ∧ Pure' w w' := by
  obtain ⟨lg, tg, b, cap, fb, ob, S, F, O, dp, sp, h1, h2, h3, h4⟩ := h.ex
  have x0 := h1.cell 0
  have x1 := h1.cell 1
  have x2 := h1.cell 2
  have x3 := h1.cell 3
  have HL := Lib.hid (lstep_ lg tg b cap fb ob l S F O k c w h2)
  obtain ⟨z, hz⟩ : ∃ z, stepZ l k c = z := ⟨_, rfl⟩
  have HZ := Lib.hid hz
  rw [hz] at HL ⊢
  have hdn : kind = 1 → ∃ dg, dp = some ⟨dg, 0, none⟩ ∧ Calls Tryz.prog 95 #[.pointer (some ⟨dg, 0, none⟩), .int .i64 k, .int .u8 (c.toNat : Int)] w fun e w' => e = .returned (.int .i64 z) ∧ Pure' w w' := fun e => by
    obtain ⟨dg, e1, e2⟩ := h3 e
    exact ⟨dg, e1, by have := dstep_ dg l k c w e2; rwa [hz] at this⟩
  have hsn : kind = 2 → ∃ sg, sp = some ⟨sg, 0, none⟩ ∧ Calls Tryz.prog 96 #[.pointer (some ⟨sg, 0, none⟩), .int .i64 k, .int .u8 (c.toNat : Int)] w fun e w' => e = .returned (.int .i64 z) ∧ Pure' w w' := fun e => by
    obtain ⟨dg, e1, e2⟩ := h4 e
    exact ⟨dg, e1, by have := sstep_ dg l k c w e2; rwa [hz] at this⟩
  clear h h1 h2 h3 h4 hz HZ
  by_cases k1 : kind = 1
  · subst k1
    obtain ⟨dg, rfl, hd⟩ := hdn rfl
    have HD := Lib.hid hd
    clear hdn hsn hd
    go_enter Tryz.func71, Tryz.ntmps71
    go_wp2_with fail
    refine HD.out.mono ?_
    rintro e w1 ⟨rfl, hk⟩
    have HK := Lib.hid hk
    clear hk
    go_wp2
    go_ret
    exact ⟨rfl, HK.out⟩
  by_cases k2 : kind = 2
  · subst k2
    obtain ⟨dg, rfl, hd⟩ := hsn rfl
    have HD := Lib.hid hd
    clear hdn hsn hd k1
    go_enter Tryz.func71, Tryz.ntmps71
    go_wp2_with fail
    refine HD.out.mono ?_
    rintro e w1 ⟨rfl, hk⟩
    have HK := Lib.hid hk
    clear hk
    go_wp2
    go_ret
    exact ⟨rfl, HK.out⟩
  · have q1 : (kind == 1) = false := by rw [beq_eq_false_iff_ne]; exact k1
    have q2 : (kind == 2) = false := by rw [beq_eq_false_iff_ne]; exact k2
    clear hdn hsn k1 k2
    go_enter Tryz.func71, Tryz.ntmps71
    go_wp2_with fail
    refine HL.out.mono ?_
    rintro e w1 ⟨rfl, hk⟩
    have HK := Lib.hid hk
    clear hk
    go_wp2
    go_ret
    exact ⟨rfl, HK.out⟩

set_option maxHeartbeats 1000000 in
theorem ahits_ (g : Nat) (kind : Int) (l : List (List UInt8)) (k : Int) (w : World) (h : AutI w g kind l) :
    Calls Tryz.prog 72 #[.pointer (some ⟨g, 0, none⟩), .int .i64 k] w fun e w' => ∃ A c, e = .returned (.slice A (hitsZ l k).length c) ∧ Nm w w' (.slice A (hitsZ l k).length c) (hitsZ l k) := by
  obtain ⟨lg, tg, b, cap, fb, ob, S, F, O, dp, sp, h1, h2, h3, h4⟩ := h.ex
  have x1 := h1.cell 1
  have HL := Lib.hid (lhits_ lg tg b cap fb ob l S F O k w h2 h.short)
  clear h h1 h2 h3 h4
  go_enter Tryz.func72, Tryz.ntmps72
  go_wp2_with fail
  refine HL.out.mono ?_
  rintro e w1 ⟨A, c, rfl, hk⟩
  have HK := Lib.hid hk
  clear hk
  go_wp2
  go_ret
  exact ⟨A, c, rfl, HK.out⟩
set_option maxHeartbeats 1000000 in
theorem adepth_ (g : Nat) (kind : Int) (l : List (List UInt8)) (k : Int) (w : World) (h : AutI w g kind l) :
    Calls Tryz.prog 73 #[.pointer (some ⟨g, 0, none⟩), .int .i64 k] w fun e w' => e = .returned (.int .i64 (depthZ l k)) ∧ w' = w := by
  obtain ⟨lg, tg, b, cap, fb, ob, S, F, O, dp, sp, h1, h2, h3, h4⟩ := h.ex
  have x1 := h1.cell 1
  have HT := Lib.hid (ltrie_ lg tg b cap fb ob l S F O w h2.lk)
  have HD := Lib.hid (tdepth_ tg b cap l S k w h2.lk.ti)
  clear h h1 h2 h3 h4
  go_enter Tryz.func73, Tryz.ntmps73
  go_wp2_with fail
  refine HT.out.mono ?_
  rintro e w1 ⟨rfl, rfl⟩
  go_wp2_with fail
  refine HD.out.mono ?_
  rintro e w1 ⟨rfl, rfl⟩
  go_wp2
  go_ret
  exact ⟨rfl, rfl⟩

end Go.Proofs.YtkbdfnmeomkpjaaGreat
