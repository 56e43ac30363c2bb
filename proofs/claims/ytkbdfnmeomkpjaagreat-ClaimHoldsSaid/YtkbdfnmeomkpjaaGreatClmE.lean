/- A sight made; how many ends a record covers; no condition but the sizes. -/
import Derived.Test.YtkbdfnmeomkpjaaGreatClmD
namespace Go.Proofs.YtkbdfnmeomkpjaaGreat
open Go.RowKit
set_option linter.unusedVariables false
set_option linter.unusedSimpArgs false
set_option maxRecDepth 100000

set_option maxHeartbeats 1000000 in
theorem smost_ (x : Option Addr) (lp : List ByteArray) (w : World) (h : SetP w x lp) : Calls Tryz.prog 41 #[.pointer x] w fun e w' => e = .returned (.int .i64 (maxL lp)) ∧ w = w' := by
  rcases h with ⟨rfl, rfl⟩ | ⟨g, A, c, t, rfl, hne, hb, hs⟩
  · go_enter Tryz.func41, Tryz.ntmps41
    go_wp2
    go_ret
    exact ⟨rfl, rfl⟩
  · have c2 := hb.cell 2
    clear hb hs hne
    generalize maxL lp = m at c2 ⊢
    go_enter Tryz.func41, Tryz.ntmps41
    go_wp2
    go_ret
    exact ⟨rfl, rfl⟩
set_option maxHeartbeats 1000000 in
theorem cof_ (g p : Option Addr) (w : World) : Calls Tryz.prog 17 #[.pointer g, .pointer p] w fun e w' => e = .returned (.agg #[.pointer g, .pointer p]) ∧ Pure' w w' := by
  have HK := Lib.hid (show Pure' w (w.alloc (.cells #[.pointer g, .pointer p] 34)) from (Keeps.refl _ w).alloc _)
  go_enter Tryz.func17, Tryz.ntmps17
  go_wp2_with fail
  refine bodyPost_ret (v := .agg #[.pointer g, .pointer p]) (by simp [results, Tryz.results17, go_sem]) rfl ⟨rfl, ?_⟩
  exact HK.out
theorem maxL_ge {lp : List ByteArray} : ∀ t ∈ lp, t.size ≤ maxL lp := by
  have key : ∀ (l : List ByteArray) (a : Nat), a ≤ l.foldl (fun a s => max a s.size) a ∧ ∀ s ∈ l, s.size ≤ l.foldl (fun a s => max a s.size) a := by
    intro l
    induction l with
    | nil => intro a; exact ⟨Nat.le_refl _, by simp⟩
    | cons b l ih =>
      intro a
      obtain ⟨h1, h2⟩ := ih (max a b.size)
      refine ⟨by rw [List.foldl_cons]; omega, fun s hs => ?_⟩
      rw [List.foldl_cons]
      rcases List.mem_cons.1 hs with rfl | hs
      · omega
      · exact h2 s hs
  exact (key lp 0).2
theorem maxL_le {lp : List ByteArray} {N : Nat} (h : ∀ t ∈ lp, t.size ≤ N) : maxL lp ≤ N := by
  have key : ∀ (l : List ByteArray) (a : Nat), a ≤ N → (∀ s ∈ l, s.size ≤ N) → l.foldl (fun a s => max a s.size) a ≤ N := by
    intro l
    induction l with
    | nil => intro a ha _; exact ha
    | cons b l ih =>
      intro a ha hl
      rw [List.foldl_cons]
      exact ih _ (by have := hl b (by simp); omega) (fun s hs => hl s (by simp [hs]))
  exact key lp 0 (Nat.zero_le _) h
theorem Keeps.both {w w' : World} (h : Pure' w w') (p : Addr) (u : Value) : Pure' (w.setCell p u) (w'.setCell p u) := by
  refine ⟨h.os, h.tape, h.output, by simpa [World.setCell] using h.size, fun k hk _ => ?_⟩
  have hk2 : k < w.heap.size := by simpa [World.setCell] using hk
  have hb := h.block k hk2 (fun hf => hf)
  simp only [World.setCell, Array.getElem?_modify, hb]
theorem PMine.both {w0 w : World} {g gr : Nat} {gone rest : List UInt8} {closed : Bool} {size b i : Nat} {u : Value} (h : Pn.PMine w0 w g gr gone rest closed size) (hb : b < w0.heap.size) : Pn.PMine (w0.setCell ⟨b, i, none⟩ u) (w.setCell ⟨b, i, none⟩ u) g gr gone rest closed size := by
  obtain ⟨S, h1, h2, h3, h4, h5, h6⟩ := h
  have hz : (w0.setCell ⟨b, i, none⟩ u).heap.size = w0.heap.size := by simp [World.setCell]
  have hz2 : (w.setCell ⟨b, i, none⟩ u).heap.size = w.heap.size := by simp [World.setCell]
  exact ⟨S, h1.off (by omega), h2.keep (Keeps.one w b i u) (fun x hx e => by have := (h5 x hx).1; omega), h3, by rw [hz]; exact h4, fun x hx => by rw [hz, hz2]; exact h5 x hx, Keeps.both h6 _ _⟩
theorem SetP.off {w : World} {x : Option Addr} {lp : List ByteArray} {b i : Nat} {u : Value} {p q : Option Addr} (h : SetP w x lp) (hb : Blk w b 34 #[.pointer p, .pointer q]) : SetP (w.setCell ⟨b, i, none⟩ u) x lp := by
  rcases h with ⟨rfl, rfl⟩ | ⟨g, A, c, t, rfl, hne, h1, h2⟩
  · exact .inl ⟨rfl, rfl⟩
  · have hg : g ≠ b := fun e => by subst e; exact Blk.differ h1 hb (by decide) rfl
    refine .inr ⟨g, A, c, t, rfl, hne, h1.off hg, ?_⟩
    have hz : (w.setCell ⟨b, i, none⟩ u).heap.size = w.heap.size := by simp [World.setCell]
    rw [hz]
    refine ⟨h2.1, fun hn => ?_⟩
    obtain ⟨ad, e, hbl, hc⟩ := h2.2 hn
    refine ⟨ad, e, hbl, fun j v hv => ?_⟩
    have hcell := hc j v hv
    have hne2 : (ad.add j).block ≠ b := by
      intro e2
      obtain ⟨ab, ao, sp⟩ := ad
      obtain rfl : sp = none := by
        have h0 := hc 0 _ (List.getElem?_eq_getElem (by simpa using hn))
        have := World.cell?_spot h0
        simpa [Addr.add] using this
      have e3 : (⟨ab, ao, none⟩ : Addr).add j = ⟨b, ao + j, none⟩ := by
        rw [addBlock] at e2
        subst e2
        unfold Addr.add; split <;> simp_all
      rw [e3, hb.cell] at hcell
      obtain ⟨s, _, rfl⟩ := List.mem_map.1 (List.mem_of_getElem? hv)
      have : ∀ k : Nat, (#[Value.pointer p, Value.pointer q] : Array Value)[k]? ≠ some (Value.string s) := by
        intro k
        match k with
        | 0 => simp
        | 1 => simp
        | k + 2 => simp
      exact this _ hcell
    exact (World.cell?_of_block (Below.heap_setCell w ⟨b, i, none⟩ u (ad.add j).block (fun e => hne2 (by first | exact e | exact e.symm)))).trans hcell
theorem GdI.off {w : World} {n0 g m b i : Nat} {x : Option Addr} {l : List (List UInt8)} {u : Value} (h : GdI w n0 g x l m) (hb : b < n0) : GdI (w.setCell ⟨b, i, none⟩ u) n0 g x l m := by
  obtain ⟨b1, b2, mb, n, R, A, T, L, G, h1, h2⟩ := h
  exact ⟨b1, b2, mb, n, R, A, T, L, G, h1.keep (Keeps.one w b i u) (fun k hk e => by omega), h2⟩
/-- What a sight is made of. -/
def SightPost (l0 : List ByteArray) (s : List UInt8) (w : World) (e : Ending) (w' : World) : Prop :=
  ∃ (g p gr : Nat) (x : Option Addr) (lp : List ByteArray) (size : Nat), e = .returned (.tuple #[sgV g p, .bool true]) ∧ SgI w' g p gr x lp s size ∧ SgB lp s size ∧ lp.Perm l0 ∧ InOrd lp ∧ Pure' w w'
set_option maxHeartbeats 4000000 in
theorem sight_ (A : Option Addr) (m c B : Nat) (l0 : List ByteArray) (s : List UInt8) (more : Nat) (w : World) (hok : OkL l0) (h : Sees w B 1 A m (l0.map Value.string)) (hB : B ≤ w.heap.size) (hm : m ≤ 12) (hl : ∀ s ∈ l0, s.size ≤ 20) (hs : s.length ≤ 1000) (hmo : more ≤ 7) :
    Calls Tryz.prog 10 #[.slice A m c, .string ⟨s.toArray⟩, .int .i64 (more : Int)] w (SightPost l0 s w) := by
  have hll : l0.length = m := by have := h.1; simpa using this
  have HK0 := Lib.hid (show Pure' w (w.alloc (.cells #[.pointer none, .pointer none] 34)) from (Keeps.refl _ w).alloc _)
  have HB0 := Lib.hid (show Blk (w.alloc (.cells #[.pointer none, .pointer none] 34)) w.heap.size 34 #[.pointer none, .pointer none] from Blk.newAt rfl)
  have HNEW := Lib.hid (fun (W : World) (hW : Pure' w W) => new_ A m c B l0 W (h.pure hW hB) (by have := hW.size; omega) hm hl)
  have HOK := Lib.hid hok
  have HLL := Lib.hid hll
  have HL := Lib.hid hl
  have hbs : (⟨s.toArray⟩ : ByteArray).size = s.length := Lib.size_eq _
  obtain ⟨sn, hsn⟩ : ∃ n, s.length = n := ⟨_, rfl⟩
  have HSN := Lib.hid hsn
  rw [hsn] at hbs hs
  clear h hok hll hl hsn
  go_enter Tryz.func10, Tryz.ntmps10
  go_wp2_with fail
  generalize (w.alloc (.cells #[.pointer none, .pointer none] 34)) = W0 at *
  obtain ⟨b6, hb6⟩ : ∃ b, w.heap.size = b := ⟨_, rfl⟩
  have HB6 := Lib.hid hb6
  rw [hb6] at HB0 ⊢
  clear hb6
  refine (HNEW.out W0 HK0.out).mono ?_
  rintro e w1 ⟨x, er, lp, rfl, hc, hset, hk⟩
  rcases hc with ⟨_, rfl, hp, ho⟩ | ⟨hno, _⟩
  case inr => exact absurd HOK.out hno
  have HPO := Lib.hid (And.intro hp ho)
  have HK1 := Lib.hid hk
  have HSET := Lib.hid (fun (W : World) (hW : Pure' w1 W) => hset.pure hW)
  have HMO := Lib.hid (smost_ x lp w1 hset)
  have hml : maxL lp ≤ 20 := maxL_le (fun t ht => HL.out t (hp.mem_iff.1 ht))
  have HMG := Lib.hid (fun t (ht : t ∈ lp) => maxL_ge (lp := lp) t ht)
  obtain ⟨mx, hmx⟩ : ∃ mx, maxL lp = mx := ⟨_, rfl⟩
  rw [hmx] at HMO hml HMG
  clear hp ho hset hk HNEW hmx
  go_wp2_with fail
  refine HMO.out.mono ?_
  rintro e w2 ⟨rfl, rfl⟩
  have HPN := Lib.hid (Pn.pnew_ok ((mx : Int) + 2 + (more : Int)) w1 (by omega) (by omega))
  go_wp2_with fail
  refine HPN.out.mono ?_
  rintro e w3 ⟨rfl, hw3⟩
  have hpm0 := Pn.PMine.made w1 (mx + 2 + more) (by omega) (by omega)
  rw [show (((mx + 2 + more : Nat)) : Int) = (mx : Int) + 2 + (more : Int) by omega, ← hw3] at hpm0
  obtain ⟨p, hp⟩ : ∃ p, w1.heap.size + 1 = p := ⟨_, rfl⟩
  rw [hp] at hpm0 ⊢
  obtain ⟨gr, hgr⟩ : ∃ gr, w1.heap.size = gr := ⟨_, rfl⟩
  rw [hgr] at hpm0
  have HPM0 := Lib.hid hpm0
  have HOF := Lib.hid (Pn.offer_yes p _ _ ⟨s.toArray⟩ w3 hpm0.blk (by rw [Pn.str_empty]; rfl))
  clear hpm0 hw3 hp hgr
  go_wp2_with fail
  refine HOF.out.mono ?_
  rintro e w4 ⟨rfl, hw4⟩
  have hpm1 := HPM0.out.setP (i := 1) (u := .string ⟨s.toArray⟩) (rest' := s) (closed' := false) rfl
  rw [← hw4] at hpm1
  have HTO := Lib.hid (Pn.to_pane w1 w4 p gr (sn : Int) [] s false (mx + 2 + more) hpm1 (by simp; rw [HSN.out]; omega))
  clear hpm1 hw4
  go_wp2_with fail
  refine HTO.out.mono ?_
  rintro e w5 ⟨rfl, hpm2, _⟩
  have hd : decide ((sn : Int) - ((([] : List UInt8).length : Nat) : Int) ≤ ((s.length : Nat) : Int)) = true := decide_eq_true (by rw [HSN.out]; simp)
  have htn : Pn.toN (sn : Int) [] s = sn := by unfold Pn.toN; rw [HSN.out]; simp
  rw [htn, List.take_of_length_le (by rw [HSN.out]; exact Nat.le_refl _), List.drop_of_length_le (by rw [HSN.out]; exact Nat.le_refl _), List.nil_append] at hpm2
  have HPM := Lib.hid hpm2
  have HK5 := Lib.hid hpm2.p
  rw [hd]
  have hord := lst_ord (l := l0) (lp := lp) (.inl ⟨HOK.out, HPO.out.1, HPO.out.2⟩)
  have hfew := lst_few (l := l0) (lp := lp) (N := 12) (M := 20) (.inl HPO.out.1) (by rw [HLL.out]; exact hm) HL.out
  have HNG := Lib.hid (newGuard_ x lp w5 (HSET.out w5 hpm2.p) hfew.1 hfew.2 hord.2)
  have HSB := Lib.hid (show SgB lp s (mx + 2 + more) from ⟨hfew.1, hfew.2, hord.2, by rw [HSN.out]; exact hs, by omega, fun y hy => by
    obtain ⟨t, ht, rfl⟩ := List.mem_map.1 hy
    have := HMG.out t ht
    have h3 : t.data.toList.length = t.size := Array.length_toList
    omega⟩)
  clear hpm2 hd htn hord hfew HPM0 HOF HTO HPN
  go_wp2_with fail
  refine HNG.out.mono ?_
  rintro e w6 ⟨g, rfl, _, hg, hk⟩
  have HG := Lib.hid (fun (W : World) (hW : Pure' w6 W) => hg.pure hW)
  have HK6 := Lib.hid hk
  clear hg hk HNG
  go_wp2_with fail
  refine (cof_ _ _ w6).mono ?_
  rintro e w7 ⟨rfl, hk⟩
  have HK7 := Lib.hid hk
  have HB7 := Lib.hid ((HB0.out.keep (HK1.out.trans (HK5.out.trans (HK6.out.trans hk (fun _ _ hf => hf)) (fun _ _ hf => hf)) (fun _ _ hf => hf)) (fun hf => hf)))
  have x0 := HB7.out.cell 0
  have x1 := HB7.out.cell 1
  have f0 := HB7.out.frozen 0
  have f1 := HB7.out.frozen 1
  clear hk
  go_wp2_with fail
  have hbk : b6 < w1.heap.size := by have := (HB0.out.lt); have := HK1.out.size; omega
  have hK7 : Pure' w w7 := HK0.out.trans (HK1.out.trans (HK5.out.trans (HK6.out.trans HK7.out (fun _ _ hf => hf)) (fun _ _ hf => hf)) (fun _ _ hf => hf)) (fun _ _ hf => hf)
  refine bodyPost_ret (v := .tuple #[sgV g p, .bool true]) (by simp [results, Tryz.results10, go_sem, sgV, x0, x1]) rfl ⟨g, p, gr, x, lp, mx + 2 + more, rfl, ⟨⟨_, (((HG.out w7 HK7.out).off (by have := HK5.out.size; omega)).off (by have := HK5.out.size; omega))⟩, ?_, ?_⟩, HSB.out, HPO.out.1, HPO.out.2, ?_⟩
  · have hs7 := HSET.out w7 (HK5.out.trans (HK6.out.trans HK7.out (fun _ _ hf => hf)) (fun _ _ hf => hf))
    exact (hs7.off HB7.out).off (by simpa using HB7.out.set_ 0 (.pointer (some ⟨g, 0, none⟩)))
  · have hp7 := HPM.out.pure (HK6.out.trans HK7.out (fun _ _ hf => hf))
    exact ⟨_, PMine.both (PMine.both hp7 hbk) (by simpa [World.setCell] using hbk)⟩
  · exact (hK7.setCell (p := ⟨b6, 0, none⟩) (.inr (by have := HB6.out; show w.heap.size ≤ b6; omega)) _).setCell (p := ⟨b6, 1, none⟩) (.inr (by have := HB6.out; show w.heap.size ≤ b6; omega)) _
end Go.Proofs.YtkbdfnmeomkpjaaGreat
