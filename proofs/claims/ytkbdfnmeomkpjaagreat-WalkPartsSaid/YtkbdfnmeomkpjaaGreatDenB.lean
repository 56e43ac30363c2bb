/- The rows of a dense table, plainly; a dense table made; no condition but the sizes. -/
import Derived.Test.YtkbdfnmeomkpjaaGreatDenA
namespace Go.Proofs.YtkbdfnmeomkpjaaGreat
open Go.RowKit
set_option linter.unusedVariables false
set_option linter.unusedSimpArgs false
set_option maxRecDepth 100000

theorem Blk.setRow {w : World} {g : Nat} {t : TypeId} {cs : Array Value} (h : Blk w g t cs) (cs' : Array Value) : Blk (w.setRow g cs') g t cs' := setRow_heap w g cs cs' t (0, 0) h
theorem Blk.setRowOff {w : World} {g k : Nat} {t : TypeId} {cs : Array Value} (h : Blk w g t cs) (hne : g ≠ k) (cs' : Array Value) : Blk (w.setRow k cs') g t cs := (setRow_other w k g cs' hne).trans h
theorem Keeps.setRow {S : Nat → Prop} {w w1 : World} (h : Keeps S w w1) {k : Nat} (hk : S k ∨ w.heap.size ≤ k) (cs : Array Value) : Keeps S w (w1.setRow k cs) :=
  ⟨h.os, h.tape, h.output, by simpa [World.setRow] using h.size, fun b hb hn => (setRow_other w1 k b cs (by
    rintro rfl
    rcases hk with hk | hk
    · exact hn hk
    · omega)).trans (h.block b hb hn)⟩

/-- The first K rows are known, behind them nothing is. -/
def DInv (l : List (List UInt8)) (bs : List UInt8) (W K : Nat) (f : Nat → Nat) : Prop :=
  (∀ s q c, s < K → (statesL l)[s]? = some q → f (s * W + cf bs c) = lsuf (statesL l) (q ++ [c])) ∧ ∀ i, K * W ≤ i → f i = 0
/-- .. and in row K stands v. -/
def RowOk (l : List (List UInt8)) (bs : List UInt8) (W K : Nat) (f : Nat → Nat) (v : UInt8 → Nat) : Prop :=
  (∀ s q c, s < K → (statesL l)[s]? = some q → f (s * W + cf bs c) = lsuf (statesL l) (q ++ [c])) ∧ (∀ c, f (K * W + cf bs c) = v c) ∧ ∀ i, (K + 1) * W ≤ i → f i = 0
theorem DInv.start (l : List (List UInt8)) (bs : List UInt8) (W : Nat) : DInv l bs W 0 (fun _ => 0) := ⟨fun s q c h => by omega, fun _ _ => rfl⟩
theorem row_lt {W s K k : Nat} (hs : s < K) (hk : k < W) : s * W + k < K * W := by
  have := Nat.mul_le_mul_right W hs
  rw [Nat.succ_mul] at this
  omega
theorem DInv.copy {l : List (List UInt8)} {bs : List UInt8} {W K fl : Nat} {f : Nat → Nat} {v : UInt8 → Nat} (h : DInv l bs W K f) (hW : W = bs.length + 1) (hv : ∀ c, f (fl * W + cf bs c) = v c) : RowOk l bs W K (cpy f (K * W) (fl * W) W) v := by
  refine ⟨fun s q c hs hq => ?_, fun c => ?_, fun i hi => ?_⟩
  · have h1 := row_lt hs (show cf bs c < W by have := cf_le bs c; omega)
    unfold cpy
    rw [if_neg (by omega)]
    exact h.1 s q c hs hq
  · have := cf_le bs c
    unfold cpy
    rw [if_pos (by omega), show fl * W + (K * W + cf bs c - K * W) = fl * W + cf bs c by omega]
    exact hv c
  · rw [Nat.succ_mul] at hi
    unfold cpy
    rw [if_neg (by omega)]
    exact h.2 i (by omega)
theorem cf_inj {bs : List UInt8} {b c : UInt8} (hb : b ∈ bs) (h : cf bs c = cf bs b) : c = b := by
  unfold cf at h
  rw [if_pos hb] at h
  by_cases hc : c ∈ bs
  · rw [if_pos hc] at h
    have h1 := List.getElem_idxOf (List.idxOf_lt_length_of_mem hc)
    have h2 := List.getElem_idxOf (List.idxOf_lt_length_of_mem hb)
    have e : bs.idxOf c = bs.idxOf b := by omega
    rw [← h1, ← h2]
    simp only [e]
  · rw [if_neg hc] at h
    omega
theorem RowOk.put {l : List (List UInt8)} {bs : List UInt8} {W K tn : Nat} {f : Nat → Nat} {v : UInt8 → Nat} {b : UInt8} (h : RowOk l bs W K f v) (hW : W = bs.length + 1) (hb : b ∈ bs) : RowOk l bs W K (updN f (K * W + cf bs b) tn) (fun c => if c = b then tn else v c) := by
  have hbl := cf_le bs b
  refine ⟨fun s q c hs hq => ?_, fun c => ?_, fun i hi => ?_⟩
  · have h1 := row_lt hs (show cf bs c < W by have := cf_le bs c; omega)
    unfold updN
    rw [if_neg (by omega)]
    exact h.1 s q c hs hq
  · unfold updN
    by_cases e : c = b
    · subst e; rw [if_pos rfl]; exact (if_pos rfl).symm
    · rw [if_neg (fun h2 => e (cf_inj hb (by omega)))]
      exact (h.2.1 c).trans (if_neg e).symm
  · have h2 := hi
    rw [Nat.succ_mul] at h2
    unfold updN
    rw [if_neg (by omega)]
    exact h.2.2 i hi
theorem RowOk.done {l : List (List UInt8)} {bs : List UInt8} {W K : Nat} {f : Nat → Nat} {v : UInt8 → Nat} {p : List UInt8} (h : RowOk l bs W K f v) (hp : (statesL l)[K]? = some p) (hv : ∀ c, v c = lsuf (statesL l) (p ++ [c])) : DInv l bs W (K + 1) f := by
  refine ⟨fun s q c hs hq => ?_, h.2.2⟩
  rcases Nat.lt_or_ge s K with h1 | h1
  · exact h.1 s q c h1 hq
  · obtain rfl : s = K := by omega
    rw [hp] at hq
    cases hq
    rw [h.2.1, hv]
/-- Where row K comes from. -/
theorem base_ok {l : List (List UInt8)} {bs : List UInt8} {W K : Nat} {p : List UInt8} (hs : Sts l (statesL l)) (hp : (statesL l)[K]? = some p) :
    ∃ bse : UInt8 → Nat, (∀ f, DInv l bs W K f → ∀ c, f (lsuf (statesL l) p.tail * W + cf bs c) = bse c) ∧ (∀ c, p ++ [c] ∉ statesL l → bse c = lsuf (statesL l) (p ++ [c])) ∧ lsuf (statesL l) p.tail ≤ K := by
  rcases Nat.eq_zero_or_pos K with rfl | hK
  · rw [hs.zero] at hp
    cases hp
    refine ⟨fun _ => 0, fun f hf c => hf.2 _ (by simp), fun c hc => (fall_end hc).symm, Nat.le_refl _⟩
  · obtain ⟨hlt, q, hq, _⟩ := fall_less hs hp hK
    have hne : p ≠ [] := by
      rintro rfl
      have := hs.idx hp
      rw [hs.idx hs.zero] at this
      omega
    exact ⟨fun c => lsuf (statesL l) (q ++ [c]), fun f hf c => hf.1 _ q c hlt hq, fun c hc => (fall_step hs hc hne hq).symm, Nat.le_of_lt hlt⟩
theorem used_of {l : List (List UInt8)} {p : List UInt8} {c : UInt8} (hs : Sts l (statesL l)) (h : p ++ [c] ∈ statesL l) : ∃ y ∈ l, c ∈ y := by
  rcases (hs.mem _).1 h with e | ⟨x, hx, r, e⟩
  · simp at e
  · exact ⟨x, hx, by rw [← e]; simp⟩

/-- A dense table's numbers. -/
def DOk (l : List (List UInt8)) (bs : List UInt8) (W : Nat) (f : Nat → Nat) : Prop := ∀ s q c, (statesL l)[s]? = some q → f (s * W + cf bs c) = lsuf (statesL l) (q ++ [c])
def NewDenPost (l : List (List UInt8)) (w : World) (e : Ending) (w' : World) : Prop :=
  ∃ (g cg nb n W : Nat) (bs : List UInt8) (f : Nat → Nat), e = .returned (.pointer (some ⟨g, 0, none⟩)) ∧ DenA w' g cg nb n W bs f ∧ DOk l bs W f ∧ n = (statesL l).length ∧ n ≤ 241 ∧ w.heap.size ≤ g ∧ Pure' w w'

theorem i32Info : (Tryz.prog.info? 21).map (fun i => (i.zero, i.size, i.bytes)) = some (some (.int .i32 0), 1, 4) := by kernel_rfl
theorem made32_ (n : Nat) (hn : n ≤ 1000000) (w : World) : (Instr.makeSlice 167 (.int .i64 (n : Int)) (.int .i64 (n : Int))).run Tryz.prog w = .ok (.slice (some ⟨w.heap.size, 0, none⟩) n n) (w.alloc (.cells (tabV (fun _ => 0) n) 21)) := by
  obtain ⟨i, h1, h2, h3, h4⟩ := info_parts i32Info
  have hr := run_make (P := Tryz.prog) w 167 21 i (.int .i32 0) Tryz.underlying167 h1 h2 .i64 .i64 n n (by omega) (by omega) (by rw [h4]; omega) (by omega)
  simp only [Int.toNat_natCast] at hr
  rw [hr, h3, Nat.mul_one]
  have : madeCells (Value.int .i32 0).cells n = tabV (fun _ => 0) n := by
    apply Array.toList_inj.1
    rw [show (Value.int .i32 0).cells = #[.int .i32 0] from rfl, madeCells_one]
    unfold tabV
    apply List.ext_getElem
    · simp
    · intro i h1 h2; simp
  rw [this]

set_option maxHeartbeats 8000000 in
theorem newDen_ (x : Option Addr) (lp : List ByteArray) (w : World) (h : SetP w x lp) (hn : lp.length ≤ 12) (hll : ∀ y ∈ bl lp, y.length ≤ 20) (hl : (bl lp).Pairwise (· < ·)) (hne : ∀ y ∈ bl lp, y ≠ []) :
    Calls Tryz.prog 93 #[.pointer x] w fun e w' => NewDenPost (bl lp) w e w' := by
  have HCL := Lib.hid (newCls_ x lp w h hn hll)
  have HLK := Lib.hid (fun (W : World) (hW : Pure' w W) => newLink_ x lp W (h.pure hW) hn hll hl hne)
  clear h hl hne
  obtain ⟨l, hbl⟩ : ∃ l, bl lp = l := ⟨_, rfl⟩
  rw [hbl] at HCL HLK hll ⊢
  clear hbl hn hll
  go_enter Tryz.func93, Tryz.ntmps93
  go_wp2_with fail
  refine HCL.out.mono ?_
  rintro e w1 ⟨cg, bs, rfl, hcl, hus, hcg, hk⟩
  have HC1 := Lib.hid hcl
  have HUS := Lib.hid hus
  have HK1 := Lib.hid hk
  clear hcl hus hk
  go_wp2_with fail
  refine (HLK.out _ HK1.out).mono ?_
  rintro e w2 ⟨lg, tg, b, cap, fb, ob, S, F, O, rfl, hlk, hf, ho, hlg, hk⟩
  have HLI := Lib.hid (show LkI w2 lg tg b cap fb ob l S F O from ⟨hlk, hf, ho⟩)
  have HC2 := Lib.hid (HC1.out.pure hk)
  have HK2 := Lib.hid (HK1.out.trans hk (fun _ _ hf => hf))
  have HST := Lib.hid hlk.ti.sts
  have hfew := hlk.ti.few
  have hnl := HLI.out.len
  clear hlk hf ho hk HCL HLK hlg
  obtain ⟨n, hn⟩ : ∃ n, S.length = n := ⟨_, rfl⟩
  have HN := Lib.hid hn
  rw [hn] at hfew hnl
  have HNL := Lib.hid hnl
  clear hn hnl
  obtain ⟨W, hW⟩ : ∃ W, W = bs.length + 1 := ⟨_, rfl⟩
  have HW := Lib.hid hW
  have hWb : W ≤ 257 := by have := HC2.out.few; omega
  have hW0 : 0 < W := by omega
  have hWc : (bs.length : Int) + 1 = (W : Int) := by omega
  have HCLN := Lib.hid (show ∀ X, Pure' w2 X → Calls Tryz.prog 126 #[.pointer (some ⟨cg, 0, none⟩)] X fun e w' => e = .returned (.int .i64 (W : Int)) ∧ w' = X from fun X hX => by have := clen_ cg bs X (HC2.out.pure hX); rwa [hWc] at this)
  have HTR := Lib.hid (fun (X : World) (hX : Pure' w2 X) => ltrie_ lg tg b cap fb ob l S F O X (HLI.out.pure hX).lk)
  have HLEN := Lib.hid (fun (X : World) (hX : Pure' w2 X) => tlen_ tg b cap S.length X (HLI.out.pure hX).lk.ti.tr.box)
  rw [HN.out] at HLEN
  clear hW hWc
  go_wp2_with fail
  refine (HCLN.out _ (Keeps.refl _ _)).mono ?_
  rintro e w3 ⟨rfl, rfl⟩
  go_wp2_with fail
  refine (HTR.out _ (Keeps.refl _ _)).mono ?_
  rintro e w4 ⟨rfl, rfl⟩
  go_wp2_with fail
  refine (HLEN.out _ (Keeps.refl _ _)).mono ?_
  rintro e w5 ⟨rfl, rfl⟩
  obtain ⟨N, hN⟩ : ∃ N, n * W = N := ⟨_, rfl⟩
  have HNN := Lib.hid hN
  have hNb : N ≤ 61937 := by rw [← hN]; exact Nat.mul_le_mul hfew hWb
  have m1 : (n : Int) * (W : Int) = (N : Int) := by rw [← hN]; exact (Int.natCast_mul n W).symm
  have hmk := made32_ N (by omega)
  have e7 : IntKind.i64.wrap (N : Int) = (N : Int) := by rw [IntKind.wrap_i64]; omega
  clear hN
  generalize hT0 : tabV (fun _ => 0) N = T0 at hmk
  have HT0 := Lib.hid hT0
  clear hT0
  obtain ⟨g, hg⟩ : ∃ g, w5.heap.size = g := ⟨_, rfl⟩
  have HG := Lib.hid hg
  go_upto_region 4 with fail
  try rw [hg]
  clear hg
  have hsz : (w5.alloc (.cells #[.pointer (some ⟨cg, 0, none⟩), .slice none 0 0, .int .i64 (W : Int), .int .i64 (n : Int)] 169)).heap.size = g + 1 := by show (w5.heap.push _).size = _; rw [Array.size_push, HG.out]
  have HSZ := Lib.hid hsz
  have HB0 := Lib.hid (show Blk (w5.alloc (.cells #[.pointer (some ⟨cg, 0, none⟩), .slice none 0 0, .int .i64 (W : Int), .int .i64 (n : Int)] 169)) g 169 _ from Blk.newAt HG.out.symm)
  have HKA := Lib.hid ((Keeps.refl (fun _ => False) w5).alloc (.cells #[.pointer (some ⟨cg, 0, none⟩), .slice none 0 0, .int .i64 (W : Int), .int .i64 (n : Int)] 169))
  generalize w5.alloc (.cells #[.pointer (some ⟨cg, 0, none⟩), .slice none 0 0, .int .i64 (W : Int), .int .i64 (n : Int)] 169) = W0 at *
  have x1 := HB0.out.cell 1
  have x2 := HB0.out.cell 2
  have x3 := HB0.out.cell 3
  have x4 := HB0.out.frozen 1
  have HBX := Lib.hid (show Blk (((W0.setCell ⟨g, 1, none⟩ (.slice (some ⟨g + 1, 0, none⟩) N N)).alloc (.cells T0 21)).drew) g 169 #[.pointer (some ⟨cg, 0, none⟩), .slice (some ⟨g + 1, 0, none⟩) N N, .int .i64 (W : Int), .int .i64 (n : Int)] from ((HB0.out.set_ 1 _).alloc _).drew)
  have HBT := Lib.hid (show Blk (((W0.setCell ⟨g, 1, none⟩ (.slice (some ⟨g + 1, 0, none⟩) N N)).alloc (.cells T0 21)).drew) (g + 1) 21 (tabV (fun _ => 0) N) by
    rw [HT0.out]
    exact (Blk.newAt (by show g + 1 = (W0.setCell _ _).heap.size; rw [show (W0.setCell ⟨g, 1, none⟩ (.slice (some ⟨g + 1, 0, none⟩) N N)).heap.size = W0.heap.size by simp [World.setCell]]; exact HSZ.out.symm)).drew)
  have HKX := Lib.hid (show Pure' w5 (((W0.setCell ⟨g, 1, none⟩ (.slice (some ⟨g + 1, 0, none⟩) N N)).alloc (.cells T0 21)).drew) from
    ((HKA.out.setCell (p := ⟨g, 1, none⟩) (.inr (by have := HG.out; show w5.heap.size ≤ g; omega)) (.slice (some ⟨g + 1, 0, none⟩) N N)).alloc (.cells T0 21)).drew)
  go_region
  generalize ((W0.setCell ⟨g, 1, none⟩ (.slice (some ⟨g + 1, 0, none⟩) N N)).alloc (.cells T0 21)).drew = W1 at *
  clear x1 x2 x3 x4 HB0 HKA hmk HT0 m1 e7
  have x3 := HBX.out.cell 3
  go_wp2
  clear x3
  go_loopg [40] n (fun gh v40 wr => ∃ (s : Nat) (f : Nat → Nat), s + gh = n ∧ v40 = .int .i64 (s : Int) ∧ RowKit.Hid (Blk wr g 169 #[.pointer (some ⟨cg, 0, none⟩), .slice (some ⟨g + 1, 0, none⟩) N N, .int .i64 (W : Int), .int .i64 (n : Int)]) ∧ RowKit.Hid (Blk wr (g + 1) 21 (tabV f N)) ∧ RowKit.Hid (DInv l bs W s f) ∧ RowKit.Hid (Pure' w5 wr))
  case atStart => exact ⟨0, _, by omega, rfl, HBX, HBT, Lib.hid (DInv.start l bs W), HKX⟩
  case round =>
    obtain ⟨s, f, hsg, rfl, HBW, HBF, HDI, HKW⟩ := hrel
    clear HBX HBT HKX
    cases gk with
    | zero =>
      obtain rfl : s = n := by omega
      go_wp2
      go_ret
      refine ⟨g, cg, g + 1, s, W, bs, f, rfl, ⟨by rw [HNN.out]; exact HBW.out, HC2.out.pure HKW.out, by rw [HNN.out]; exact HBF.out, HW.out⟩, fun t q c hq => HDI.out.1 t q c (by rw [HNL.out]; exact (List.getElem?_eq_some_iff.1 hq).1) hq, HNL.out, hfew, by have := HG.out; have := HK2.out.size; omega, HK2.out.trans HKW.out (fun _ _ hf => hf)⟩
    | succ g3 =>
      have hsn : s < n := by omega
      have hsi : (s : Int) < (n : Int) := by omega
      obtain ⟨p, hp⟩ : ∃ p, (statesL l)[s]? = some p := ⟨_, List.getElem?_eq_getElem (by rw [← HNL.out]; exact hsn)⟩
      obtain ⟨bse, hb1, hb2, hb3⟩ := base_ok (bs := bs) (W := W) HST.out hp
      have HP := Lib.hid hp
      have HB2 := Lib.hid hb2
      obtain ⟨fl, hfl⟩ : ∃ fl, lsuf (statesL l) p.tail = fl := ⟨_, rfl⟩
      have hfa := fun (X : World) (hX : Pure' w5 X) => fail_ lg tg b cap fb ob l S F O s p X (HLI.out.pure hX) hp
      rw [hfl] at hfa hb1 hb3
      have HFA := Lib.hid hfa
      have HCP := Lib.hid (HDI.out.copy HW.out (hb1 f HDI.out))
      have HDA := Lib.hid (show DenA wr g cg (g + 1) n W bs f from ⟨by rw [HNN.out]; exact HBW.out, HC2.out.pure HKW.out, by rw [HNN.out]; exact HBF.out, HW.out⟩)
      have HRW := Lib.hid (fun (k : Nat) (hk : k < n) (X : World) (f : Nat → Nat) (hX : DenA X g cg (g + 1) n W bs f) => drow_ g cg (g + 1) n W bs f k X hX hk hfew hWb hW0)
      clear hp hb1 hb2 hfl hfa
      obtain ⟨so, hso⟩ : ∃ a, s * W = a := ⟨_, rfl⟩
      obtain ⟨fo, hfo⟩ : ∃ a, fl * W = a := ⟨_, rfl⟩
      have hsN : so + W ≤ N := by rw [← hso, ← HNN.out]; have := Nat.mul_le_mul_right W hsn; rw [Nat.succ_mul] at this; omega
      have hfN : fo + W ≤ N := by rw [← hfo, ← HNN.out]; have := Nat.mul_le_mul_right W (show fl + 1 ≤ n by omega); rw [Nat.succ_mul] at this; omega
      have HSO := Lib.hid hso
      have HFO := Lib.hid hfo
      rw [hso, hfo] at HCP
      clear hso hfo
      go_wp2_with fail
      refine (HRW.out s hsn _ _ HDA.out).mono ?_
      rintro e w6 ⟨rfl, q6, rfl⟩
      rw [HSO.out]
      go_wp2_with fail
      refine (HFA.out _ (HKW.out.drewN q6)).mono ?_
      rintro e w7 ⟨rfl, rfl⟩
      go_wp2_with fail
      refine (HRW.out fl (by omega) _ _ (HDA.out.pure ((Keeps.refl _ wr).drewN q6))).mono ?_
      rintro e w8 ⟨rfl, q8, rfl⟩
      rw [HFO.out]
      rw [drewN_add]
      have HDW := Lib.hid (show Pure' wr (wr.drewN (q6 + q8)) from (Keeps.refl _ wr).drewN _)
      generalize wr.drewN (q6 + q8) = w9 at *
      have HB9 := Lib.hid (HBW.out.keep HDW.out (fun hf => hf))
      have HF9 := Lib.hid (HBF.out.keep HDW.out (fun hf => hf))
      have HK9 := Lib.hid (HKW.out.trans HDW.out (fun _ _ hf => hf))
      have hsrc : ∀ j v, (segV f fo W)[j]? = some v → w9.cell? ((⟨g + 1, fo, none⟩ : Addr).add j) = some v := fun j v hv => by
        have hj := (List.getElem?_eq_some_iff.1 hv).1
        rw [segV_len] at hj
        rw [segV_at f fo hj] at hv
        cases hv
        rw [Addr.add_mid, HF9.out.cell, tabV_at f (by omega)]
      have HSRC := Lib.hid hsrc
      have HONE := Lib.hid (show ∀ v ∈ segV f fo W, v.oneCell' = true from fun v hv => by
        unfold segV at hv
        obtain ⟨j, _, rfl⟩ := List.mem_map.1 hv
        rfl)
      have HMN := Lib.hid (show (segV f fo W).length = Nat.min W W by rw [segV_len]; exact (Nat.min_self W).symm)
      have HFT := Lib.hid (show so + (segV f fo W).length ≤ (tabV f N).size by rw [segV_len, tabV_size]; exact hsN)
      have HI32 := Lib.hid (show (Tryz.prog.info? 21).map (·.size) = some 1 by kernel_rfl)
      clear hsrc HRW HDA HBW HBF HDW
      go_wp2_with ((with_reducible refine at_op ⟨some 51, _, _, _, _, _⟩ ?_); refine wpList_copy_own rfl (.tmp 45) (.tmp 50) 167 167 rfl 21 Tryz.underlying167 HI32.out (g + 1) so W W ⟨g + 1, fo, none⟩ W W rfl rfl (tabV f N) 21 HF9.out (segV f fo W) HMN.out HSRC.out HFT.out HONE.out ?_)
      -- GEN
      have HSET := Lib.hid (show Blk (w9.setRow (g + 1) (List.take so (tabV f N).toList ++ (segV f fo W ++ List.drop (so + (segV f fo W).length) (tabV f N).toList)).toArray) (g + 1) 21 (tabV (cpy f so fo W) N) by
        rw [segV_len, tabV_cpy f N so fo W hsN]
        exact HF9.out.setRow _)
      have HBXS := Lib.hid (show Blk (w9.setRow (g + 1) (List.take so (tabV f N).toList ++ (segV f fo W ++ List.drop (so + (segV f fo W).length) (tabV f N).toList)).toArray) g 169 _ from HB9.out.setRowOff (show g ≠ g + 1 by omega) _)
      have HKS := Lib.hid (show Pure' w5 (w9.setRow (g + 1) (List.take so (tabV f N).toList ++ (segV f fo W ++ List.drop (so + (segV f fo W).length) (tabV f N).toList)).toArray) from HK9.out.setRow (.inr (by have := HG.out; omega)) _)
      generalize w9.setRow (g + 1) (List.take so (tabV f N).toList ++ (segV f fo W ++ List.drop (so + (segV f fo W).length) (tabV f N).toList)).toArray = wa at *
      clear HSRC HONE HMN HFT HI32 HB9 HF9 HK9
      generalize cpy f so fo W = f1 at *
      refine (HTR.out _ HKS.out).mono ?_
      rintro e wb ⟨rfl, rfl⟩
      go_wp2_with fail
      refine (tbytes_ tg b cap l S s p _ (HLI.out.pure HKS.out).lk.ti HP.out).mono ?_
      rintro e wc ⟨ks, rfl, hk1, hk2, hk3, hkp⟩
      have HK1 := Lib.hid hk1
      have HKSc := Lib.hid (HKS.out.trans hkp (fun _ _ hf => hf))
      have HBXc := Lib.hid (HBXS.out.keep hkp (fun hf => hf))
      have HBTc := Lib.hid (HSET.out.keep hkp (fun hf => hf))
      have hbk : (⟨ks.toArray⟩ : ByteArray).size = ks.length := Lib.size_eq _
      obtain ⟨m, hm⟩ : ∃ m, ks.length = m := ⟨_, rfl⟩
      have HM := Lib.hid hm
      rw [hm] at hk3 hbk
      clear hk1 hk2 hkp hm HSET HBXS
      have HV0 := Lib.hid (show RowOk l bs W s f1 (fun c => if c ∈ ks.take 0 then (statesL l).idxOf (p ++ [c]) else bse c) by
        have := HCP.out
        rwa [show (fun c => if c ∈ ks.take 0 then (statesL l).idxOf (p ++ [c]) else bse c) = bse from by funext c; simp])
      go_wp2
      go_loopg [58] m (fun gh v58 wz => ∃ (i : Nat) (f : Nat → Nat), i + gh = m ∧ v58 = .int .i64 (i : Int) ∧ RowKit.Hid (Blk wz g 169 #[.pointer (some ⟨cg, 0, none⟩), .slice (some ⟨g + 1, 0, none⟩) N N, .int .i64 (W : Int), .int .i64 (n : Int)]) ∧ RowKit.Hid (Blk wz (g + 1) 21 (tabV f N)) ∧ RowKit.Hid (RowOk l bs W s f (fun c => if c ∈ ks.take i then (statesL l).idxOf (p ++ [c]) else bse c)) ∧ RowKit.Hid (Pure' w5 wz))
      case atStart => exact ⟨0, f1, by omega, rfl, HBXc, HBTc, HV0, HKSc⟩
      case round =>
        obtain ⟨i, f2, hig, rfl, HBX, HBT, HRO, HKZ⟩ := hrel
        clear HBXc HBTc HV0 HKSc HKS
        cases gk with
        | zero =>
          obtain rfl : i = m := by omega
          have HDN := Lib.hid (show DInv l bs W (s + 1) f2 from HRO.out.done HP.out (fun c => by
            rw [List.take_of_length_le (by rw [HM.out]; exact Nat.le_refl _)]
            by_cases hc : c ∈ ks
            · rw [if_pos hc]
              exact (lsuf_in HST.out (idx_some ((HK1.out c).1 hc))).symm
            · rw [if_neg hc]
              exact HB2.out c (fun h => hc ((HK1.out c).2 h))))
          go_wp2
          go_roundg g3
          case measure => omega
          case rel => exact ⟨s + 1, f2, by omega, by go_num, HBX, HBT, HDN, HKZ⟩
        | succ g4 =>
          have hii : (i : Int) < (m : Int) := by omega
          obtain ⟨c, hcd, hci, hga⟩ := at_c (show i < ks.length by rw [HM.out]; omega)
          have hcm : p ++ [c] ∈ statesL l := (HK1.out c).1 (List.mem_of_getElem? hci)
          have hcb : c ∈ bs := (HUS.out c).2 (used_of HST.out hcm)
          have HNX := Lib.hid (fun (X : World) (hX : Pure' w5 X) => next_ tg b cap l S s p c X (HLI.out.pure hX).lk.ti HP.out)
          have hput : ∀ tn : Nat, (statesL l)[tn]? = some (p ++ [c]) → RowOk l bs W s (updN f2 (so + cf bs c) tn) (fun d => if d ∈ ks.take (i + 1) then (statesL l).idxOf (p ++ [d]) else bse d) := fun tn htn => by
            have h1 := HRO.out.put (tn := tn) HW.out hcb
            rw [HSO.out] at h1
            rwa [show (fun d => if d ∈ ks.take (i + 1) then (statesL l).idxOf (p ++ [d]) else bse d) = (fun d => if d = c then tn else (fun c => if c ∈ ks.take i then (statesL l).idxOf (p ++ [c]) else bse c) d) from by
              funext d
              rw [List.take_add_one, hci]
              by_cases e : d = c
              · subst e
                rw [if_pos (by simp), if_pos rfl, HST.out.idx htn]
              · rw [if_neg e]
                by_cases h : d ∈ ks.take i
                · rw [if_pos (by simp [h])]; exact (if_pos h).symm
                · rw [if_neg (by simp [h, e])]; exact (if_neg h).symm]
          have HPUT := Lib.hid hput
          have HNM := Lib.hid hcm
          have HOF := Lib.hid (fun (X : World) (hX : Pure' w5 X) => cof_ cg bs c X (HC2.out.pure hX))
          have hcfl := cf_le bs c
          have hcW : cf bs c < W := by have := HW.out; omega
          have HRW := Lib.hid (fun (X : World) (hX : Pure' wr X) => by
            have := drow_ g cg (g + 1) n W bs f2 s X ((show DenA wr g cg (g + 1) n W bs f2 from ⟨by rw [HNN.out]; exact HBX.out, HC2.out.pure HKZ.out, by rw [HNN.out]; exact HBT.out, HW.out⟩).pure hX) hsn hfew hWb hW0
            rw [HSO.out] at this
            exact this)
          clear hcd hci hcm hput hcfl
          generalize hcq : cf bs c = q at *
          have HQ := Lib.hid hcq
          clear hcq
          go_upto_region 13 with fail
          refine wp_region_held_drew (S := (fun X => Pure' wr X)) (by kernel_rfl) ((Keeps.refl _ wr).drew) (fun hHeld => ?_)
          have HH := Lib.hid hHeld
          clear hHeld
          refine wpAnyH_take (i := 0) (oi := ⟨some 62, .move (.tmp 4), _, _, _, _⟩) (v := ?vv1) rfl (by kernel_rfl) (by kernel_rfl) (by kernel_rfl) (fun _ _ _ h => h) (Or.inl ⟨by rfl, ?hy1⟩) HH.out ?rr1
          case hy1 => intro W hSw; go_simp; try with_reducible rfl
          try simp only [Act.put, List.setIfInBounds_toArray, List.set_cons_zero, List.set_cons_succ]
          refine wpAnyH_take (i := 2) (oi := ⟨some 64, .move (.tmp 6), _, _, _, _⟩) (v := ?vv2) rfl (by kernel_rfl) (by kernel_rfl) (by kernel_rfl) (fun _ _ _ h => h) (Or.inl ⟨by rfl, ?hy2⟩) HH.out ?rr2
          case hy2 => intro W hSw; go_simp; try with_reducible rfl
          try simp only [Act.put, List.setIfInBounds_toArray, List.set_cons_zero, List.set_cons_succ]
          refine wpAnyH_take (i := 3) (oi := ⟨some 65, .move (.tmp 7), _, _, _, _⟩) (v := ?vv3) rfl (by kernel_rfl) (by kernel_rfl) (by kernel_rfl) (fun _ _ _ h => h) (Or.inl ⟨by rfl, ?hy3⟩) HH.out ?rr3
          case hy3 => intro W hSw; go_simp; try with_reducible rfl
          try simp only [Act.put, List.setIfInBounds_toArray, List.set_cons_zero, List.set_cons_succ]
          refine wpAnyH_take (i := 4) (oi := ⟨some 66, .move (.tmp 8), _, _, _, _⟩) (v := ?vv4) rfl (by kernel_rfl) (by kernel_rfl) (by kernel_rfl) (fun _ _ _ h => h) (Or.inl ⟨by rfl, ?hy4⟩) HH.out ?rr4
          case hy4 => intro W hSw; go_simp; try with_reducible rfl
          try simp only [Act.put, List.setIfInBounds_toArray, List.set_cons_zero, List.set_cons_succ]
          refine wpAnyH_take (i := 5) (oi := ⟨some 67, .index 9 (.tmp 65) (.tmp 66), _, _, _, _⟩) (v := ?vv5) rfl (by kernel_rfl) (by kernel_rfl) (by kernel_rfl) (fun _ _ _ h => h) (Or.inl ⟨by rfl, ?hy5⟩) HH.out ?rr5
          case hy5 => intro W hSw; go_simp; try with_reducible rfl
          try simp only [Act.put, List.setIfInBounds_toArray, List.set_cons_zero, List.set_cons_succ]
          refine wpAnyH_ready (rs := [1]) (by kernel_rfl) (by simp) ?_
          refine AllReadyH.cons (o := ⟨some 63, .call { callee := .value (.func 99), args := #[.tmp 62], argTypes := #[131] }, _, _, _, _⟩) rfl (fun K hK => ?_) AllReadyH.nil
          go_simp
          go_at_call 99
          refine (HTR.out _ (HKZ.out.trans HH.out (fun _ _ hf => hf))).mono ?_
          rintro e wB ⟨rfl, rfl⟩
          go_wp2_with fail
          refine hK.out _ _ (HH.out) (fun hHeld => ?_)
          have HH := Lib.hid hHeld
          clear hHeld hK K
          try simp only [Act.put, List.setIfInBounds_toArray, List.set_cons_zero, List.set_cons_succ]
          refine wpAnyH_ready (rs := [6]) (by kernel_rfl) (by simp) ?_
          refine AllReadyH.cons (o := ⟨some 68, .call { callee := .value (.func 130), args := #[.tmp 63, .tmp 64, .tmp 67], argTypes := #[139, 3, 5] }, _, _, _, _⟩) rfl (fun K hK => ?_) AllReadyH.nil
          go_simp
          go_at_call 130
          refine (HNX.out _ (HKZ.out.trans HH.out (fun _ _ hf => hf))).mono ?_
          rintro e wB ⟨hcase, hkn⟩
          have HKN0 := Lib.hid (drewn_pure hkn)
          obtain ⟨tn, rfl, htn0⟩ : ∃ tn : Nat, e = .returned (.tuple #[.int .i64 (tn : Int), .bool true]) ∧ (statesL l)[tn]? = some (p ++ [c]) := by
            rcases hcase with ⟨m, e1, e2⟩ | ⟨_, hno⟩
            · exact ⟨m, e1, e2⟩
            · exact absurd HNM.out hno
          have HT := Lib.hid htn0
          clear hcase hkn htn0
          go_wp2_with fail
          refine hK.out _ _ (HH.out.trans HKN0.out (fun _ _ hf => hf)) (fun hHeld => ?_)
          have HH := Lib.hid hHeld
          clear hHeld hK K
          try simp only [Act.put, List.setIfInBounds_toArray, List.set_cons_zero, List.set_cons_succ]
          refine wpAnyH_take (i := 7) (oi := ⟨some 61, .move (.tmp 68), _, _, _, _⟩) (v := ?vv6) rfl (by kernel_rfl) (by kernel_rfl) (by kernel_rfl) (fun _ _ _ h => h) (Or.inl ⟨by rfl, ?hy6⟩) HH.out ?rr6
          case hy6 => intro W hSw; go_simp; try with_reducible rfl
          try simp only [Act.put, List.setIfInBounds_toArray, List.set_cons_zero, List.set_cons_succ]
          refine wpAnyH_take (i := 8) (oi := ⟨some 69, .extract (.tmp 61) 0, _, _, _, _⟩) (v := ?vv7) rfl (by kernel_rfl) (by kernel_rfl) (by kernel_rfl) (fun _ _ _ h => h) (Or.inl ⟨by rfl, ?hy7⟩) HH.out ?rr7
          case hy7 => intro W hSw; go_simp; try with_reducible rfl
          try simp only [Act.put, List.setIfInBounds_toArray, List.set_cons_zero, List.set_cons_succ]
          refine wpAnyH_take (i := 9) (oi := ⟨some 70, .extract (.tmp 61) 1, _, _, _, _⟩) (v := ?vv8) rfl (by kernel_rfl) (by kernel_rfl) (by kernel_rfl) (fun _ _ _ h => h) (Or.inl ⟨by rfl, ?hy8⟩) HH.out ?rr8
          case hy8 => intro W hSw; go_simp; try with_reducible rfl
          try simp only [Act.put, List.setIfInBounds_toArray, List.set_cons_zero, List.set_cons_succ]
          refine wpAnyH_take (i := 10) (oi := ⟨some 9, .assign (.tmp 69), _, _, _, _⟩) (v := ?vv9) rfl (by kernel_rfl) (by kernel_rfl) (by kernel_rfl) (fun _ _ _ h => h) (Or.inl ⟨by rfl, ?hy9⟩) HH.out ?rr9
          case hy9 => intro W hSw; go_simp; try with_reducible rfl
          try simp only [Act.put, List.setIfInBounds_toArray, List.set_cons_zero, List.set_cons_succ]
          refine wpAnyH_take (i := 11) (oi := ⟨some 10, .assign (.tmp 70), _, _, _, _⟩) (v := ?vv10) rfl (by kernel_rfl) (by kernel_rfl) (by kernel_rfl) (fun _ _ _ h => h) (Or.inl ⟨by rfl, ?hy10⟩) HH.out ?rr10
          case hy10 => intro W hSw; go_simp; try with_reducible rfl
          try simp only [Act.put, List.setIfInBounds_toArray, List.set_cons_zero, List.set_cons_succ]
          refine wpAnyH_done (by kernel_rfl) ?_ _
          have HKR := HH
          have HKN := Lib.hid (HKZ.out.trans HH.out (fun _ _ hf => hf))
          have HBX2 := Lib.hid (HBX.out.keep HH.out (fun hf => hf))
          have HBT2 := Lib.hid (HBT.out.keep HH.out (fun hf => hf))
          have htn : tn < n := by rw [HNL.out]; exact (List.getElem?_eq_some_iff.1 HT.out).1
          clear HH
          go_upto_region 14 with fail
          have hqi : (q : Int) < (W : Int) := by omega
          have hsq : so + q < N := by omega
          have HCELL := Lib.hid (fun (X : World) (hX : Pure' wB X) => show X.cell? ⟨g + 1, so + q, none⟩ = some (.int .i32 (f2 (so + q) : Int)) by rw [(HBT2.out.keep hX (fun hf => hf)).cell, tabV_at f2 hsq])
          have HFRZ := Lib.hid (fun (X : World) (hX : Pure' wB X) => (HBT2.out.keep hX (fun hf => hf)).frozen (so + q))
          have hw32 : IntKind.i32.wrap (tn : Int) = (tn : Int) := by rw [IntKind.wrap_i32]; omega
          refine wp_region_held_drew (S := (fun X => Keeps (fun x => x = g + 1) wB X)) (by kernel_rfl) ((Keeps.refl _ wB).drew) (fun hHeld => ?_)
          have HH := Lib.hid hHeld
          clear hHeld
          have HHP := Lib.hid ((Keeps.refl (fun _ => False) wB).drew)
          refine wpAnyH_take (i := 0) (oi := ⟨some 71, .move (.tmp 5), _, _, _, _⟩) (v := ?vv11) rfl (by kernel_rfl) (by kernel_rfl) (by kernel_rfl) (fun _ _ _ h => h) (Or.inl ⟨by rfl, ?hy11⟩) HH.out ?rr11
          case hy11 => intro W hSw; go_simp; try with_reducible rfl
          try simp only [Act.put, List.setIfInBounds_toArray, List.set_cons_zero, List.set_cons_succ]
          refine wpAnyH_take (i := 1) (oi := ⟨some 72, .move (.tmp 6), _, _, _, _⟩) (v := ?vv12) rfl (by kernel_rfl) (by kernel_rfl) (by kernel_rfl) (fun _ _ _ h => h) (Or.inl ⟨by rfl, ?hy12⟩) HH.out ?rr12
          case hy12 => intro W hSw; go_simp; try with_reducible rfl
          try simp only [Act.put, List.setIfInBounds_toArray, List.set_cons_zero, List.set_cons_succ]
          refine wpAnyH_take (i := 3) (oi := ⟨some 74, .move (.tmp 3), _, _, _, _⟩) (v := ?vv13) rfl (by kernel_rfl) (by kernel_rfl) (by kernel_rfl) (fun _ _ _ h => h) (Or.inl ⟨by rfl, ?hy13⟩) HH.out ?rr13
          case hy13 => intro W hSw; go_simp; try with_reducible rfl
          try simp only [Act.put, List.setIfInBounds_toArray, List.set_cons_zero, List.set_cons_succ]
          refine wpAnyH_take (i := 4) (oi := ⟨some 75, .move (.tmp 7), _, _, _, _⟩) (v := ?vv14) rfl (by kernel_rfl) (by kernel_rfl) (by kernel_rfl) (fun _ _ _ h => h) (Or.inl ⟨by rfl, ?hy14⟩) HH.out ?rr14
          case hy14 => intro W hSw; go_simp; try with_reducible rfl
          try simp only [Act.put, List.setIfInBounds_toArray, List.set_cons_zero, List.set_cons_succ]
          refine wpAnyH_take (i := 5) (oi := ⟨some 76, .move (.tmp 8), _, _, _, _⟩) (v := ?vv15) rfl (by kernel_rfl) (by kernel_rfl) (by kernel_rfl) (fun _ _ _ h => h) (Or.inl ⟨by rfl, ?hy15⟩) HH.out ?rr15
          case hy15 => intro W hSw; go_simp; try with_reducible rfl
          try simp only [Act.put, List.setIfInBounds_toArray, List.set_cons_zero, List.set_cons_succ]
          refine wpAnyH_take (i := 6) (oi := ⟨some 77, .index 9 (.tmp 75) (.tmp 76), _, _, _, _⟩) (v := ?vv16) rfl (by kernel_rfl) (by kernel_rfl) (by kernel_rfl) (fun _ _ _ h => h) (Or.inl ⟨by rfl, ?hy16⟩) HH.out ?rr16
          case hy16 => intro W hSw; go_simp; try with_reducible rfl
          try simp only [Act.put, List.setIfInBounds_toArray, List.set_cons_zero, List.set_cons_succ]
          refine wpAnyH_take (i := 8) (oi := ⟨some 79, .move (.tmp 9), _, _, _, _⟩) (v := ?vv17) rfl (by kernel_rfl) (by kernel_rfl) (by kernel_rfl) (fun _ _ _ h => h) (Or.inl ⟨by rfl, ?hy17⟩) HH.out ?rr17
          case hy17 => intro W hSw; go_simp; try with_reducible rfl
          try simp only [Act.put, List.setIfInBounds_toArray, List.set_cons_zero, List.set_cons_succ]
          refine wpAnyH_take (i := 9) (oi := ⟨some 80, .convert 3 21 (.tmp 79), _, _, _, _⟩) (v := ?vv18) rfl (by kernel_rfl) (by kernel_rfl) (by kernel_rfl) (fun _ _ _ h => h) (Or.inl ⟨by rfl, ?hy18⟩) HH.out ?rr18
          case hy18 => intro W hSw; go_simp; try with_reducible rfl
          try simp only [Act.put, List.setIfInBounds_toArray, List.set_cons_zero, List.set_cons_succ]
          refine wpAnyH_ready (rs := [2]) (by kernel_rfl) (by simp) ?_
          refine AllReadyH.cons (o := ⟨some 73, .call { callee := .value (.func 127), args := #[.tmp 71, .tmp 72], argTypes := #[133, 3] }, _, _, _, _⟩) rfl (fun K hK => ?_) AllReadyH.nil
          go_simp
          go_at_call 127
          refine (HRW.out _ (HKR.out.trans HHP.out (fun _ _ hf => hf))).mono ?_
          rintro e wD ⟨rfl, hk2⟩
          have HK2 := Lib.hid (drewn_pure hk2)
          have HHP := Lib.hid (HHP.out.trans HK2.out (fun _ _ hf => hf))
          clear hk2
          go_wp2_with fail
          refine hK.out _ _ (HH.out.trans HK2.out (fun _ _ hf => hf.elim)) (fun hHeld => ?_)
          have HH := Lib.hid hHeld
          clear hHeld hK K
          try simp only [Act.put, List.setIfInBounds_toArray, List.set_cons_zero, List.set_cons_succ]
          refine wpAnyH_ready (rs := [7]) (by kernel_rfl) (by simp) ?_
          refine AllReadyH.cons (o := ⟨some 78, .call { callee := .value (.func 131), args := #[.tmp 74, .tmp 77], argTypes := #[165, 5] }, _, _, _, _⟩) rfl (fun K hK => ?_) AllReadyH.nil
          go_simp
          go_at_call 131
          refine (HOF.out _ (HKN.out.trans HHP.out (fun _ _ hf => hf))).mono ?_
          rintro e wD ⟨rfl, rfl⟩
          go_wp2_with fail
          refine hK.out _ _ (HH.out) (fun hHeld => ?_)
          have HH := Lib.hid hHeld
          clear hHeld hK K
          try simp only [Act.put, List.setIfInBounds_toArray, List.set_cons_zero, List.set_cons_succ]
          refine wpAnyH_take (i := 10) (oi := ⟨some 81, .indexAddr 167 (.tmp 73) (.tmp 78), _, _, _, _⟩) (v := ?vv19) rfl (by kernel_rfl) (by kernel_rfl) (by kernel_rfl) (fun _ _ _ h => h) (Or.inl ⟨by rfl, ?hy19⟩) HH.out ?rr19
          case hy19 => intro W hSw; go_simp; try with_reducible rfl
          try simp only [Act.put, List.setIfInBounds_toArray, List.set_cons_zero, List.set_cons_succ]
          refine wpAnyH_ready (rs := [11]) (by kernel_rfl) (by simp) ?_
          refine AllReadyH.cons (o := ⟨none, .store 21 (.tmp 81) (.tmp 80), _, _, _, _⟩) rfl (fun K hK => ?_) AllReadyH.nil
          go_simp
          have y := HCELL.out _ HHP.out
          have y2 := HFRZ.out _ HHP.out
          go_simp
          refine hK.out _ _ (HH.out.setCell (p := ⟨g + 1, so + q, none⟩) (.inl rfl) _) (fun hHeld => ?_)
          have HH := Lib.hid hHeld
          clear hHeld hK K
          try simp only [Act.put, List.setIfInBounds_toArray, List.set_cons_zero, List.set_cons_succ]
          refine wpAnyH_done (by kernel_rfl) ?_ _
          have HBTd := Lib.hid (show Blk (wD.setCell ⟨g + 1, so + q, none⟩ (.int .i32 (tn : Int))) (g + 1) 21 (tabV (updN f2 (so + q) tn) N) by
            have := (HBT2.out.keep HHP.out (fun hf => hf)).set_ (so + q) (.int .i32 (tn : Int))
            rwa [tabV_set f2 N (so + q) tn hsq] at this)
          have HBXd := Lib.hid (show Blk (wD.setCell ⟨g + 1, so + q, none⟩ (.int .i32 (tn : Int))) g 169 _ from (HBX2.out.keep HHP.out (fun hf => hf)).off (show g ≠ g + 1 by omega))
          have HKd := Lib.hid (show Pure' w5 (wD.setCell ⟨g + 1, so + q, none⟩ (.int .i32 (tn : Int))) from (HKN.out.trans HHP.out (fun _ _ hf => hf)).setCell (p := ⟨g + 1, so + q, none⟩) (.inr (by have := HG.out; show w5.heap.size ≤ g + 1; omega)) _)
          have HROd := Lib.hid (HPUT.out tn HT.out)
          go_wp2
          go_roundg g4
          case measure => omega
          case rel => exact ⟨i + 1, _, by omega, by go_num, HBXd, HBTd, HROd, HKd⟩

end Go.Proofs.YtkbdfnmeomkpjaaGreat
