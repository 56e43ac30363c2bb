/- A pattern's last bytes noted; no condition but the sizes. -/
import Derived.Test.YtkbdfnmeomkpjaaGreatGrdM
import Derived.Test.YtkbdfnmeomkpjaaGreatHeld
import Derived.Lib.EndianBits
import Derived.Deep.RegionLaw
namespace Go.Proofs.YtkbdfnmeomkpjaaGreat
open Go.RowKit
set_option linter.unusedVariables false
set_option linter.unusedSimpArgs false
set_option maxRecDepth 100000

/-- Two bytes, one behind the other, the second one at a distance. -/
def prN (y : List UInt8) (d : Nat) : Nat := 256 * (y.reverse.getD (d + 1) 0).toNat + (y.reverse.getD d 0).toNat
def NoteR (y : List UInt8) (m i : Nat) (R R' : List GR) : Prop := ∀ (d : Nat) r r', R[d]? = some r → R'[d]? = some r' → ∀ c : UInt8, grHas r' c.toNat = (grHas r c.toNat || decide (m ≤ d + i ∧ y.reverse[d]? = some c))
def NoteT (y : List UInt8) (m i : Nat) (T T' : Nat → List Nat) : Prop := ∀ d, d < m - 1 → T' d = if m ≤ d + i then T d ++ [prN y d] else T d
theorem rev_at {y : List UInt8} {m i : Nat} (hm : m ≤ y.length) (hi : i < m) : y.reverse[m - 1 - i]? = (y.drop (y.length - m))[i]? := by
  rw [List.getElem?_reverse (by omega), List.getElem?_drop]
  congr 1
  omega
theorem NoteR.start (y : List UInt8) (m : Nat) (R : List GR) (hR : R.length = m) : NoteR y m 0 R R := by
  intro d r r' h h' c
  rw [h] at h'
  cases h'
  have := (List.getElem?_eq_some_iff.1 h).1
  rw [decide_eq_false (by omega), Bool.or_false]
theorem NoteR.step {y : List UInt8} {m i d : Nat} {R R' : List GR} {r : GR} {c : UInt8} (h : NoteR y m i R R') (hl : R'.length = m) (hd : d + i + 1 = m) (hr : R'[d]? = some r) (hc : y.reverse[d]? = some c) : NoteR y m (i + 1) R (R'.set d (grSet r c.toNat)) := by
  intro k q q' hq hq' e
  rw [List.getElem?_set] at hq'
  have hcl := c.toNat_lt
  have hel := e.toNat_lt
  by_cases hk : d = k
  · subst hk
    rw [if_pos rfl, if_pos (List.getElem?_eq_some_iff.1 hr).1] at hq'
    cases hq'
    rw [grSet_has r (by omega) (by omega), h d q r hq hr e, hc]
    rw [show decide (m ≤ d + i ∧ some c = some e) = false from decide_eq_false (by omega), Bool.or_false, Bool.or_comm]
    congr 1
    by_cases hce : c = e
    · subst hce; rw [decide_eq_true rfl, decide_eq_true ⟨by omega, rfl⟩]
    · rw [decide_eq_false (fun h => hce (UInt8.toNat_inj.1 h)), decide_eq_false (by rintro ⟨_, h⟩; injection h with h; exact hce h)]
  · rw [if_neg hk] at hq'
    rw [h k q q' hq hq' e]
    congr 1
    have hk' := (List.getElem?_eq_some_iff.1 hq').1
    rw [decide_eq_decide]
    constructor
    · rintro ⟨a, b⟩; exact ⟨by omega, b⟩
    · rintro ⟨a, b⟩; exact ⟨by omega, b⟩
theorem NoteT.start (y : List UInt8) (m : Nat) (T : Nat → List Nat) : NoteT y m 0 T T := fun d hd => by rw [if_neg (by omega)]
theorem NoteT.first {y : List UInt8} {m : Nat} {T T' : Nat → List Nat} (h : NoteT y m 0 T T') : NoteT y m 1 T T' := fun d hd => by rw [h d hd, if_neg (by omega), if_neg (by omega)]
theorem NoteT.step {y : List UInt8} {m i d : Nat} {T T' : Nat → List Nat} (h : NoteT y m i T T') (hi : 0 < i) (hd : d + i + 1 = m) : NoteT y m (i + 1) T (fupd T' d (T' d ++ [prN y d])) := by
  intro k hk
  by_cases e : k = d
  · subst e
    rw [fupd_same, h k hk, if_neg (by omega), if_pos (by omega)]
  · rw [fupd_other _ _ e, h k hk]
    by_cases h1 : m ≤ k + i
    · rw [if_pos h1, if_pos (by omega)]
    · rw [if_neg h1, if_neg (by omega)]
theorem u16Info : (Tryz.prog.info? 90).map (fun i => (i.zero, i.size, i.bytes)) = some (some (.int .u16 0), 1, 2) := by kernel_rfl

theorem or_bit {u k : Nat} (hu : u < 18446744073709551616) (hk : k < 64) : bits BinOp.or IntKind.u64 (u : Int) (IntKind.u64.wrap (2 ^ k)) = ((u ||| 2 ^ k : Nat) : Int) := by
  have h2 : (2 : Nat) ^ k < 2 ^ 64 := Nat.pow_lt_pow_right (by decide) hk
  have e : IntKind.u64.wrap (2 ^ k) = ((2 ^ k : Nat) : Int) := by
    rw [show ((2 : Int) ^ k) = ((2 ^ k : Nat) : Int) by push_cast; rfl]
    exact wraps_u64 _ (Int.natCast_nonneg _) (by exact_mod_cast h2)
  rw [e]
  exact (bits_nat .u64 64 (by decide) wraps_u64 u (2 ^ k) (by simpa using hu) h2).2

/-- What notes leaves. -/
def NotesPost (n0 g b1 b2 mb m n : Nat) (x : Option Addr) (y : List UInt8) (R : List GR) (A : Nat → Value) (T : Nat → List Nat) (L : Nat → Value) (G : Nat → List Nat) (w : World) (e : Ending) (w' : World) : Prop :=
  e = .returned (.tuple #[]) ∧ ∃ R' A' T', GdB w' n0 g b1 b2 mb m n x R' A' T' L G ∧ NoteR y m m R R' ∧ NoteT y m m T T' ∧ Keeps (fun k => n0 ≤ k) w w'
set_option maxHeartbeats 4000000 in
theorem notes_ (n0 g b1 b2 mb m n : Nat) (x : Option Addr) (y : List UInt8) (R : List GR) (A : Nat → Value) (T : Nat → List Nat) (L : Nat → Value) (G : Nat → List Nat) (w : World)
    (h : GdB w n0 g b1 b2 mb m n x R A T L G) (hw : n0 ≤ w.heap.size) (hm : m ≤ y.length) (hm1 : 1 ≤ m) (hy : y.length ≤ 1000) (hT : ∀ d, d < m - 1 → (T d).length ≤ 1000) :
    Calls Tryz.prog 57 #[.pointer (some ⟨g, 0, none⟩), .string ⟨y.toArray⟩, .int .i64 (m : Int)] w fun e w' => NotesPost n0 g b1 b2 mb m n x y R A T L G w e w' := by
  obtain ⟨i0, hi, hz0, hz1, hz2⟩ := info_parts u16Info
  have H := Lib.hid h
  have HTL := Lib.hid hT
  have HRL := Lib.hid h.rl
  have hbs : (⟨y.toArray⟩ : ByteArray).size = y.length := Lib.size_eq _
  obtain ⟨yn, hyn⟩ : ∃ q, y.length = q := ⟨_, rfl⟩
  have HYN := Lib.hid hyn
  rw [hyn] at hbs hm hy
  have hex := extract_end ⟨y.toArray⟩ (yn - m)
  rw [hbs] at hex
  obtain ⟨E, hE⟩ : ∃ E, y.drop (yn - m) = E := ⟨_, rfl⟩
  have hEl : E.length = m := by rw [← hE, List.length_drop]; omega
  have HE := Lib.hid (show ∀ i, i < m → y.reverse[m - 1 - i]? = E[i]? from fun i hi => by rw [← hE, ← hyn]; exact rev_at (by omega) hi)
  have HEL := Lib.hid hEl
  have hbe : (⟨E.toArray⟩ : ByteArray).size = m := by rw [Lib.size_eq]; exact hEl
  rw [show (⟨y.toArray⟩ : ByteArray).data.toList = y by simp, hE] at hex
  clear hyn hE h hT hEl
  go_enter Tryz.func57, Tryz.ntmps57
  go_wp2_with fail
  go_loopg [7, 8, 16] m (fun gh v7 v8 v16 wr => ∃ (i : Nat) (R' : List GR) (A' : Nat → Value) (T' : Nat → List Nat), i + gh = m ∧ v16 = .int .i64 (i : Int) ∧ RowKit.Hid (GdB wr n0 g b1 b2 mb m n x R' A' T' L G) ∧ RowKit.Hid (NoteR y m i R R') ∧ RowKit.Hid (NoteT y m i T T') ∧ RowKit.Hid (Keeps (fun k => n0 ≤ k) w wr))
  case atStart => exact ⟨0, R, A, T, by omega, rfl, H, Lib.hid (NoteR.start y m R HRL.out), Lib.hid (NoteT.start y m T), Lib.hid (Keeps.refl _ _)⟩
  case round =>
    obtain ⟨i, R', A', T', hig, rfl, HB, HNR, HNT, HK⟩ := hrel
    clear H
    cases gk with
    | zero =>
      obtain rfl : i = m := by omega
      go_wp2_with fail
      go_end0
      exact ⟨rfl, R', A', T', HB.out, HNR.out, HNT.out, HK.out⟩
    | succ g3 =>
      have hii : (i : Int) < (m : Int) := by omega
      obtain ⟨d, hd⟩ : ∃ d, d + i + 1 = m := ⟨m - 1 - i, by omega⟩
      have hdi : (m : Int) - 1 - (i : Int) = (d : Int) := by omega
      obtain ⟨c, _, hci, hga⟩ := at_c (show i < E.length by rw [HEL.out]; omega)
      have HC := Lib.hid (show y.reverse[d]? = some c by rw [← hci, ← HE.out i (by omega)]; congr 1; omega)
      have hcl := c.toNat_lt
      obtain ⟨r, hr⟩ : ∃ r, R'[d]? = some r := ⟨_, List.getElem?_eq_getElem (by rw [HB.out.rl]; omega)⟩
      have HR := Lib.hid hr
      have x1 := HB.out.box.cell 1
      have hq := (HB.out.ones.rowsAt d r hr (c.toNat / 64) (by omega)).trans (rowC_at r.1 r.2.1 r.2.2.1 r.2.2.2 c.toNat (by omega))
      have hu := grW_lt (HB.out.ok r (List.mem_of_getElem? hr)) c.toNat
      have hq2 : wr.cell? ⟨b1, d * 4 + c.toNat / 64, none⟩ = some (.int .u64 ((grW r c.toNat : Nat) : Int)) := hq
      have hqf : wr.frozen? ⟨b1, d * 4 + c.toNat / 64, none⟩ = false := HB.out.ones.free
      obtain ⟨u, hu2⟩ : ∃ u, grW r c.toNat = u := ⟨_, rfl⟩
      have HU := Lib.hid hu2
      rw [hu2] at hu hq2
      clear hq hci hr hu2
      have hcl2 : (c.toNat : Int) < 256 := by omega
      have hdm : (d : Int) < (m : Int) := by omega
      go_wp2_with fail
      have HB5 := Lib.hid (show GdB ((wr.setCell ⟨b1, d * 4 + c.toNat / 64, none⟩ (.int .u64 (bits BinOp.or IntKind.u64 (u : Int) (IntKind.u64.wrap (2 ^ (c.toNat % 64)))))).drew) n0 g b1 b2 mb m n x (R'.set d (grSet r c.toNat)) A' T' L G by
        rw [or_bit hu (Nat.mod_lt _ (by decide)), ← HU.out]
        exact (HB.out.one HR.out (by omega)).pure (Keeps.refl _ _).drew)
      have HN5 := Lib.hid (HNR.out.step (by rw [HB.out.rl]) hd HR.out HC.out)
      have HK5 := Lib.hid (show Keeps (fun k => n0 ≤ k) w ((wr.setCell ⟨b1, d * 4 + c.toNat / 64, none⟩ (.int .u64 (bits BinOp.or IntKind.u64 (u : Int) (IntKind.u64.wrap (2 ^ (c.toNat % 64)))))).drew) from
        (HK.out.setCell (p := ⟨b1, d * 4 + c.toNat / 64, none⟩) (.inl HB.out.news.2.1) _).drew)
      by_cases h0 : i = 0
      · subst h0
        have h00 : ¬ (0 : Int) < ((0 : Nat) : Int) := by omega
        go_region
        generalize (wr.setCell ⟨b1, d * 4 + c.toNat / 64, none⟩ (.int .u64 (bits BinOp.or IntKind.u64 (u : Int) (IntKind.u64.wrap (2 ^ (c.toNat % 64)))))).drew = w5 at *
        clear x1 hq2 hqf hga
        have HT5 := Lib.hid HNT.out.first
        go_wp2_with fail
        go_roundg g3
        case measure => omega
        case rel => exact ⟨1, _, _, _, by omega, by go_num, HB5, HN5, HT5, HK5⟩
      · obtain ⟨j, hj⟩ : ∃ j, j + 1 = i := ⟨i - 1, by omega⟩
        have h00 : (0 : Int) < (i : Int) := by omega
        have hji : (i : Int) - 1 = (j : Int) := by omega
        have hjm : (j : Int) < (m : Int) := by omega
        have hdm1 : d < m - 1 := by omega
        have hdm2 : (d : Int) < ((m - 1 : Nat) : Int) := by omega
        go_region
        generalize (wr.setCell ⟨b1, d * 4 + c.toNat / 64, none⟩ (.int .u64 (bits BinOp.or IntKind.u64 (u : Int) (IntKind.u64.wrap (2 ^ (c.toNat % 64)))))).drew = w5 at *
        clear x1 hq2 hqf
        obtain ⟨e, _, hej, hge⟩ := at_c (show j < E.length by rw [HEL.out]; omega)
        have hel := e.toNat_lt
        have HEC := Lib.hid (show prN y d = 256 * e.toNat + c.toNat by
          unfold prN
          rw [List.getD_eq_getElem?_getD, List.getD_eq_getElem?_getD, HC.out, show y.reverse[d + 1]? = some e by rw [← hej, ← HE.out j (by omega)]; congr 1; omega]
          rfl)
        obtain ⟨pv, hpv⟩ : ∃ pv, 256 * e.toNat + c.toNat = pv := ⟨_, rfl⟩
        have hgw : bits BinOp.or IntKind.u16 ((e.toNat : Int) * 256) (c.toNat : Int) = (pv : Int) := by
          rw [bits_join .u16 16 (by decide) wraps_u16 8 ((e.toNat : Int) * 256) (c.toNat : Int) (by omega) (by omega) (by omega) (by omega) (by omega) (by omega)]
          omega
        rw [hpv] at HEC
        have hown := HB5.out.famT.own d hdm1
        obtain ⟨ta, cp, hta, _⟩ := hown.form
        have htl : (T' d).length ≤ 1000 := by rw [HNT.out d hdm1, if_neg (by omega)]; exact HTL.out d hdm1
        obtain ⟨tl, htl2⟩ : ∃ tl, T' d = tl := ⟨_, rfl⟩
        have HTLE := Lib.hid htl2
        rw [htl2] at htl
        simp only [htl2] at hown hta
        obtain ⟨tn, htn⟩ : ∃ tn, tl.length = tn := ⟨_, rfl⟩
        have HTN := Lib.hid htn
        rw [u16Vs_len, htn] at hown hta
        rw [htn] at htl
        have HTA := Lib.hid hta
        rw [hta] at hown
        have HOW := Lib.hid hown
        have x2 := HB5.out.box.cell 2
        have x3 : w5.cell? ⟨b2, d, none⟩ = some (.slice ta tn cp) := by rw [← hta]; exact HB5.out.twos.cell (map_at A' hdm1)
        have x2A : (w5.alloc (.cells #[.int .u16 (pv : Int)] 90)).drew.cell? ⟨g, 2, none⟩ = some (.slice (some ⟨b2, 0, none⟩) (m - 1) (m - 1)) := (HB5.out.box.alloc _).drew.cell 2
        have x3A : (w5.alloc (.cells #[.int .u16 (pv : Int)] 90)).drew.cell? ⟨b2, d, none⟩ = some (.slice ta tn cp) := by
          rw [← hta]; exact (HB5.out.twos.alloc _).drew.cell (map_at A' hdm1)
        clear hta hej hown htl2 htn hpv
        have HAF := Lib.hid (fun (W : World) (v' : Value) (hr : Row W 90 1 v' (tn + 1) (u16Vs tl ++ [.int .u16 (pv : Int)])) (hg : (w5.drew.alloc (.cells #[.int .u16 (pv : Int)] 90)).grownBy W (Value.slice ta tn cp).ownBlock) (hv : v'.ownBlock = (Value.slice ta tn cp).ownBlock ∨ ∃ b, v'.ownBlock = some b ∧ w5.heap.size ≤ b) =>
          (show GdB (W.setCell ⟨b2, d, none⟩ v') n0 g b1 b2 mb m n x (R'.set d (grSet r c.toNat)) (fupd A' d v') (fupd T' d (T' d ++ [prN y d])) L G by
            rw [← HTA.out] at hg hv
            have hF := Fam.app (W := w5.drew) (HB5.out.famT.pure (Keeps.refl _ w5).drew) hdm1 (by have : w.heap.size ≤ w5.drew.heap.size := HK5.out.size; omega) (o := .cells #[.int .u16 (pv : Int)] 90) (W' := W) (v' := v') (x := .int .u16 (pv : Int)) hg (by rw [HTLE.out, u16Vs_len, HTN.out]; exact hr) hv
            refine HB5.out.two hdm1 (((Keeps.refl _ w5).drew.alloc _).grown hg (fun k e => .inl e)) ?_
            rw [u16_fupd, HEC.out]
            exact hF))
        have HFF := Lib.hid (fun (W : World) (hg : (w5.drew.alloc (.cells #[.int .u16 (pv : Int)] 90)).grownBy W (Value.slice ta tn cp).ownBlock) =>
          (show W.cell? ⟨g, 2, none⟩ = some (.slice (some ⟨b2, 0, none⟩) (m - 1) (m - 1)) ∧ W.cell? ⟨b2, d, none⟩ = some (.slice ta tn cp) ∧ W.frozen? ⟨b2, d, none⟩ = false by
            have hk : Keeps (fun k => (Value.slice ta tn cp).ownBlock = some k) w5 W := ((Keeps.refl _ w5).drew.alloc _).grown hg (fun k e => .inl e)
            have ho := HB5.out.famT.own d hdm1
            rw [HTA.out] at ho
            have htw := HB5.out.twos.keep hk (fun b e e2 => HB5.out.twos.sameBlk ho (by decide) b e e2)
            exact ⟨(HB5.out.box.keep hk (fun e => ho.blk_ne HB5.out.box (by decide) e)).cell 2, by rw [← HTA.out]; exact htw.cell (map_at A' hdm1), htw.free⟩))
        have HKF := Lib.hid (fun (W : World) (v' : Value) (hg : (w5.drew.alloc (.cells #[.int .u16 (pv : Int)] 90)).grownBy W (Value.slice ta tn cp).ownBlock) =>
          (show Keeps (fun k => n0 ≤ k) w (W.setCell ⟨b2, d, none⟩ v') from
            ((HK5.out.drew.alloc _).grown hg (fun k e => .inl (HB5.out.famT.new d hdm1 k (by rw [HTA.out]; exact e)))).setCell (p := ⟨b2, d, none⟩) (.inl HB5.out.news.2.2.1) v'))
        have HNEW := Lib.hid (show ∀ k, (Value.slice ta tn cp).ownBlock = some k → n0 ≤ k from fun k e => HB5.out.famT.new d hdm1 k (by rw [HTA.out]; exact e))
        have HTS := Lib.hid (HNT.out.step (by omega) hd)
        go_wp2_with fail
        have hw1 : IntKind.u16.wrap (e.toNat : Int) = (e.toNat : Int) := wraps_u16 _ (by omega) (by omega)
        have hw2 : IntKind.u16.wrap ((e.toNat : Int) * 256) = (e.toNat : Int) * 256 := wraps_u16 _ (by omega) (by omega)
        have hw3 : IntKind.u16.wrap (c.toNat : Int) = (c.toNat : Int) := wraps_u16 _ (by omega) (by omega)
        have hwj : IntKind.i64.wrap (j : Int) = (j : Int) := by rw [IntKind.wrap_i64]; omega
        have HX := Lib.hid (show ∀ W, Keeps (fun k => (Value.slice ta tn cp).ownBlock = some k ∨ k = b2) w5 W → W.cell? ⟨g, 2, none⟩ = some (.slice (some ⟨b2, 0, none⟩) (m - 1) (m - 1)) from fun W hk =>
          (HB5.out.box.keep hk (fun e => by
            rcases e with e | e
            · have ho := HB5.out.famT.own d hdm1
              rw [HTA.out] at ho
              exact ho.blk_ne HB5.out.box (by decide) e
            · exact HB5.out.b2g e.symm)).cell 2)
        -- R7
        refine wp_region_held_drew (S := (fun W => Keeps (fun k => (Value.slice ta tn cp).ownBlock = some k ∨ k = b2) w5 W)) (by kernel_rfl) ((Keeps.refl _ w5).drew) (fun hHeld => ?_)
        have HH := Lib.hid hHeld
        clear hHeld
        refine wpAnyH_take (i := 0) (oi := ⟨some 45, .move (.tmp 0), _, _, _, _⟩) (v := ?vv1) rfl (by kernel_rfl) (by kernel_rfl) (by kernel_rfl) (fun _ _ _ h => h) (Or.inl ⟨by rfl, ?hy1⟩) HH.out ?rr1
        case hy1 => intro W hSw; go_simp; try with_reducible rfl
        try simp only [Act.put, List.setIfInBounds_toArray, List.set_cons_zero, List.set_cons_succ]
        refine wpAnyH_take (i := 1) (oi := ⟨some 46, .nilCheck (.tmp 45), _, _, _, _⟩) (v := ?vv2) rfl (by kernel_rfl) (by kernel_rfl) (by kernel_rfl) (fun _ _ _ h => h) (Or.inl ⟨by rfl, ?hy2⟩) HH.out ?rr2
        case hy2 => intro W hSw; go_simp; try with_reducible rfl
        try simp only [Act.put, List.setIfInBounds_toArray, List.set_cons_zero, List.set_cons_succ]
        refine wpAnyH_take (i := 2) (oi := ⟨some 47, .fieldAddr 84 (.tmp 46) 2, _, _, _, _⟩) (v := ?vv3) rfl (by kernel_rfl) (by kernel_rfl) (by kernel_rfl) (fun _ _ _ h => h) (Or.inl ⟨by rfl, ?hy3⟩) HH.out ?rr3
        case hy3 => intro W hSw; go_simp; try with_reducible rfl
        try simp only [Act.put, List.setIfInBounds_toArray, List.set_cons_zero, List.set_cons_succ]
        refine wpAnyH_take (i := 3) (oi := ⟨some 48, .load 81 (.tmp 47), _, _, _, _⟩) (v := ?vv4) rfl (by kernel_rfl) (by kernel_rfl) (by kernel_rfl) (fun _ _ _ h => h) (Or.inl ⟨by rfl, ?hy4⟩) HH.out ?rr4
        case hy4 => intro W hSw; have y := HX.out W hSw; go_simp; try with_reducible rfl
        try simp only [Act.put, List.setIfInBounds_toArray, List.set_cons_zero, List.set_cons_succ]
        refine wpAnyH_take (i := 4) (oi := ⟨some 49, .move (.tmp 8), _, _, _, _⟩) (v := ?vv5) rfl (by kernel_rfl) (by kernel_rfl) (by kernel_rfl) (fun _ _ _ h => h) (Or.inl ⟨by rfl, ?hy5⟩) HH.out ?rr5
        case hy5 => intro W hSw; go_simp; try with_reducible rfl
        try simp only [Act.put, List.setIfInBounds_toArray, List.set_cons_zero, List.set_cons_succ]
        refine wpAnyH_take (i := 5) (oi := ⟨some 50, .move (.tmp 0), _, _, _, _⟩) (v := ?vv6) rfl (by kernel_rfl) (by kernel_rfl) (by kernel_rfl) (fun _ _ _ h => h) (Or.inl ⟨by rfl, ?hy6⟩) HH.out ?rr6
        case hy6 => intro W hSw; go_simp; try with_reducible rfl
        try simp only [Act.put, List.setIfInBounds_toArray, List.set_cons_zero, List.set_cons_succ]
        refine wpAnyH_take (i := 6) (oi := ⟨some 51, .nilCheck (.tmp 50), _, _, _, _⟩) (v := ?vv7) rfl (by kernel_rfl) (by kernel_rfl) (by kernel_rfl) (fun _ _ _ h => h) (Or.inl ⟨by rfl, ?hy7⟩) HH.out ?rr7
        case hy7 => intro W hSw; go_simp; try with_reducible rfl
        try simp only [Act.put, List.setIfInBounds_toArray, List.set_cons_zero, List.set_cons_succ]
        refine wpAnyH_take (i := 7) (oi := ⟨some 52, .fieldAddr 84 (.tmp 51) 2, _, _, _, _⟩) (v := ?vv8) rfl (by kernel_rfl) (by kernel_rfl) (by kernel_rfl) (fun _ _ _ h => h) (Or.inl ⟨by rfl, ?hy8⟩) HH.out ?rr8
        case hy8 => intro W hSw; go_simp; try with_reducible rfl
        try simp only [Act.put, List.setIfInBounds_toArray, List.set_cons_zero, List.set_cons_succ]
        refine wpAnyH_take (i := 8) (oi := ⟨some 53, .load 81 (.tmp 52), _, _, _, _⟩) (v := ?vv9) rfl (by kernel_rfl) (by kernel_rfl) (by kernel_rfl) (fun _ _ _ h => h) (Or.inl ⟨by rfl, ?hy9⟩) HH.out ?rr9
        case hy9 => intro W hSw; have y := HX.out W hSw; go_simp; try with_reducible rfl
        try simp only [Act.put, List.setIfInBounds_toArray, List.set_cons_zero, List.set_cons_succ]
        refine wpAnyH_take (i := 9) (oi := ⟨some 54, .move (.tmp 8), _, _, _, _⟩) (v := ?vv10) rfl (by kernel_rfl) (by kernel_rfl) (by kernel_rfl) (fun _ _ _ h => h) (Or.inl ⟨by rfl, ?hy10⟩) HH.out ?rr10
        case hy10 => intro W hSw; go_simp; try with_reducible rfl
        try simp only [Act.put, List.setIfInBounds_toArray, List.set_cons_zero, List.set_cons_succ]
        refine wpAnyH_take (i := 10) (oi := ⟨some 55, .indexAddr 81 (.tmp 53) (.tmp 54), _, _, _, _⟩) (v := ?vv11) rfl (by kernel_rfl) (by kernel_rfl) (by kernel_rfl) (fun _ _ _ h => h) (Or.inl ⟨by rfl, ?hy11⟩) HH.out ?rr11
        case hy11 => intro W hSw; go_simp; try with_reducible rfl
        try simp only [Act.put, List.setIfInBounds_toArray, List.set_cons_zero, List.set_cons_succ]
        refine wpAnyH_take (i := 12) (oi := ⟨some 57, .move (.tmp 6), _, _, _, _⟩) (v := ?vv12) rfl (by kernel_rfl) (by kernel_rfl) (by kernel_rfl) (fun _ _ _ h => h) (Or.inl ⟨by rfl, ?hy12⟩) HH.out ?rr12
        case hy12 => intro W hSw; go_simp; try with_reducible rfl
        try simp only [Act.put, List.setIfInBounds_toArray, List.set_cons_zero, List.set_cons_succ]
        refine wpAnyH_take (i := 13) (oi := ⟨some 58, .move (.tmp 7), _, _, _, _⟩) (v := ?vv13) rfl (by kernel_rfl) (by kernel_rfl) (by kernel_rfl) (fun _ _ _ h => h) (Or.inl ⟨by rfl, ?hy13⟩) HH.out ?rr13
        case hy13 => intro W hSw; go_simp; try with_reducible rfl
        try simp only [Act.put, List.setIfInBounds_toArray, List.set_cons_zero, List.set_cons_succ]
        refine wpAnyH_take (i := 14) (oi := ⟨some 59, .binOp .sub 3 (.tmp 58) (.const (.int .i64 1)) 3, _, _, _, _⟩) (v := ?vv14) rfl (by kernel_rfl) (by kernel_rfl) (by kernel_rfl) (fun _ _ _ h => h) (Or.inl ⟨by rfl, ?hy14⟩) HH.out ?rr14
        case hy14 => intro W hSw; go_simp; try with_reducible rfl
        try simp only [Act.put, List.setIfInBounds_toArray, List.set_cons_zero, List.set_cons_succ]
        refine wpAnyH_take (i := 15) (oi := ⟨some 60, .index 9 (.tmp 57) (.tmp 59), _, _, _, _⟩) (v := ?vv15) rfl (by kernel_rfl) (by kernel_rfl) (by kernel_rfl) (fun _ _ _ h => h) (Or.inl ⟨by rfl, ?hy15⟩) HH.out ?rr15
        case hy15 => intro W hSw; go_simp; try with_reducible rfl
        try simp only [Act.put, List.setIfInBounds_toArray, List.set_cons_zero, List.set_cons_succ]
        refine wpAnyH_take (i := 16) (oi := ⟨some 61, .convert 5 90 (.tmp 60), _, _, _, _⟩) (v := ?vv16) rfl (by kernel_rfl) (by kernel_rfl) (by kernel_rfl) (fun _ _ _ h => h) (Or.inl ⟨by rfl, ?hy16⟩) HH.out ?rr16
        case hy16 => intro W hSw; go_simp; try with_reducible rfl
        try simp only [Act.put, List.setIfInBounds_toArray, List.set_cons_zero, List.set_cons_succ]
        refine wpAnyH_take (i := 17) (oi := ⟨some 62, .binOp .shl 90 (.tmp 61) (.const (.int .u64 8)) 125, _, _, _, _⟩) (v := ?vv17) rfl (by kernel_rfl) (by kernel_rfl) (by kernel_rfl) (fun _ _ _ h => h) (Or.inl ⟨by rfl, ?hy17⟩) HH.out ?rr17
        case hy17 => intro W hSw; go_simp; try with_reducible rfl
        try simp only [Act.put, List.setIfInBounds_toArray, List.set_cons_zero, List.set_cons_succ]
        refine wpAnyH_take (i := 18) (oi := ⟨some 63, .move (.tmp 6), _, _, _, _⟩) (v := ?vv18) rfl (by kernel_rfl) (by kernel_rfl) (by kernel_rfl) (fun _ _ _ h => h) (Or.inl ⟨by rfl, ?hy18⟩) HH.out ?rr18
        case hy18 => intro W hSw; go_simp; try with_reducible rfl
        try simp only [Act.put, List.setIfInBounds_toArray, List.set_cons_zero, List.set_cons_succ]
        refine wpAnyH_take (i := 19) (oi := ⟨some 64, .move (.tmp 7), _, _, _, _⟩) (v := ?vv19) rfl (by kernel_rfl) (by kernel_rfl) (by kernel_rfl) (fun _ _ _ h => h) (Or.inl ⟨by rfl, ?hy19⟩) HH.out ?rr19
        case hy19 => intro W hSw; go_simp; try with_reducible rfl
        try simp only [Act.put, List.setIfInBounds_toArray, List.set_cons_zero, List.set_cons_succ]
        refine wpAnyH_take (i := 20) (oi := ⟨some 65, .index 9 (.tmp 63) (.tmp 64), _, _, _, _⟩) (v := ?vv20) rfl (by kernel_rfl) (by kernel_rfl) (by kernel_rfl) (fun _ _ _ h => h) (Or.inl ⟨by rfl, ?hy20⟩) HH.out ?rr20
        case hy20 => intro W hSw; go_simp; try with_reducible rfl
        try simp only [Act.put, List.setIfInBounds_toArray, List.set_cons_zero, List.set_cons_succ]
        refine wpAnyH_take (i := 21) (oi := ⟨some 66, .convert 5 90 (.tmp 65), _, _, _, _⟩) (v := ?vv21) rfl (by kernel_rfl) (by kernel_rfl) (by kernel_rfl) (fun _ _ _ h => h) (Or.inl ⟨by rfl, ?hy21⟩) HH.out ?rr21
        case hy21 => intro W hSw; go_simp; try with_reducible rfl
        try simp only [Act.put, List.setIfInBounds_toArray, List.set_cons_zero, List.set_cons_succ]
        refine wpAnyH_take (i := 22) (oi := ⟨some 67, .binOp .or 90 (.tmp 62) (.tmp 66) 90, _, _, _, _⟩) (v := ?vv22) rfl (by kernel_rfl) (by kernel_rfl) (by kernel_rfl) (fun _ _ _ h => h) (Or.inl ⟨by rfl, ?hy22⟩) HH.out ?rr22
        case hy22 => intro W hSw; go_simp; try with_reducible rfl
        try simp only [Act.put, List.setIfInBounds_toArray, List.set_cons_zero, List.set_cons_succ]
        have y5 : w5.drew.cell? ⟨b2, d, none⟩ = some (.slice ta tn cp) := x3
        refine wpAnyH_ready (rs := [11, 23]) (by kernel_rfl) (by simp) ?_
        refine AllReadyH.cons (o := ⟨some 56, .load 89 (.tmp 55), _, _, _, _⟩) rfl (fun K hK => ?_) (AllReadyH.cons (o := ⟨some 68, .buildSlice 89 1 #[(0, .tmp 67)], _, _, _, _⟩) rfl (fun K hK => ?_) AllReadyH.nil)
        · go_simp
          refine hK.out _ _ HH.out (fun hHeld => ?_)
          clear hHeld hK K
          try simp only [Act.put, List.setIfInBounds_toArray, List.set_cons_zero, List.set_cons_succ]
          refine wpAnyH_ready (rs := [23]) (by kernel_rfl) (by simp) ?_
          refine AllReadyH.cons (o := ⟨some 68, .buildSlice 89 1 #[(0, .tmp 67)], _, _, _, _⟩) rfl (fun K hK => ?_) AllReadyH.nil
          go_simp
          refine hK.out _ _ (HH.out.alloc _) (fun hHeld => ?_)
          have HH := Lib.hid hHeld
          clear hHeld hK K
          try simp only [Act.put, List.setIfInBounds_toArray, List.set_cons_zero, List.set_cons_succ]
          refine wpAnyH_ready (rs := [24]) (by kernel_rfl) (by simp) ?_
          refine AllReadyH.cons (o := ⟨some 69, .call { callee := .builtin .append, args := #[.tmp 56, .tmp 68], argTypes := #[89, 89] }, _, _, _, _⟩) rfl (fun K hK => ?_) AllReadyH.nil
          refine step_append_lies _ rfl (.tmp 56) (.tmp 68) 89 rfl 0 90 i0 (.int .u16 0) 1 2 Tryz.underlying89 hi hz0 hz1 hz2 rfl (by decide) (.slice ta tn cp) tn (u16Vs tl) rfl (Row.alloc HOW.out.drew _) ⟨w5.heap.size, 0, none⟩ 1 1 [.int .u16 (pv : Int)] rfl rfl (news1 (w := w5.drew)) (fun u hu => by simp at hu; subst hu; rfl) (by decide) (by unfold maxLen; omega) (by omega) (Nat.zero_le _) (w5.heap.size + 1) (by simp) ?_
          intro g6 cap6 w6 hr6 hg6 hw6 hl6
          have HG6 := Lib.hid hg6
          obtain ⟨f61, f62, f63⟩ := HFF.out w6 hg6
          have HZ6 := Lib.hid (HAF.out w6 (.slice (some ⟨g6, 0, none⟩) (tn + 1) cap6) hr6 hg6 (by
            rcases hw6 with q | q
            · left; rw [q]; rfl
            · right; exact ⟨g6, rfl, by omega⟩))
          have HK6 := Lib.hid (HKF.out w6 (.slice (some ⟨g6, 0, none⟩) (tn + 1) cap6) hg6)
          clear hr6 hg6 hw6
          refine hK.out _ _ ((HH.out).grown HG6.out (fun b hb => .inl (.inl hb))) (fun hHeld => ?_)
          have HH := Lib.hid hHeld
          clear hHeld hK K
          try simp only [Act.put, List.setIfInBounds_toArray, List.set_cons_zero, List.set_cons_succ]
          refine wpAnyH_take (i := 25) (oi := ⟨some 70, .indexAddr 81 (.tmp 48) (.tmp 49), _, _, _, _⟩) (v := ?vv23) rfl (by kernel_rfl) (by kernel_rfl) (by kernel_rfl) (fun _ _ _ h => h) (Or.inl ⟨by rfl, ?hy23⟩) HH.out ?rr23
          case hy23 => intro W hSw; go_simp; try with_reducible rfl
          try simp only [Act.put, List.setIfInBounds_toArray, List.set_cons_zero, List.set_cons_succ]
          refine wpAnyH_ready (rs := [26]) (by kernel_rfl) (by simp) ?_
          refine AllReadyH.cons (o := ⟨none, .store 89 (.tmp 70) (.tmp 69), _, _, _, _⟩) rfl (fun K hK => ?_) AllReadyH.nil
          go_simp
          refine hK.out _ _ (HH.out.setCell (p := ⟨b2, d, none⟩) (.inl (.inr rfl)) _) (fun hHeld => ?_)
          have HH := Lib.hid hHeld
          clear hHeld hK K
          try simp only [Act.put, List.setIfInBounds_toArray, List.set_cons_zero, List.set_cons_succ]
          refine wpAnyH_done (by kernel_rfl) ?_ _
          go_wp2_with fail
          go_roundg g3
          case measure => omega
          case rel => exact ⟨i + 1, _, _, _, by omega, by go_num, HZ6, HN5, HTS, HK6⟩
        · go_simp
          refine hK.out _ _ (HH.out.alloc _) (fun hHeld => ?_)
          have HH := Lib.hid hHeld
          clear hHeld hK K
          try simp only [Act.put, List.setIfInBounds_toArray, List.set_cons_zero, List.set_cons_succ]
          have y6 : (w5.alloc (.cells #[.int .u16 (pv : Int)] 90)).drew.cell? ⟨b2, d, none⟩ = some (.slice ta tn cp) := x3A
          refine wpAnyH_ready (rs := [11]) (by kernel_rfl) (by simp) ?_
          refine AllReadyH.cons (o := ⟨some 56, .load 89 (.tmp 55), _, _, _, _⟩) rfl (fun K hK => ?_) AllReadyH.nil
          go_simp
          refine hK.out _ _ (HH.out) (fun hHeld => ?_)
          have HH := Lib.hid hHeld
          clear hHeld hK K
          try simp only [Act.put, List.setIfInBounds_toArray, List.set_cons_zero, List.set_cons_succ]
          refine wpAnyH_ready (rs := [24]) (by kernel_rfl) (by simp) ?_
          refine AllReadyH.cons (o := ⟨some 69, .call { callee := .builtin .append, args := #[.tmp 56, .tmp 68], argTypes := #[89, 89] }, _, _, _, _⟩) rfl (fun K hK => ?_) AllReadyH.nil
          refine step_append_lies _ rfl (.tmp 56) (.tmp 68) 89 rfl 0 90 i0 (.int .u16 0) 1 2 Tryz.underlying89 hi hz0 hz1 hz2 rfl (by decide) (.slice ta tn cp) tn (u16Vs tl) rfl (Row.alloc HOW.out.drew _) ⟨w5.heap.size, 0, none⟩ 1 1 [.int .u16 (pv : Int)] rfl rfl (news1 (w := w5.drew)) (fun u hu => by simp at hu; subst hu; rfl) (by decide) (by unfold maxLen; omega) (by omega) (Nat.zero_le _) (w5.heap.size + 1) (by simp) ?_
          intro g6 cap6 w6 hr6 hg6 hw6 hl6
          have HG6 := Lib.hid hg6
          obtain ⟨f61, f62, f63⟩ := HFF.out w6 hg6
          have HZ6 := Lib.hid (HAF.out w6 (.slice (some ⟨g6, 0, none⟩) (tn + 1) cap6) hr6 hg6 (by
            rcases hw6 with q | q
            · left; rw [q]; rfl
            · right; exact ⟨g6, rfl, by omega⟩))
          have HK6 := Lib.hid (HKF.out w6 (.slice (some ⟨g6, 0, none⟩) (tn + 1) cap6) hg6)
          clear hr6 hg6 hw6
          refine hK.out _ _ ((HH.out).grown HG6.out (fun b hb => .inl (.inl hb))) (fun hHeld => ?_)
          have HH := Lib.hid hHeld
          clear hHeld hK K
          try simp only [Act.put, List.setIfInBounds_toArray, List.set_cons_zero, List.set_cons_succ]
          refine wpAnyH_take (i := 25) (oi := ⟨some 70, .indexAddr 81 (.tmp 48) (.tmp 49), _, _, _, _⟩) (v := ?vv24) rfl (by kernel_rfl) (by kernel_rfl) (by kernel_rfl) (fun _ _ _ h => h) (Or.inl ⟨by rfl, ?hy24⟩) HH.out ?rr24
          case hy24 => intro W hSw; go_simp; try with_reducible rfl
          try simp only [Act.put, List.setIfInBounds_toArray, List.set_cons_zero, List.set_cons_succ]
          refine wpAnyH_ready (rs := [26]) (by kernel_rfl) (by simp) ?_
          refine AllReadyH.cons (o := ⟨none, .store 89 (.tmp 70) (.tmp 69), _, _, _, _⟩) rfl (fun K hK => ?_) AllReadyH.nil
          go_simp
          refine hK.out _ _ (HH.out.setCell (p := ⟨b2, d, none⟩) (.inl (.inr rfl)) _) (fun hHeld => ?_)
          have HH := Lib.hid hHeld
          clear hHeld hK K
          try simp only [Act.put, List.setIfInBounds_toArray, List.set_cons_zero, List.set_cons_succ]
          refine wpAnyH_done (by kernel_rfl) ?_ _
          go_wp2_with fail
          go_roundg g3
          case measure => omega
          case rel => exact ⟨i + 1, _, _, _, by omega, by go_num, HZ6, HN5, HTS, HK6⟩
        -- R7END
end Go.Proofs.YtkbdfnmeomkpjaaGreat
