/- A set of patterns out of texts, by the program; no condition but the sizes. -/
import Derived.Test.YtkbdfnmeomkpjaaGreatPatB
namespace Go.Proofs.YtkbdfnmeomkpjaaGreat
open Go.RowKit
set_option linter.unusedVariables false
set_option linter.unusedSimpArgs false
set_option maxRecDepth 100000
attribute [local go_sem] gmax2 gmin2 gmax_two gmin_two

/-- May the texts be a set's? -/
def OkL (l : List ByteArray) : Prop := l ≠ [] ∧ (∀ s ∈ l, s.size ≠ 0) ∧ l.Nodup
def maxL (l : List ByteArray) : Nat := l.foldl (fun a s => max a s.size) 0
def minL : List ByteArray → Nat
  | [] => 0
  | s :: l => l.foldl (fun a s => min a s.size) s.size
def sumL (l : List ByteArray) : Nat := l.foldl (fun a s => a + s.size) 0

/-- A set of patterns, as the program keeps it: these texts, in order; or none. -/
def SetP (w : World) (x : Option Addr) (lp : List ByteArray) : Prop :=
  (x = none ∧ lp = []) ∨ ∃ (g : Nat) (A : Option Addr) (c : Nat) (t : Int), x = some ⟨g, 0, none⟩ ∧ lp ≠ [] ∧ Blk w g 77 #[.slice A lp.length c, .int .i64 (minL lp), .int .i64 (maxL lp), .int .i64 t] ∧ Sees w w.heap.size 1 A lp.length (lp.map Value.string)
theorem SetP.pure {w w' : World} {x : Option Addr} {lp : List ByteArray} (h : SetP w x lp) (hk : Pure' w w') : SetP w' x lp := by
  rcases h with h | ⟨g, A, c, t, hx, hne, hb, hs⟩
  · exact .inl h
  · exact .inr ⟨g, A, c, t, hx, hne, hb.keep hk (fun hf => hf), (hs.pure hk (Nat.le_refl _)).more hk.size⟩
/-- What comes of texts: a set, or none. -/
def NewPost (l : List ByteArray) (w : World) (e : Ending) (w' : World) : Prop :=
  ∃ (x : Option Addr) (er : Int) (lp : List ByteArray), e = .returned (.tuple #[.pointer x, .int .i64 er]) ∧ ((OkL l ∧ er = 0 ∧ lp.Perm l ∧ InOrd lp) ∨ (¬ OkL l ∧ lp = [] ∧ er ≠ 0)) ∧ SetP w' x lp ∧ Pure' w w'
theorem maxL_perm {l l' : List ByteArray} (h : l.Perm l') : maxL l = maxL l' := h.foldl_eq' (fun x _ y _ z => by show max (max z x.size) y.size = max (max z y.size) x.size; omega) 0
theorem minL_perm {l l' : List ByteArray} (h : l.Perm l') : minL l = minL l' := by
  induction h with
  | nil => rfl
  | cons x h _ => exact h.foldl_eq' (fun x _ y _ z => by show min (min z x.size) y.size = min (min z y.size) x.size; omega) _
  | swap x y l => simp [minL, Nat.min_comm]
  | trans _ _ h1 h2 => exact h1.trans h2
def minJ (s0 : ByteArray) (l : List ByteArray) : Nat := l.foldl (fun a s => min a s.size) s0.size
theorem minJ_snoc (s0 : ByteArray) (l : List ByteArray) (s : ByteArray) : minJ s0 (l ++ [s]) = min (minJ s0 l) s.size := by simp [minJ]
theorem minJ_all {s0 : ByteArray} {l : List ByteArray} (h : l[0]? = some s0) : minJ s0 l = minL l := by
  cases l with
  | nil => cases h
  | cons a r => simp at h; subst h; simp [minJ, minL]
theorem max_snoc (l : List ByteArray) (s : ByteArray) : maxL (l ++ [s]) = max (maxL l) s.size := by simp [maxL]
theorem sum_snoc (l : List ByteArray) (s : ByteArray) : sumL (l ++ [s]) = sumL l + s.size := by simp [sumL]
theorem min_snoc {l : List ByteArray} (s : ByteArray) (h : l ≠ []) : minL (l ++ [s]) = min (minL l) s.size := by
  cases l with
  | nil => exact absurd rfl h
  | cons a l => simp [minL]
theorem sum_le {l : List ByteArray} (h : ∀ s ∈ l, s.size ≤ 20) : sumL l ≤ 20 * l.length := by
  have : ∀ (l : List ByteArray) (a : Nat), (∀ s ∈ l, s.size ≤ 20) → l.foldl (fun a s => a + s.size) a ≤ a + 20 * l.length := by
    intro l
    induction l with
    | nil => intro a _; simp
    | cons s l ih =>
      intro a h
      have h1 := ih (a + s.size) fun t ht => h t (by simp [ht])
      have h2 := h s (by simp)
      simp only [List.foldl_cons, List.length_cons]; omega
  have := this l 0 h
  unfold sumL; omega

set_option maxHeartbeats 2000000 in
theorem new_ (A : Option Addr) (m c B : Nat) (l : List ByteArray) (w : World) (h : Sees w B 1 A m (l.map Value.string)) (hB : B ≤ w.heap.size) (hm : m ≤ 12) (hl : ∀ s ∈ l, s.size ≤ 20) :
    Calls Tryz.prog 13 #[.slice A m c] w fun e w' => NewPost l w e w' := by
  have hll : l.length = m := by have := h.1; simpa using this
  have HS := Lib.hid h
  have HN := Lib.hid hll
  have HL := Lib.hid hl
  have HCK := Lib.hid check_
  clear h hll hl
  by_cases h0 : m = 0
  · subst h0
    have HE : Hid (l = []) := Lib.hid (List.eq_nil_of_length_eq_zero HN.out)
    go_enter Tryz.func13, Tryz.ntmps13
    go_wp2
    go_ret2
    exact ⟨none, 14, [], rfl, .inr ⟨fun hk => hk.1 HE.out, rfl, by decide⟩, .inl ⟨rfl, rfl⟩, Keeps.refl _ _⟩
  have h0' : ((m : Int) == 0) = false := by rw [beq_eq_false_iff_ne]; omega
  have h0n : 0 < m := by omega
  clear h0
  go_enter Tryz.func13, Tryz.ntmps13
  go_wp2
  go_loopw [20] (fun v20 wr => ∃ k : Nat, k ≤ m ∧ v20 = .int .i64 k ∧ (∀ s ∈ l.take k, s.size ≠ 0) ∧ wr = w) (fun v20 _ => m - (intOf v20).toNat)
  case atStart => exact ⟨0, Nat.zero_le _, rfl, by simp, rfl⟩
  case round =>
    obtain ⟨k, hk, rfl, hne, rfl⟩ := hrel
    have HNE := Lib.hid hne
    clear hne
    by_cases hlt : k < m
    · obtain ⟨ad, s, rfl, hs, hc⟩ := text_at HS.out hlt
      have hs20 := HL.out s (List.mem_of_getElem? hs)
      have HSN := Lib.hid (take_snoc hs)
      have HMEM := Lib.hid (List.mem_of_getElem? hs)
      clear hs
      by_cases hz : s.size = 0
      · have HC2 := Lib.hid (fun w => by have := check_ s w (by omega); rwa [if_pos hz] at this)
        have HZ := Lib.hid hz
        clear hz
        go_wp2_with (go_at_call 49; refine (HC2.out _).mono ?_; rintro e w1 ⟨rfl, rfl⟩)
        go_ret2
        exact ⟨none, 7, [], rfl, .inr ⟨fun hk => hk.2.1 s HMEM.out HZ.out, rfl, by decide⟩, .inl ⟨rfl, rfl⟩, Keeps.refl _ _⟩
      · have HC2 := Lib.hid (fun w => by have := check_ s w (by omega); rwa [if_neg hz] at this)
        have HZ := Lib.hid hz
        clear hz
        go_wp2_with (go_at_call 49; refine (HC2.out _).mono ?_; rintro e w1 ⟨rfl, rfl⟩)
        go_roundw
        case rel =>
          refine ⟨k + 1, by omega, by go_num, fun t ht => ?_, trivial⟩
          rw [HSN.out] at ht
          rcases List.mem_append.1 ht with ht | ht
          · exact HNE.out t ht
          · rw [List.mem_singleton.1 ht]; exact HZ.out
        case measure => simp [intOf] <;> omega
    · obtain rfl : k = m := by omega
      have HNE2 : Hid (∀ s ∈ l, s.size ≠ 0) := Lib.hid (by have := HNE.out; rwa [List.take_of_length_le (by rw [HN.out]; exact Nat.le_refl _)] at this)
      clear HNE
      obtain ⟨ad, s0, rfl, hs0, hc0⟩ := text_at HS.out h0n
      have h020 := HL.out s0 (List.mem_of_getElem? hs0)
      have hc0' : wr.cell? ad = some (.string s0) := by simpa [Addr.add] using hc0
      have hb0 := Blk.new wr 77 #[.slice none 0 0, .int .i64 s0.size, .int .i64 0, .int .i64 0]
      have HB0 := Lib.hid hb0
      have HP0 := Lib.hid ((Keeps.refl (fun _ => False) wr).alloc (.cells #[.slice none 0 0, .int .i64 s0.size, .int .i64 0, .int .i64 0] 77))
      have HTW := Lib.hid (fun w1 (hp : Pure' wr w1) => twice_ (some ad) k c B l w1 (HS.out.pure hp hB) (Nat.le_trans hB hp.size) (by omega) (fun s hs => by have := HL.out s hs; unfold maxLen; omega))
      have HSO := Lib.hid (fun w1 (hp : Pure' wr w1) => sorted_ (some ad) k c B l w1 (HS.out.pure hp hB) h0n hm (fun s hs => by have := HL.out s hs; omega))
      have HS0 := Lib.hid hs0
      have HSX := Lib.hid (fun wx (hp : Pure' wr wx) => HS.out.pure hp hB)
      clear hb0 hs0 hc0 hB
      go_wp2
      generalize hg : wr.heap.size = g at *
      go_loopw [38] (fun v38 wx => ∃ j : Nat, j ≤ k ∧ v38 = .int .i64 j ∧ minJ s0 (l.take j) ≤ 20 ∧ maxL (l.take j) ≤ 20 ∧ sumL (l.take j) ≤ 20 * j ∧ Blk wx g 77 #[.slice none 0 0, .int .i64 (minJ s0 (l.take j) : Nat), .int .i64 (maxL (l.take j) : Nat), .int .i64 (sumL (l.take j) : Nat)] ∧ Pure' wr wx) (fun v38 _ => k - (intOf v38).toNat)
      case atStart => exact ⟨0, Nat.zero_le _, rfl, by simpa [minJ] using h020, by simp [maxL], by simp [sumL], HB0.out, HP0.out⟩
      case round =>
        obtain ⟨j, hj, rfl, hmi, hma, hsu, hB1, hp1⟩ := hrel
        by_cases hjk : j < k
        · obtain ⟨ad2, s, had, hs, hc2⟩ := text_at (HSX.out _ hp1) hjk
          obtain rfl : ad = ad2 := by injection had
          have hs20 := HL.out s (List.mem_of_getElem? hs)
          have HE1 := Lib.hid (show minJ s0 (l.take (j + 1)) = min (minJ s0 (l.take j)) s.size by rw [take_snoc hs]; exact minJ_snoc _ _ _)
          have HE2 := Lib.hid (show maxL (l.take (j + 1)) = max (maxL (l.take j)) s.size by rw [take_snoc hs]; exact max_snoc _ _)
          have HE3 := Lib.hid (show sumL (l.take (j + 1)) = sumL (l.take j) + s.size by rw [take_snoc hs]; exact sum_snoc _ _)
          generalize minJ s0 (l.take j) = x1 at *
          generalize maxL (l.take j) = x2 at *
          generalize sumL (l.take j) = x3 at *
          have hB2 := hB1.set_ 3 (.int .i64 ((x3 : Int) + s.size))
          have hB3 := hB2.set_ 1 (.int .i64 (min (x1 : Int) s.size))
          have hB4 := hB3.set_ 2 (.int .i64 (max (x2 : Int) s.size))
          have k3 := hB1.cell 3
          have f3 := hB1.frozen 3
          have k1 := hB2.cell 1
          have f1 := hB2.frozen 1
          have k2 := hB3.cell 2
          have f2 := hB3.frozen 2
          have HB4 := Lib.hid hB4
          have HP4 := Lib.hid (((hp1.setCell (p := ⟨g, 3, none⟩) (.inr (Nat.le_of_eq hg)) (.int .i64 ((x3 : Int) + s.size))).setCell (p := ⟨g, 1, none⟩) (.inr (Nat.le_of_eq hg)) (.int .i64 (min (x1 : Int) s.size))).setCell (p := ⟨g, 2, none⟩) (.inr (Nat.le_of_eq hg)) (.int .i64 (max (x2 : Int) s.size)))
          clear hB1 hB2 hB3 hB4 hp1 hs had
          go_wp2
          go_roundw
          case rel =>
            refine ⟨j + 1, by omega, by go_num, by rw [HE1.out]; omega, by rw [HE2.out]; omega, by rw [HE3.out]; omega, ?_, HP4.out⟩
            rw [HE1.out, HE2.out, HE3.out]
            refine HB4.out.to ?_
            simp
            constructor <;> omega
          case measure => simp [intOf] <;> omega
        · obtain rfl : j = k := by omega
          have hlk : l.take j = l := List.take_of_length_le (by rw [HN.out]; exact Nat.le_refl _)
          rw [hlk, minJ_all HS0.out] at hB1
          rw [hlk] at hsu
          generalize hx1 : minL l = x1 at *
          generalize hx2 : maxL l = x2 at *
          generalize sumL l = x3 at *
          have k3 := hB1.cell 3
          have HB1 := Lib.hid hB1
          have HP1 := Lib.hid hp1
          clear hB1 hp1 hlk
          go_wp2_with fail
          refine (HTW.out _ HP1.out).mono ?_
          rintro e w1 ⟨t, rfl, ht, hk1⟩
          have HP2 := Lib.hid (HP1.out.then_ hk1)
          have HB2 := Lib.hid (HB1.out.keep hk1 fun hf => hf)
          clear hk1
          rcases ht with ⟨rfl, hnd⟩ | ⟨ht0, hnd⟩
          · have HND := Lib.hid hnd
            clear hnd
            go_wp2_with (go_at_call 51; refine (HSO.out _ HP2.out).mono ?_; rintro e w2 ⟨⟨A2, c2, lp, rfl, hpm, hio, hsp, hfr⟩, hk2⟩; have HPM := Lib.hid hpm; have HIO := Lib.hid hio; have HSP := Lib.hid hsp; have HFR := Lib.hid hfr; clear hpm hio hsp hfr; have HP3 := Lib.hid (HP2.out.then_ hk2); have HB3 := Lib.hid (HB2.out.keep hk2 fun hf => hf); have k0 := HB3.out.cell 0; have f0 := HB3.out.frozen 0; clear hk2)
            go_ret2
            have hll : lp.length = j := by rw [HPM.out.length_eq, HN.out]
            refine ⟨some ⟨g, 0, none⟩, 0, lp, rfl, .inl ⟨⟨fun e => ?_, HNE2.out, HND.out⟩, rfl, HPM.out, HIO.out⟩, .inr ⟨g, A2, c2, x3, rfl, fun e => ?_, ?_, ?_⟩, HP3.out.setCell (p := ⟨g, 0, none⟩) (.inr (Nat.le_of_eq hg)) _⟩
            · have := HN.out; rw [e] at this; simp at this; omega
            · rw [e] at hll; simp at hll; omega
            · have := HB3.out.set_ 0 (.slice A2 j c2)
              rw [hll, minL_perm HPM.out, maxL_perm HPM.out, hx1, hx2]
              exact this.to (by simp)
            · rw [hll]
              have h1 := HSP.out.off (p := ⟨g, 0, none⟩) (fun ad e => by
                have h2 := HFR.out ad e
                have h3 := HB2.out.lt
                show ad.block ≠ g
                omega) (.slice A2 j c2)
              exact h1.more (by simp)
          · have HND := Lib.hid hnd
            clear hnd
            go_wp2
            go_ret2
            exact ⟨none, 8, [], rfl, .inr ⟨fun hk => HND.out hk.2.2, rfl, by decide⟩, .inl ⟨rfl, rfl⟩, HP2.out⟩
end Go.Proofs.YtkbdfnmeomkpjaaGreat
