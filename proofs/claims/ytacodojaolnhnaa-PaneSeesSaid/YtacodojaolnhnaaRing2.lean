import Derived.Test.YtacodojaolnhnaaRing
namespace Go.Proofs.Ytacodojaolnhnaa
open Go.RowKit
set_option linter.unusedVariables false
set_option linter.unusedSimpArgs false
set_option maxRecDepth 100000
attribute [local go_sem] gmax2 gmin2 gmax_two gmin_two

theorem Ring.lens {w : World} {g : Nat} {s : List UInt8} {size : Nat} {S : Nat → Prop} (h : Ring w g s size S) : Calls Try.prog 21 #[.pointer (some ⟨g, 0, none⟩)] w fun e w' => e = .returned (.int .i64 (min s.length size : Nat)) ∧ w = w' := by
  obtain ⟨v, bs, hb, ho, hp, hz, hg, hv⟩ := h
  obtain ⟨a, cp, rfl, hcp⟩ := ho.form
  rw [← hp.len]
  exact len_blk g a bs.length cp _ _ _ w hb

theorem Ring.seens {w : World} {g : Nat} {s : List UInt8} {size : Nat} {S : Nat → Prop} (h : Ring w g s size S) : Calls Try.prog 22 #[.pointer (some ⟨g, 0, none⟩)] w fun e w' => e = .returned (.int .i64 s.length) ∧ w = w' := by
  obtain ⟨v, bs, hb, ho, hp, hz, hg, hv⟩ := h
  exact seen_blk g _ _ _ _ w hb

/-- The last n bytes that are kept. -/
def tailN (s : List UInt8) (size m : Nat) : List UInt8 := s.drop (s.length - m)

theorem u8at (s : List UInt8) (m i : Nat) (hm : m ≤ s.length) (hi : i < m) : ∃ u, s[s.length - 1 - (m - 1 - i)]? = some u ∧ (s.drop (s.length - m))[i]? = some u := by
  have h : s.length - m + i < s.length := by omega
  refine ⟨s[s.length - m + i], ?_, ?_⟩
  · rw [show s.length - 1 - (m - 1 - i) = s.length - m + i from by omega, List.getElem?_eq_getElem h]
  · rw [List.getElem?_drop, List.getElem?_eq_getElem h]

/-- The row of Tail behind k rounds. -/
def tailRow (l : List UInt8) (m k : Nat) : List Value := (l.take k).map byteV ++ List.replicate (m - k) (.int .u8 0)
theorem tailRow_set {l : List UInt8} {m k : Nat} {u : UInt8} (hl : l.length = m) (hu : l[k]? = some u) : (tailRow l m k).set k (byteV u) = tailRow l m (k + 1) := by
  obtain ⟨hk, rfl⟩ := List.getElem?_eq_some_iff.1 hu
  unfold tailRow
  rw [List.set_append_right _ _ (by simp; omega), show k - ((l.take k).map byteV).length = 0 from by simp; omega]
  obtain ⟨q, hq⟩ : ∃ q, m - k = q + 1 := ⟨m - k - 1, by omega⟩
  rw [hq, List.replicate_succ, List.set_cons_zero, show m - (k + 1) = q from by omega, List.take_succ_eq_append_getElem hk, List.map_append, List.append_assoc]
  rfl
theorem tailRow_zero (l : List UInt8) (m : Nat) : tailRow l m 0 = List.replicate m (.int .u8 0) := by simp [tailRow]
theorem tailRow_end {l : List UInt8} {m : Nat} (hl : l.length = m) : tailRow l m m = l.map byteV := by simp [tailRow, List.take_of_length_le (Nat.le_of_eq hl)]

def TailInv (w0 wr : World) (g b : Nat) (s : List UInt8) (size : Nat) (S : Nat → Prop) (m k : Nat) : Prop :=
  Ring wr g s size S ∧ Row wr 5 1 (.slice (some ⟨b, 0, none⟩) m m) m (tailRow (s.drop (s.length - m)) m k) ∧ Pure' w0 wr ∧ w0.heap.size ≤ b

set_option maxHeartbeats 1000000 in
theorem tail_ring (g : Nat) (s : List UInt8) (size : Nat) (S : Nat → Prop) (n : Int) (w : World) (h : Ring w g s size S) (hS : ∀ b, S b → b < w.heap.size) (m : Nat) (hm : (m : Int) = min (max n 0) (min s.length size : Nat)) :
    Calls Try.prog 20 #[.pointer (some ⟨g, 0, none⟩), .int .i64 n] w fun e w' => e = .returned (.string ⟨(s.drop (s.length - m)).toArray⟩) ∧ Pure' w w' := by
  have hz : size ≤ 65536 := by obtain ⟨_, _, _, _, _, h, _⟩ := h; exact h
  have HC := Lib.hid (Ring.lens h)
  have HR := Lib.hid h
  have HM := Lib.hid hm
  have hm1 : m ≤ 65536 := by omega
  have hm2 : m ≤ s.length := by omega
  have hm3 : m ≤ min s.length size := by omega
  obtain ⟨i0, hi, hz0, hz1, hz2⟩ := info_parts u8info
  clear h hm
  go_enter Try.func20, Try.ntmps20
  go_wp2_with (first | (go_at_call 21; refine (HC.out).mono ?_; rintro e w' ⟨rfl, rfl⟩) | (at_make; refine wpl_make _ rfl (.tmp 12) (.tmp 12) 69 rfl 5 i0 (.int .u8 0) Try.underlying69 hi hz0 hz1 rfl .i64 .i64 _ _ m rfl rfl ?hl ?hc ?b2 ?b3 ?k))
  case hl => exact HM.out.symm
  case hc => exact HM.out.symm
  case b2 => rw [hz2]; omega
  case b3 => unfold maxLen; omega
  case k =>
    intro w1 ho hg hlt
    have HI : TailInv w w1 g w.heap.size s size S m 0 := ⟨HR.out.keep (Keeps.grown (S := fun _ => False) (Keeps.refl _ _) hg (fun k hk => by cases hk)) (fun _ _ h => h), by rw [tailRow_zero]; exact ho, (Keeps.refl _ _).grown hg (fun k hk => by cases hk), Nat.le_refl _⟩
    have HJ := Lib.hid HI
    clear HI ho hg
    generalize hb : w.heap.size = b at *
    go_wp2
    go_loopw [16] (fun v wr => ∃ k : Nat, k ≤ m ∧ v = .int .i64 k ∧ TailInv w wr g b s size S m k) (fun v _ => m - (intOf v).toNat)
    case atStart => exact ⟨0, Nat.zero_le _, rfl, HJ.out⟩
    case round =>
      obtain ⟨k, hk, rfl, hI⟩ := hrel
      have HI := Lib.hid hI
      clear hI
      by_cases hlt : k < m
      · go_wp2_with fail
        obtain ⟨hR, hO, hK, hb2⟩ := HI.out
        obtain ⟨u, hu, hu2⟩ := u8at s m k hm2 hlt
        rw [show min (max n 0) ((min s.length size : Nat) : Int) - 1 - (k : Int) = ((m - 1 - k : Nat) : Int) from by have := HM.out; omega]
        refine (at_ring g s size S (m - 1 - k) wr hR (by omega) u hu).mono ?_
        rintro e w' ⟨rfl, rfl⟩
        obtain ⟨y, _, hc⟩ := hO.at_ (i := k) (by omega)
        have hf := hO.free (i := k)
        have HU := Lib.hid hu2
        have hbS : ∀ x, S x → x ≠ b := fun x hx e => by have := hS x hx; omega
        have HS := Lib.hid hbS
        have HR2 := Lib.hid hR
        have HO2 := Lib.hid hO
        have HK2 := Lib.hid hK
        clear hu hu2 hR hO hK HI hbS
        go_wp2
        go_roundw
        case rel =>
          refine ⟨k + 1, by omega, by go_num, HR2.out.keep (Keeps.one _ _ _ _) HS.out, ?_, HK2.out.setCell (.inr (by assumption)) _, by assumption⟩
          rw [← tailRow_set (by simp; omega) HU.out]
          exact HO2.out.set_ _
        case measure => simp [intOf]; omega
      · obtain rfl : k = m := by omega
        obtain ⟨hR, hO, hK, hb2⟩ := HI.out
        rw [tailRow_end (by simp; omega)] at hO
        have hcv := conv_row (dst := 9) Try.underlying69 Try.underlying5 Try.underlying9 hO
        have HK2 := Lib.hid hK
        clear hR hO hK HI
        go_wp2
        go_ret
        exact ⟨rfl, HK2.out⟩

/-- Do the kept bytes end with t? -/
def endsP (s : List UInt8) (size : Nat) (t : List UInt8) : Bool := decide (t.length ≤ min s.length size) && (s.drop (s.length - t.length) == t)

/-- The last k bytes of t are those of s, all kept. -/
def EndsTo (s : List UInt8) (size : Nat) (t : List UInt8) (k : Nat) : Prop := k ≤ min s.length size ∧ ∀ d, d < k → s[s.length - 1 - d]? = t[t.length - 1 - d]?

theorem ends_true {s t : List UInt8} {size : Nat} (h : EndsTo s size t t.length) : endsP s size t = true := by
  unfold endsP
  rw [Bool.and_eq_true, decide_eq_true_eq, beq_iff_eq]
  refine ⟨h.1, ?_⟩
  apply List.ext_getElem?
  intro i
  rcases Nat.lt_or_ge i t.length with hi | hi
  · have := h.2 (t.length - 1 - i) (by omega)
    rw [show t.length - 1 - (t.length - 1 - i) = i from by omega] at this
    rw [List.getElem?_drop, ← this]
    congr 1
    have := h.1
    omega
  · rw [List.getElem?_eq_none hi, List.getElem?_eq_none (by simp; have := h.1; omega)]

theorem ends_short {s t : List UInt8} {size : Nat} (h : min s.length size < t.length) : endsP s size t = false := by
  unfold endsP; simp; omega

theorem ends_differ {s t : List UInt8} {size k : Nat} (hk : k < t.length) (h1 : s[s.length - 1 - k]? ≠ t[t.length - 1 - k]?) : endsP s size t = false := by
  unfold endsP
  cases hd : decide (t.length ≤ min s.length size) with
  | false => rfl
  | true =>
    rw [decide_eq_true_eq] at hd
    rw [Bool.true_and, beq_eq_false_iff_ne]
    intro he
    apply h1
    have : (s.drop (s.length - t.length))[t.length - 1 - k]? = t[t.length - 1 - k]? := by rw [he]
    rw [List.getElem?_drop] at this
    rw [← this]
    congr 1
    omega

set_option maxHeartbeats 1000000 in
theorem ends_ring (g : Nat) (s : List UInt8) (size : Nat) (S : Nat → Prop) (t : ByteArray) (w : World) (h : Ring w g s size S) (hs : t.size < 1000000000000) :
    Calls Try.prog 19 #[.pointer (some ⟨g, 0, none⟩), .string t] w fun e w' => e = .returned (.bool (endsP s size t.data.toList)) ∧ w = w' := by
  have HR := Lib.hid h
  have HE : Hid (EndsTo s size t.data.toList 0) := Lib.hid ⟨Nat.zero_le _, fun d hd => absurd hd (Nat.not_lt_zero _)⟩
  have htl : t.data.toList.length = t.size := by simp
  have HT := Lib.hid htl
  clear h htl
  go_enter Try.func19, Try.ntmps19
  go_wp2
  go_loop [10] (fun v => ∃ k : Nat, k ≤ t.size ∧ v = .int .i64 k ∧ Hid (EndsTo s size t.data.toList k)) (fun v => t.size - (intOf v).toNat)
  case atStart => exact ⟨0, Nat.zero_le _, rfl, HE⟩
  case round =>
    obtain ⟨k, hk, rfl, HI⟩ := hrel
    by_cases hlt : k < t.size
    · by_cases hkm : k < min s.length size
      · have hsl : s.length - 1 - k < s.length := by omega
        have htk : t.size - 1 - k < t.size := by omega
        by_cases heq : s[s.length - 1 - k] = t[t.size - 1 - k]
        · have hb : ((s[s.length - 1 - k].toNat : Int) != (t[t.size - 1 - k].toNat : Int)) = false := by simp [heq]
          go_wp2_with (go_at_call 18; refine (at_ring g s size S k w HR.out hkm _ (List.getElem?_eq_getElem hsl)).mono ?_; rintro e w' ⟨rfl, rfl⟩)
          have HJ : Hid (EndsTo s size t.data.toList (k + 1)) := by
            refine Lib.hid ⟨by omega, fun d hd => ?_⟩
            rcases Nat.lt_or_ge d k with h1 | h1
            · exact HI.out.2 d h1
            · obtain rfl : d = k := by omega
              rw [HT.out, List.getElem?_eq_getElem hsl, List.getElem?_eq_getElem (by rw [HT.out]; exact htk), heq]; rfl
          go_round
          case rel => exact ⟨k + 1, by omega, by go_num, HJ⟩
          case measure => simp [intOf]; omega
        · have hb : ((s[s.length - 1 - k].toNat : Int) != (t[t.size - 1 - k].toNat : Int)) = true := by
            rw [bne_iff_ne]; intro h; apply heq; exact UInt8.toNat_inj.1 (by omega)
          have HF := Lib.hid (ends_differ (s := s) (t := t.data.toList) (size := size) (k := k) (by rw [HT.out]; exact hlt) (by
            rw [HT.out, List.getElem?_eq_getElem hsl, List.getElem?_eq_getElem (by rw [HT.out]; exact htk)]
            intro h; apply heq; injection h))
          clear heq
          go_wp2_with (go_at_call 18; refine (at_ring g s size S k w HR.out hkm _ (List.getElem?_eq_getElem hsl)).mono ?_; rintro e w' ⟨rfl, rfl⟩)
          go_ret
          exact ⟨by rw [HF.out]; rfl, rfl⟩
      · have HF := Lib.hid (ends_short (s := s) (t := t.data.toList) (size := size) (by rw [HT.out]; omega))
        go_wp2_with (go_at_call 18; refine (at_no g s size S k w HR.out (.inr (by omega))).mono ?_; rintro e w' ⟨rfl, rfl⟩)
        go_ret
        exact ⟨by rw [HF.out]; rfl, rfl⟩
    · obtain rfl : k = t.size := by omega
      go_wp2
      go_ret
      exact ⟨by rw [ends_true (by rw [HT.out]; exact HI.out)]; rfl, rfl⟩
end Go.Proofs.Ytacodojaolnhnaa
