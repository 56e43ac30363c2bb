/- The number of a text, by the reference; no condition but the sizes. -/
import Derived.Test.YtjcjmjnajhkdaaaDoorDigI
namespace Go.Proofs.YtjcjmjnajhkdaaaDoor
open Go.RowKit
set_option linter.unusedVariables false
set_option linter.unusedSimpArgs false
set_option maxRecDepth 100000

/-- A text without its signs. -/
def nf (l : List UInt8) : List UInt8 := l.filter (fun c => c != 45)
theorem nf_strip {s : List UInt8} (h : formB s = true) : nf s = stripD s := by
  obtain ⟨h1, h2, h3⟩ := form_parts h
  have hd : nf (stripD s) = stripD s := by
    unfold nf
    refine List.filter_eq_self.2 fun c hc => ?_
    have := h1 c hc
    simp only [bne_iff_ne]
    intro e; rw [e] at this; exact absurd this.1 (by decide)
  by_cases hm : s.head? = some 45
  · cases s with
    | nil => simp at hm
    | cons a r =>
      simp at hm
      subst hm
      rw [show stripD (45 :: r) = r from rfl] at hd ⊢
      rw [show nf (45 :: r) = nf r from rfl]; exact hd
  · have e : stripD s = s := by rw [stripD, if_neg hm]
    rw [e] at hd ⊢; exact hd
theorem nf_dig {s : List UInt8} (h : formB s = true) {k : Nat} {c : UInt8} (hk : s[k]? = some c) (hc : c ≠ 45) : 48 ≤ c.toNat ∧ c.toNat ≤ 57 := by
  obtain ⟨h1, _, _⟩ := form_parts h
  refine h1 c ?_
  rw [← nf_strip h]
  exact List.mem_filter.2 ⟨List.mem_of_getElem? hk, by simpa using hc⟩
theorem nf_skip {s : List UInt8} {k : Nat} (hk : s[k]? = some 45) : nf (s.take (k + 1)) = nf (s.take k) := by
  rw [List.take_add_one, hk]; unfold nf; rw [List.filter_append]; simp
theorem nf_more {s : List UInt8} {k : Nat} {c : UInt8} (hk : s[k]? = some c) (hc : c ≠ 45) : valL (nf (s.take (k + 1))) = 10 * valL (nf (s.take k)) + (c.toNat - 48) := by
  have e : nf (s.take (k + 1)) = nf (s.take k) ++ [c] := by
    rw [List.take_add_one, hk]; unfold nf; rw [List.filter_append]; simp [hc]
  rw [e, valL_snoc]
theorem val_app (a b : List UInt8) : valL a ≤ valL (a ++ b) := by
  have e : valL (a ++ b) = valL a * 10 ^ b.length + valL b := by
    unfold valL
    rw [List.foldl_append]
    exact valL_cons 0 b _
  have h1 : 0 < 10 ^ b.length := Nat.pow_pos (by decide)
  have h2 : valL a * 1 ≤ valL a * 10 ^ b.length := Nat.mul_le_mul_left _ h1
  omega
theorem nf_le {s : List UInt8} (h : formB s = true) (k : Nat) : valL (nf (s.take k)) ≤ valL (stripD s) := by
  have e : nf s = nf (s.take k) ++ nf (s.drop k) := by
    unfold nf; rw [← List.filter_append, List.take_append_drop]
  rw [← nf_strip h, e]
  exact val_app _ _
theorem num_big {s : List UInt8} (h : formB s = true) (hv : 9223372036854775808 < valL (stripD s)) (least most : Int) : parseR s least most = .tuple #[.int .i64 0, .int .i64 11] := by
  refine parse_out h ?_
  unfold numZ
  split <;> omega

set_option maxHeartbeats 4000000 in
theorem rparse_ (s : List UInt8) (least most : Int) (w : World) (hs : s.length ≤ 1000000) (hl : -9223372036854775808 ≤ least ∧ least ≤ 9223372036854775807) (hm : -9223372036854775808 ≤ most ∧ most ≤ 9223372036854775807) :
    Calls Tryd.prog 47 #[.string ⟨s.toArray⟩, .int .i64 least, .int .i64 most] w fun e w' => e = .returned (parseR s least most) ∧ w = w' := by
  obtain ⟨hl1, hl2⟩ := hl
  obtain ⟨hm1, hm2⟩ := hm
  have hF := fun w => rform_ s w hs
  cases hfb : formB s with
  | false =>
    have HR := Lib.hid (parse_form hfb least most)
    rw [hfb] at hF
    have HF := Lib.hid hF
    clear hF hfb
    go_enter Tryd.func47, Tryd.ntmps47
    go_wp2_with (go_at_call 70; refine (HF.out _).mono ?_; rintro e w1 ⟨rfl, rfl⟩)
    go_ret2
    rw [HR.out]
    exact ⟨rfl, rfl⟩
  | true =>
    rw [hfb] at hF
    have HF := Lib.hid hF
    have HFB := Lib.hid hfb
    clear hF hfb
    obtain ⟨a, r, hS⟩ : ∃ a r, s = a :: r := by
      cases s with
      | nil => have := HFB.out; exact absurd this (by decide)
      | cons a r => exact ⟨a, r, rfl⟩
    have h0 := byte_at (s := s) (k := 0) (c := a) (by rw [hS]; rfl)
    have hal := a.toNat_lt
    have hsz : ((⟨s.toArray⟩ : ByteArray)).size = s.length := by simp [ByteArray.size]
    have hn1 : 1 ≤ s.length := by rw [hS]; exact Nat.le_add_left _ _
    have HS := Lib.hid hS
    clear hS
    generalize hn : s.length = n at *
    have HN := Lib.hid hn
    clear hn
    go_enter Tryd.func47, Tryd.ntmps47
    go_wp2_with (go_at_call 70; refine (HF.out _).mono ?_; rintro e w1 ⟨rfl, rfl⟩)
    go_loopw [8, 9] (fun v8 v9 wr => ∃ k : Nat, k ≤ n ∧ v9 = .int .i64 k ∧ v8 = .int .i64 (-((valL (nf (s.take k)) : Nat) : Int)) ∧ valL (nf (s.take k)) ≤ 9223372036854775808 ∧ wr = w) (fun _ v9 _ => n - (intOf v9).toNat)
    case atStart => exact ⟨0, Nat.zero_le _, rfl, rfl, Nat.zero_le _, rfl⟩
    case round =>
      obtain ⟨k, hk, rfl, rfl, hvb, rfl⟩ := hrel
      by_cases hlt : k < n
      · obtain ⟨c, hdk⟩ : ∃ c, s[k]? = some c := ⟨_, List.getElem?_eq_getElem (by rw [HN.out]; exact hlt)⟩
        have hg := byte_at hdk
        have hcl := c.toNat_lt
        by_cases h45 : c = 45
        · subst h45
          have HV := Lib.hid (nf_skip hdk)
          generalize hvv : valL (nf (s.take k)) = v at *
          have HVV := Lib.hid hvv
          clear hdk hvv
          go_wp2
          go_roundw
          case rel => exact ⟨k + 1, by omega, by go_num, by rw [HV.out, HVV.out], by rw [HV.out, HVV.out]; exact hvb, trivial⟩
          case measure => simp [intOf]; omega
        · have t45 : ((c.toNat : Int) == 45) = false := by
            have : c.toNat ≠ 45 := fun e => h45 (UInt8.toNat_inj.1 e)
            simp; omega
          obtain ⟨hb1, hb2⟩ := nf_dig HFB.out hdk h45
          have HV := Lib.hid (nf_more hdk h45)
          have HB := Lib.hid (nf_le HFB.out (k + 1))
          generalize valL (nf (s.take k)) = v at *
          clear hdk h45
          by_cases hA : 922337203685477580 < v
          · have HR := Lib.hid (num_big HFB.out (by have := HB.out; rw [HV.out] at this; omega) least most)
            go_wp2
            go_ret2
            rw [HR.out]
            exact ⟨rfl, rfl⟩
          · by_cases hB : v = 922337203685477580
            · have tB : (-(v : Int) == -922337203685477580) = true := by rw [hB]; rfl
              have hv1 : v ≤ 922337203685477580 := by omega
              have hv2 : 922337203685477580 ≤ v := by omega
              clear hA hB
              by_cases h9 : 56 < c.toNat
              · have HR := Lib.hid (num_big HFB.out (by have := HB.out; rw [HV.out] at this; omega) least most)
                go_wp2
                go_ret2
                rw [HR.out]
                exact ⟨rfl, rfl⟩
              · go_wp2
                go_roundw
                case rel => exact ⟨k + 1, by omega, by go_num, by rw [HV.out]; go_num, by rw [HV.out]; omega, trivial⟩
                case measure => simp [intOf]; omega
            · have hC : -922337203685477580 < -(v : Int) := by omega
              have hC2 : -(v : Int) ≤ 0 := by omega
              have hvb' : v ≤ 922337203685477579 := by omega
              clear hA hB hvb
              generalize hz : -(v : Int) = z at *
              have HZ := Lib.hid hz
              have HVB := Lib.hid hvb'
              clear hz hvb'
              have tB : (z == -922337203685477580) = false := by
                rw [beq_eq_false_iff_ne]; omega
              go_wp2
              go_roundw
              case rel => exact ⟨k + 1, by omega, by go_num, by rw [HV.out]; have := HZ.out; go_num, by rw [HV.out]; have := HVB.out; omega, trivial⟩
              case measure => simp [intOf]; omega
      · obtain rfl : k = n := by omega
        have hvd : valL (nf (s.take k)) = valL (stripD s) := by rw [List.take_of_length_le (by rw [HN.out]; exact Nat.le_refl _), nf_strip HFB.out]
        by_cases ha : a = 45
        · have hz : numZ s = -(valL (nf (s.take k)) : Int) := by rw [hvd, HS.out, ha]; rfl
          have t45 : ((a.toNat : Int) != 45) = false := by subst ha; rfl
          generalize valL (nf (s.take k)) = v at *
          clear hvd hlt ha
          by_cases h2 : -(v : Int) < least
          · have HR := Lib.hid (parse_out HFB.out (least := least) (most := most) (by omega))
            clear hz
            go_wp2
            go_ret2
            rw [HR.out]
            exact ⟨rfl, rfl⟩
          · by_cases h3 : most < -(v : Int)
            · have HR := Lib.hid (parse_out HFB.out (least := least) (most := most) (by omega))
              clear hz
              go_wp2
              go_ret2
              rw [HR.out]
              exact ⟨rfl, rfl⟩
            · have HR := Lib.hid (parse_in HFB.out (least := least) (most := most) hz (by omega))
              clear hz
              go_wp2
              go_ret2
              rw [HR.out]
              exact ⟨rfl, rfl⟩
        · have hh : s.head? ≠ some 45 := by rw [HS.out]; simpa using ha
          have hz : numZ s = (valL (nf (s.take k)) : Int) := by rw [hvd]; unfold numZ; rw [if_neg hh]
          have t45 : ((a.toNat : Int) != 45) = true := by
            have : a.toNat ≠ 45 := fun e => ha (UInt8.toNat_inj.1 e)
            simp; omega
          generalize valL (nf (s.take k)) = v at *
          clear hvd hlt ha hh
          by_cases hbig : v = 9223372036854775808
          · have HR := Lib.hid (parse_out HFB.out (least := least) (most := most) (by omega))
            clear hz
            subst hbig
            go_wp2
            go_ret2
            rw [HR.out]
            exact ⟨rfl, rfl⟩
          · have tb : (-(v : Int) == -9223372036854775808) = false := by simp; omega
            have hv7 : v ≤ 9223372036854775807 := by omega
            clear hbig
            by_cases h2 : (v : Int) < least
            · have HR := Lib.hid (parse_out HFB.out (least := least) (most := most) (by omega))
              clear hz
              go_wp2
              go_ret2
              rw [HR.out]
              exact ⟨rfl, rfl⟩
            · by_cases h3 : most < (v : Int)
              · have HR := Lib.hid (parse_out HFB.out (least := least) (most := most) (by omega))
                clear hz
                go_wp2
                go_ret2
                rw [HR.out]
                exact ⟨rfl, rfl⟩
              · have HR := Lib.hid (parse_in HFB.out (least := least) (most := most) hz (by omega))
                clear hz
                go_wp2
                go_ret2
                rw [HR.out]
                exact ⟨rfl, rfl⟩
end Go.Proofs.YtjcjmjnajhkdaaaDoor
