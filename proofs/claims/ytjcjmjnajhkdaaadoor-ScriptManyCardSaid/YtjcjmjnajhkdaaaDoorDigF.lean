/- The number of a text, by the program; no condition but the sizes. -/
import Derived.Test.YtjcjmjnajhkdaaaDoorDigE
namespace Go.Proofs.YtjcjmjnajhkdaaaDoor
open Go.RowKit
set_option linter.unusedVariables false
set_option linter.unusedSimpArgs false
set_option maxRecDepth 100000

def parseR (s : List UInt8) (least most : Int) : Value := .tuple #[.int .i64 (parseV s least most).1, .int .i64 (parseV s least most).2]
theorem ret_two {k : IntKind} {x y : Int} {z : Value} (h : x = y) : Ending.returned (.tuple #[.int k x, z]) = .returned (.tuple #[.int k y, z]) := by rw [h]
theorem parse_form {s : List UInt8} (h : formB s = false) (least most : Int) : parseR s least most = .tuple #[.int .i64 0, .int .i64 3] := by
  unfold parseR parseV; rw [h]; rfl
theorem parse_out {s : List UInt8} (h : formB s = true) {least most : Int} (hz : numZ s < -9223372036854775808 ∨ 9223372036854775807 < numZ s ∨ numZ s < least ∨ most < numZ s) : parseR s least most = .tuple #[.int .i64 0, .int .i64 11] := by
  unfold parseR parseV; rw [if_pos h, if_neg (by omega)]
theorem parse_in {s : List UInt8} (h : formB s = true) {least most : Int} {z : Int} (e : numZ s = z) (hz : -9223372036854775808 ≤ z ∧ z ≤ 9223372036854775807 ∧ least ≤ z ∧ z ≤ most) : parseR s least most = .tuple #[.int .i64 z, .int .i64 0] := by
  unfold parseR parseV; rw [if_pos h, e, if_pos hz]
theorem form_no {s : List UInt8} (h : formB s = false) : ∃ x, formV s = .tuple #[.string x, .bool false] := by
  cases ha : (stripD s).all isD with
  | true => exact ⟨_, by rw [formV_good ha, h]⟩
  | false => exact ⟨_, formV_bad ha⟩
theorem form_yes {s : List UInt8} (h : formB s = true) : formV s = .tuple #[.string ⟨(stripD s).toArray⟩, .bool true] := by
  have ha : (stripD s).all isD = true := by unfold formB at h; rw [Bool.and_eq_true] at h; exact h.1
  rw [formV_good ha, h]
theorem num_long {s : List UInt8} (h : formB s = true) (hl : 20 ≤ (stripD s).length) : numZ s < -9223372036854775808 ∨ 9223372036854775807 < numZ s := by
  obtain ⟨h1, h2, h3⟩ := form_parts h
  have h0 : (stripD s).headD 0 ≠ 48 := by
    rcases h3 with h3 | h3
    · exact h3
    · rw [h3] at hl; exact absurd hl (by decide)
  have := val_big h1 h0 hl
  unfold numZ; split <;> omega
theorem val_take {d : List UInt8} {k : Nat} {c : UInt8} (h : d[k]? = some c) : valL (d.take (k + 1)) = 10 * valL (d.take k) + (c.toNat - 48) := by
  rw [List.take_add_one, h]; exact valL_snoc _ _
theorem val_lt {d : List UInt8} (h : ∀ c ∈ d, 48 ≤ c.toNat ∧ c.toNat ≤ 57) {m : Nat} (hl : d.length ≤ m) : valL d < 10 ^ m :=
  Nat.lt_of_lt_of_le (val_small d h) (Nat.pow_le_pow_right (by decide) hl)
theorem below_pos {r : List UInt8} (h : formB (45 :: r) = true) : 1 ≤ valL r := by
  obtain ⟨h1, h2, h3⟩ := form_parts h
  rw [show stripD (45 :: r) = r from rfl] at h1 h2 h3
  have h0 : r.headD 0 ≠ 48 := by
    rcases h3 with h3 | h3
    · exact h3
    · simp at h3
  cases r with
  | nil => exact absurd rfl h2
  | cons a l =>
    have := valL_pos (l := l) (h1 a (by simp)).1 (by simpa using h0)
    have : 0 < 10 ^ l.length := Nat.pow_pos (by decide)
    omega

set_option maxHeartbeats 2000000 in
theorem parse_ (s : List UInt8) (least most : Int) (w : World) (hs : s.length ≤ 1000000) (hl : -9223372036854775808 ≤ least ∧ least ≤ 9223372036854775807) (hm : -9223372036854775808 ≤ most ∧ most ≤ 9223372036854775807) :
    Calls Tryd.prog 67 #[.string ⟨s.toArray⟩, .int .i64 least, .int .i64 most] w fun e w' => e = .returned (parseR s least most) ∧ Pure' w w' := by
  obtain ⟨hl1, hl2⟩ := hl
  obtain ⟨hm1, hm2⟩ := hm
  have hF := fun w => form_ s w hs
  cases hfb : formB s with
  | false =>
    have HR := Lib.hid (parse_form hfb least most)
    obtain ⟨x, hx⟩ := form_no hfb
    rw [hx] at hF
    have HF := Lib.hid hF
    clear hF hx hfb
    go_enter Tryd.func67, Tryd.ntmps67
    go_wp2_with (go_at_call 82; refine (HF.out _).mono ?_; rintro e w1 ⟨rfl, hk⟩; have HK := Lib.hid hk; clear hk)
    go_ret2
    rw [HR.out]
    exact ⟨rfl, HK.out⟩
  | true =>
    rw [form_yes hfb] at hF
    obtain ⟨hd1, hd2, hd3⟩ := form_parts hfb
    have hnl := num_long hfb
    have HFB := Lib.hid hfb
    have hdl : (stripD s).length ≤ 1000000 := by
      unfold stripD
      split
      · rw [List.length_tail]; omega
      · exact hs
    obtain ⟨d, hd⟩ : ∃ d, stripD s = d := ⟨_, rfl⟩
    rw [hd] at hF hd1 hd2 hd3 hnl hdl
    have HF := Lib.hid hF
    have HD := Lib.hid hd
    have HD1 := Lib.hid hd1
    have hsz : ((⟨d.toArray⟩ : ByteArray)).size = d.length := by simp [ByteArray.size]
    clear hF hd hd1 hd3 hd2 hfb
    by_cases hlen : 19 < d.length
    · have HR := Lib.hid (parse_out HFB.out (least := least) (most := most) (by have := hnl (by omega); omega))
      clear hnl
      go_enter Tryd.func67, Tryd.ntmps67
      go_wp2_with (go_at_call 82; refine (HF.out _).mono ?_; rintro e w1 ⟨rfl, hk⟩; have HK := Lib.hid hk; clear hk)
      go_ret2
      rw [HR.out]
      exact ⟨rfl, HK.out⟩
    · clear hnl
      obtain ⟨a, r, rfl⟩ : ∃ a r, s = a :: r := by
        cases s with
        | nil => have := HFB.out; exact absurd this (by decide)
        | cons a r => exact ⟨a, r, rfl⟩
      have hg : ∀ h', (⟨(a :: r).toArray⟩ : ByteArray)[0]'h' = a := fun _ => rfl
      have hal := a.toNat_lt
      have hsz2 : ((⟨(a :: r).toArray⟩ : ByteArray)).size = r.length + 1 := by simp [ByteArray.size]
      go_enter Tryd.func67, Tryd.ntmps67
      go_wp2_with (go_at_call 82; refine (HF.out _).mono ?_; rintro e w1 ⟨rfl, hk⟩; have HK := Lib.hid hk; clear hk)
      rw [Lib.run_convert_string_bytes _ 9 87 5 _ Tryd.underlying9 Tryd.underlying87 Tryd.underlying5]
      simp only [Result.andThen]
      rw [Oper.upon_value]
      have HC : Hid (∀ k c, d[k]? = some c → (Lib.bytesWorld w1 5 ⟨d.toArray⟩).cell? ⟨w1.heap.size, k, none⟩ = some (.int .u8 c.toNat)) := Lib.hid (fun k c hk => by
        have hlt := (List.getElem?_eq_some_iff.1 hk).1
        have := Lib.bytesWorld_cell w1 5 ⟨d.toArray⟩ k (by rw [hsz]; exact hlt)
        simpa [hk] using this)
      have HP := Lib.hid (HK.out.then_ (bytes_pure w1 5 ⟨d.toArray⟩))
      rw [hsz]
      generalize hcap : grownCap _ _ _ _ = cap
      generalize Lib.bytesWorld w1 5 ⟨d.toArray⟩ = w2 at *
      generalize hn : d.length = n at *
      go_wp2
      go_loopw [10, 28] (fun v10 v28 wr => ∃ k : Nat, k ≤ n ∧ v28 = .int .i64 k ∧ v10 = .int .u64 (valL (d.take k)) ∧ wr = w2) (fun _ v28 _ => n - (intOf v28).toNat)
      case atStart => exact ⟨0, Nat.zero_le _, rfl, rfl, rfl⟩
      case round =>
        obtain ⟨k, hk, rfl, rfl, rfl⟩ := hrel
        by_cases hlt : k < n
        · obtain ⟨c, hdk⟩ : ∃ c, d[k]? = some c := ⟨_, List.getElem?_eq_getElem (by omega)⟩
          have hc := HC.out k c hdk
          have hcl := c.toNat_lt
          obtain ⟨hb1, hb2⟩ := HD1.out c (List.mem_of_getElem? hdk)
          have HV := Lib.hid (val_take hdk)
          have hvl : valL (d.take k) < 10 ^ 18 := val_lt (fun c hc => HD1.out c (List.mem_of_mem_take hc)) (by rw [List.length_take]; omega)
          rw [show 10 ^ 18 = 1000000000000000000 from rfl] at hvl
          clear hdk
          generalize valL (d.take k) = v at *
          go_wp2
          go_roundw
          case rel => exact ⟨k + 1, by omega, by go_num, by rw [HV.out]; go_num, trivial⟩
          case measure => simp [intOf]; omega
        · obtain rfl : k = n := by omega
          have hv : valL (d.take k) < 10 ^ 19 := val_lt (fun c hc => HD1.out c (List.mem_of_mem_take hc)) (by rw [List.length_take]; omega)
          rw [show 10 ^ 19 = 10000000000000000000 from rfl] at hv
          have hvd : valL (d.take k) = valL (stripD (a :: r)) := by rw [HD.out, List.take_of_length_le (by omega)]
          by_cases ha : a = 45
          · subst ha
            have hz : numZ (45 :: r) = -(valL (d.take k) : Int) := by rw [hvd]; rfl
            have h1 : 1 ≤ valL (d.take k) := by rw [hvd]; exact below_pos HFB.out
            generalize valL (d.take k) = v at *
            clear hvd hlt
            by_cases hbig : 9223372036854775808 < v
            · have HR := Lib.hid (parse_out HFB.out (least := least) (most := most) (by omega))
              clear hz
              go_wp2
              go_ret2
              rw [HR.out]
              exact ⟨rfl, HP.out⟩
            · by_cases h2 : -(v : Int) < least
              · have HR := Lib.hid (parse_out HFB.out (least := least) (most := most) (by omega))
                clear hz
                by_cases hsm : v ≤ 9223372036854775807
                · go_wp2
                  go_ret2
                  rw [HR.out]
                  exact ⟨rfl, HP.out⟩
                · obtain rfl : v = 9223372036854775808 := by omega
                  go_wp2
                  go_ret2
                  rw [HR.out]
                  exact ⟨rfl, HP.out⟩
              · by_cases h3 : most < -(v : Int)
                · have HR := Lib.hid (parse_out HFB.out (least := least) (most := most) (by omega))
                  clear hz
                  by_cases hsm : v ≤ 9223372036854775807
                  · go_wp2
                    go_ret2
                    rw [HR.out]
                    exact ⟨rfl, HP.out⟩
                  · exfalso; omega
                · have HR := Lib.hid (parse_in HFB.out (least := least) (most := most) hz (by omega))
                  clear hz
                  by_cases hsm : v ≤ 9223372036854775807
                  · go_wp2
                    go_ret2
                    rw [HR.out]
                    exact ⟨ret_two (by omega), HP.out⟩
                  · obtain rfl : v = 9223372036854775808 := by omega
                    go_wp2
                    go_ret2
                    rw [HR.out]
                    exact ⟨ret_two (by omega), HP.out⟩
          · have hh : (a :: r).head? ≠ some 45 := by simpa using ha
            have hz : numZ (a :: r) = (valL (d.take k) : Int) := by rw [hvd]; unfold numZ; rw [if_neg hh]
            have ha1 : a.toNat ≠ 45 := fun e => ha (UInt8.toNat_inj.1 e)
            have hat : ((a.toNat : Int) == 45) = false := by simp; omega
            generalize valL (d.take k) = v at *
            clear hvd hlt ha ha1 hh
            by_cases hbig : 9223372036854775807 < v
            · have HR := Lib.hid (parse_out HFB.out (least := least) (most := most) (by omega))
              clear hz
              go_wp2
              go_ret2
              rw [HR.out]
              exact ⟨rfl, HP.out⟩
            · by_cases h2 : (v : Int) < least
              · have HR := Lib.hid (parse_out HFB.out (least := least) (most := most) (by omega))
                clear hz
                go_wp2
                go_ret2
                rw [HR.out]
                exact ⟨rfl, HP.out⟩
              · by_cases h3 : most < (v : Int)
                · have HR := Lib.hid (parse_out HFB.out (least := least) (most := most) (by omega))
                  clear hz
                  go_wp2
                  go_ret2
                  rw [HR.out]
                  exact ⟨rfl, HP.out⟩
                · have HR := Lib.hid (parse_in HFB.out (least := least) (most := most) hz (by omega))
                  clear hz
                  go_wp2
                  go_ret2
                  rw [HR.out]
                  exact ⟨rfl, HP.out⟩
theorem sees_new (w : World) (e : TypeId) (us : List Value) (n : Nat) (hn : us.length = n) : Sees (w.alloc (.cells us.toArray e)) (w.alloc (.cells us.toArray e)).heap.size 1 (some ⟨w.heap.size, 0, none⟩) n us := by
  refine ⟨by omega, fun _ => ⟨_, rfl, ?_, fun j u hu => ?_⟩⟩
  · show w.heap.size < (w.heap.push _).size
    rw [Array.size_push]; exact Nat.lt_succ_self _
  · rw [show (⟨w.heap.size, 0, none⟩ : Addr).add j = ⟨w.heap.size, j, none⟩ from by unfold Addr.add; split <;> simp_all, (Blk.new w e us.toArray).cell]
    simpa using hu

end Go.Proofs.YtjcjmjnajhkdaaaDoor
