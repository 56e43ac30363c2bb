/- What is written of a record, by the reference: how long it is; no condition but the sizes. -/
import Derived.Test.YtdapjfnpnmejnaaBndQ
namespace Go.Proofs.Ytdapjfnpnmejnaa
open Go.RowKit
set_option linter.unusedVariables false
set_option linter.unusedSimpArgs false
set_option maxRecDepth 100000

def RRecPost (size : Nat) (w : World) (e : Ending) (w' : World) : Prop := ∃ (s : ByteArray) (er : Int), e = .returned (.tuple #[.string s, .int .i64 er]) ∧ (er = 0 → s.size = size) ∧ Pure' w w'
theorem u8_wrap (z : Int) : 0 ≤ IntKind.u8.wrap z ∧ IntKind.u8.wrap z < 256 := by rw [IntKind.wrap_u8]; omega

set_option maxHeartbeats 4000000 in
theorem rrec_ (kind n r : Int) (A : Option Addr) (m c B : Nat) (ids : List Int) (w : World) (hs : Sees w B 1 A m (ids.map (Value.int .i64))) (hB : B ≤ w.heap.size) (hm : m ≤ 1000)
    (hn : -9223372036854775808 ≤ n ∧ n ≤ 9223372036854775807) (hr : -9223372036854775808 ≤ r ∧ r ≤ 9223372036854775807) (hk : -9223372036854775808 ≤ kind ∧ kind ≤ 9223372036854775807) (hids : ∀ z ∈ ids, -9223372036854775808 ≤ z ∧ z ≤ 9223372036854775807) :
    Calls Try.prog 26 #[recV kind n r A m c] w fun e w' => RRecPost (exactV kind n r ids) w e w' := by
  have hll : ids.length = m := by have := hs.1; simpa using this
  have HCK : Hid (∀ w : World, Sees w B 1 A m (ids.map (Value.int .i64)) → B ≤ w.heap.size → Calls Try.prog 58 #[.agg #[.int .i64 kind, .int .i64 n, .int .i64 r, .slice A m c]] w fun e w' => BoolPost w e w') := Lib.hid (fun w h1 h2 => rcheck_ kind n r A m c B ids w h1 h2 hm)
  have HPUT := Lib.hid rput_
  unfold recV
  have hb := Blk.new w 33 #[.int .i64 kind, .int .i64 n, .int .i64 r, .slice A m c]
  have HB0 := Lib.hid hb
  have c0 := hb.cell 0
  have c1 := hb.cell 1
  have c2 := hb.cell 2
  have c3 := hb.cell 3
  have hpa := (Keeps.refl (fun _ => False) w).alloc (.cells #[.int .i64 kind, .int .i64 n, .int .i64 r, .slice A m c] 33)
  have HSX := Lib.hid (fun wx (hp : Pure' w wx) => hs.pure hp hB)
  have HP := Lib.hid hpa
  have HBS := Lib.hid (Nat.le_trans hB hpa.size)
  have HN := Lib.hid hll
  have HI := Lib.hid hids
  obtain ⟨hn1, hn2⟩ := hn
  obtain ⟨hr1, hr2⟩ := hr
  obtain ⟨hk1, hk2⟩ := hk
  clear hs hll hb hids hpa
  go_enter Try.func26, Try.ntmps26
  go_wp2_with fail
  refine (HCK.out _ (HSX.out _ HP.out) HBS.out).mono ?_
  rintro e w1 ⟨b, rfl, hk1⟩
  have HB1 := Lib.hid (HB0.out.keep hk1 fun hf => hf)
  have HP1 := Lib.hid (HP.out.then_ hk1)
  have d0 := HB1.out.cell 0
  have d1 := HB1.out.cell 1
  have d2 := HB1.out.cell 2
  have d3 := HB1.out.cell 3
  clear hk1
  cases b with
  | false =>
    go_wp2
    go_ret2
    exact ⟨_, 2, rfl, fun h => by simp at h, HP1.out⟩
  | true =>
    generalize hg : w.heap.size = g at *
    have hos := one_size (kind % 256)
    have hcv := conv_one _ _ (kind % 256) (new_cell w1 (.int .u8 (kind % 256)) 5)
    generalize strOfNums [kind % 256] = s1 at *
    have HB2 := Lib.hid (HB1.out.alloc (.cells #[.int .u8 (kind % 256)] 5))
    have HP2 := Lib.hid (HP1.out.alloc (.cells #[.int .u8 (kind % 256)] 5))
    have e0 := HB2.out.cell 0
    have e1 := HB2.out.cell 1
    have e2 := HB2.out.cell 2
    have e3 := HB2.out.cell 3
    by_cases h4 : kind = 4
    · have t4 : (kind != 4) = false := by simp [h4]
      have HE : Hid (exactV kind n r ids = 1 + szV m + idsV ids 0) := Lib.hid (by unfold exactV; rw [if_pos h4, HN.out])
      clear h4 c0 c1 c2 c3
      have hzm := szV_le m (by omega)
      have HW : Hid (∀ x : Int, szV (wrap64 x) ≤ 9) := Lib.hid szV_wrap
      go_wp2_with fail
      generalize w1.alloc (.cells #[.int .u8 (kind % 256)] 5) = W2 at *
      clear d0 d1 d2 d3
      refine (HPUT.out _ _ (by omega) (by omega)).mono ?_
      rintro e w3 ⟨sa, rfl, hsa, hka⟩
      have HB3 := Lib.hid (HB2.out.keep hka fun hf => hf)
      have HP3 := Lib.hid (HP2.out.then_ hka)
      clear hka e0 e1 e2 e3
      go_wp2
      go_loopw [4, 5] (fun v4 v5 wr => ∃ (k : Nat) (a : Int) (s : ByteArray), k ≤ m ∧ v5 = .int .i64 k ∧ v4 = .string s ∧ s.size ≤ 10 + 9 * k ∧ Hid (s.size + idsV (ids.drop k) a = 1 + szV m + idsV ids 0) ∧ Hid (k = 0 → a = 0) ∧ Hid (0 < k → ids[k - 1]? = some a) ∧ Hid (Blk wr g 33 #[.int .i64 kind, .int .i64 n, .int .i64 r, .slice A m c]) ∧ Pure' w wr) (fun _ v5 _ => m - (intOf v5).toNat)
      case atStart => exact ⟨0, 0, s1 ++ sa, Nat.zero_le _, rfl, rfl, by rw [ByteArray.size_append]; omega, Lib.hid (by rw [ByteArray.size_append]; simp only [List.drop_zero]; omega), Lib.hid (fun _ => rfl), Lib.hid (fun h => absurd h (by omega)), HB3, HP3.out⟩
      case round =>
        obtain ⟨k, a, s, hk, rfl, rfl, hsz, HSUM, HA0, HA1, HBK, hpk⟩ := hrel
        have c3 := HBK.out.cell 3
        by_cases hlt : k < m
        · obtain ⟨ad, z, rfl, hz, hdr, hc⟩ := nums_at (HSX.out _ hpk) hlt
          have HPK := Lib.hid hpk
          have hzr := HI.out z (List.mem_of_getElem? hz)
          have HZ := Lib.hid hz
          have hsum := HSUM.out
          rw [hdr, idsV] at hsum
          have hw9 := HW.out (z - a)
          clear hz hdr hpk
          by_cases hk0 : k = 0
          · have ha := HA0.out hk0
            subst ha
            have hwz : wrap64 (z - 0) = z := by rw [Int.sub_zero]; exact wrap_in hzr.1 hzr.2
            rw [hwz] at hsum hw9
            have HSM := Lib.hid hsum
            have t0 : ((k : Int) == 0) = true := by simp [hk0]
            have hc0 : wr.cell? ad = some (.int .i64 z) := by have := hc; rw [hk0] at this; simpa [Addr.add] using this
            clear hsum hwz
            go_wp2_with fail
            refine (HPUT.out _ _ (by omega) (by omega)).mono ?_
            rintro e w4 ⟨sb, rfl, hsb, hkb⟩
            have HP4 := Lib.hid (HPK.out.then_ hkb)
            have HB4 := Lib.hid (HBK.out.keep hkb fun hf => hf)
            clear hkb
            go_wp2
            go_roundw
            case rel => exact ⟨k + 1, z, s ++ sb, by omega, by go_num, rfl, by rw [ByteArray.size_append]; omega, Lib.hid (by rw [ByteArray.size_append]; have := HSM.out; omega), Lib.hid (fun h => by omega), Lib.hid (fun _ => HZ.out), HB4, HP4.out⟩
            case measure => simp [intOf] <;> omega
          · have t0 : ((k : Int) == 0) = false := by rw [beq_eq_false_iff_ne]; omega
            have hk1 : 0 < k := by omega
            obtain ⟨ad2, zp, had, hzp, hdr, hcp⟩ := nums_at (HSX.out _ HPK.out) (show k - 1 < m by omega)
            obtain rfl : ad = ad2 := by injection had
            have ha := HA1.out hk1
            rw [hzp] at ha
            obtain rfl : zp = a := by injection ha
            have HSM := Lib.hid hsum
            clear hsum hzp hdr had ha hk0
            go_wp2
            have i1 : IntKind.i64.wrap ((k : Int) - 1) = (k : Int) - 1 := IntWalk.i64_in _ ⟨by omega, by omega⟩
            have i2 : (0 : Int) ≤ (k : Int) - 1 := by omega
            have i3 : (k : Int) - 1 < (m : Int) := by omega
            have i4 : ((k : Int) - 1).toNat = k - 1 := by omega
            have i5 : k - 1 < m := by omega
            have i6 : (0 : Int) ≤ (k : Int) := by omega
            have i7 : (k : Int) < (m : Int) := by omega
            have i8 : (1 : Int) ≤ (k : Int) := by omega
            have HPD := Lib.hid (HPK.out.drewN 1)
            have HBD := Lib.hid (HBK.out.keep ((Keeps.refl (fun _ => False) wr).drewN 1) fun hf => hf)
            obtain ⟨d, hd⟩ : ∃ d, d = wrap64 (z - zp) := ⟨_, rfl⟩
            have hwd : IntKind.i64.wrap (z - zp) = d := by rw [hd, IntKind.wrap_i64, wrap64]
            have HPD2 := Lib.hid (fun w => rput_ d w (by rw [hd]; exact (wrap_range _).1) (by rw [hd]; exact (wrap_range _).2))
            have HSM2 : Hid (s.size + (szV d + idsV (ids.drop (k + 1)) z) = 1 + szV m + idsV ids 0) := Lib.hid (by rw [hd]; exact HSM.out)
            rw [← hd] at hw9
            clear hd
            go_region_with (go_at_call 59; refine (HPD2.out _).mono ?_; rintro e w4 ⟨sb, rfl, hsb, hkb⟩; have HP4 := Lib.hid (HPD.out.then_ hkb); have HB4 := Lib.hid (HBD.out.keep hkb fun hf => hf); clear hkb)
            all_goals clear i1 i2 i3 i4 i5 i6 i7 i8
            all_goals
              go_wp2
              go_roundw
              case rel => exact ⟨k + 1, z, s ++ sb, by omega, by go_num, rfl, by rw [ByteArray.size_append]; omega, Lib.hid (by rw [ByteArray.size_append]; have := HSM2.out; omega), Lib.hid (fun h => by omega), Lib.hid (fun _ => HZ.out), HB4, HP4.out⟩
              case measure => simp [intOf] <;> omega
        · obtain rfl : k = m := by omega
          have HF : Hid (s.size = 1 + szV k + idsV ids 0) := Lib.hid (by
            have := HSUM.out
            rw [List.drop_eq_nil_of_le (by rw [HN.out]; exact Nat.le_refl _), idsV] at this
            omega)
          have HPK := Lib.hid hpk
          clear hpk
          go_wp2
          go_ret2
          exact ⟨_, 0, rfl, fun _ => by rw [HE.out, HF.out], HPK.out⟩
    · have t4 : (kind != 4) = true := by simpa using h4
      have HE : Hid (exactV kind n r ids = 1 + szV n + szV r) := Lib.hid (by unfold exactV; rw [if_neg h4])
      have hzn := szV_le n hn2
      have hzr := szV_le r hr2
      clear h4
      clear c0 c1 c2 c3
      go_wp2
      generalize w1.alloc (.cells #[.int .u8 (kind % 256)] 5) = W2 at *
      have HPD := Lib.hid ((Keeps.refl (fun _ => False) W2).drewN 1)
      have HB3 := Lib.hid (HB2.out.keep HPD.out fun hf => hf)
      have HP3 := Lib.hid (HP2.out.then_ HPD.out)
      clear d0 d1 d2 d3
      go_region_with
        (first
          | (go_at_call 59; refine (HPUT.out _ _ (by omega) (by omega)).mono ?_; first | (rintro e w3 ⟨sb, rfl, hsb, hka⟩; have HB5 := Lib.hid (HB4.out.keep hka fun hf => hf); have HP5 := Lib.hid (HP4.out.then_ hka); have g1 := HB5.out.cell 1; have g2 := HB5.out.cell 2; have hc2 : ¬ 9223372036854775807 < s1.size + sb.size := (by omega); have hz3 : (s1 ++ sa).size = s1.size + sa.size := ByteArray.size_append; have hz4 : (s1 ++ sb).size = s1.size + sb.size := ByteArray.size_append; have hc3 : ¬ 9223372036854775807 < (s1 ++ sa).size + sb.size := (by omega); have hc4 : ¬ 9223372036854775807 < (s1 ++ sb).size + sa.size := (by omega); have hc5 : ¬ 9223372036854775807 < s1.size + sa.size + sb.size := (by omega); have hc6 : ¬ 9223372036854775807 < s1.size + sb.size + sa.size := (by omega); clear hka) | (rintro e w3 ⟨sa, rfl, hsa, hka⟩; have HB4 := Lib.hid (HB3.out.keep hka fun hf => hf); have HP4 := Lib.hid (HP3.out.then_ hka); have f1 := HB4.out.cell 1; have f2 := HB4.out.cell 2; have hc1 : ¬ 9223372036854775807 < s1.size + sa.size := (by omega); clear hka)))
      all_goals go_wp2
      all_goals go_ret2
      all_goals exact ⟨_, 0, rfl, fun _ => by rw [HE.out]; simp only [ByteArray.size_append]; omega, HP5.out⟩
end Go.Proofs.Ytdapjfnpnmejnaa
