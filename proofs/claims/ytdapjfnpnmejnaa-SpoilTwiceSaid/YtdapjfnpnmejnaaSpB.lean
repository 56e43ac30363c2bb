/- Numbers written as bytes, by the program; no condition but that the numbers are ints. -/
import Derived.Test.YtdapjfnpnmejnaaSpA
namespace Go.Proofs.Ytdapjfnpnmejnaa
open Go.RowKit
set_option linter.unusedVariables false
set_option linter.unusedSimpArgs false
set_option maxRecDepth 100000

/-- A row of one's own. -/
structure Own (w0 wr : World) (e : TypeId) (size : Nat) (v : Value) (n : Nat) (xs : List Value) : Prop where
  row : Row wr e size v n xs
  own : ∀ b, v.ownBlock = some b → w0.heap.size ≤ b
  pure : Pure' w0 wr
theorem Own.alloc {w0 wr : World} {e : TypeId} {size n : Nat} {v : Value} {xs : List Value} (h : Own w0 wr e size v n xs) (o : Obj) : Own w0 (wr.alloc o) e size v n xs := ⟨h.row.alloc o, h.own, h.pure.alloc o⟩
theorem Own.dn {w0 wr : World} {e : TypeId} {size n : Nat} {v : Value} {xs : List Value} (h : Own w0 wr e size v n xs) (q : Nat) : Own w0 (wr.drewN q) e size v n xs := ⟨h.row.drewN q, h.own, h.pure.drewN q⟩
theorem Own.app {w0 W w1 : World} {e : TypeId} {size n n' b cap : Nat} {v : Value} {xs xs' : List Value} (h : Own w0 W e size v n xs) (hr : Row w1 e size (.slice (some ⟨b, 0, none⟩) n' cap) n' xs') (hg : W.grownBy w1 v.ownBlock) (hb : v.ownBlock = some b ∨ b = W.heap.size) : Own w0 w1 e size (.slice (some ⟨b, 0, none⟩) n' cap) n' xs' := by
  refine ⟨hr, fun b' hb' => ?_, h.pure.grown hg (fun k hk => .inr (h.own k hk))⟩
  simp [Value.ownBlock] at hb'
  subst hb'
  rcases hb with hb | hb
  · exact h.own _ hb
  · rw [hb]; exact h.pure.size
theorem Own.made {w0 W w1 : World} {e : TypeId} {size c : Nat} (hp : Pure' w0 W) (hr : Row w1 e size (.slice (some ⟨W.heap.size, 0, none⟩) 0 c) 0 []) (hg : W.grownBy w1 none) : Own w0 w1 e size (.slice (some ⟨W.heap.size, 0, none⟩) 0 c) 0 [] := by
  refine ⟨hr, fun b hb => ?_, hp.grown hg (fun k hk => by cases hk)⟩
  simp [Value.ownBlock] at hb
  subst hb
  exact hp.size
theorem Own.nil {w0 W : World} {e : TypeId} {size : Nat} (hp : Pure' w0 W) : Own w0 W e size (.slice none 0 0) 0 [] :=
  ⟨⟨by simp, .inl ⟨rfl, rfl⟩⟩, fun b hb => by simp [Value.ownBlock] at hb, hp⟩

theorem u8info2 : (Try.prog.info? 5).map (fun i => (i.zero, i.size, i.bytes)) = some (some (.int .u8 0), 1, 1) := by kernel_rfl
theorem encV_len (n : Nat) : (encV n).length = sizeL n := by
  induction n using Nat.strongRecOn with
  | _ n ih =>
    by_cases h : n < 128
    · rw [encV_small h, sizeL_small h]; rfl
    · rw [encV_big h, sizeL_big h, List.length_cons, ih (n / 128) (by omega)]; omega
def encZ (n : Int) : List UInt8 := if n < 0 then [] else encV n.toNat
theorem and_127 (t : Nat) (h : t ≤ 9223372036854775807) : bits .and .i64 (t : Int) 127 = ((t % 128 : Nat) : Int) := by
  have two63 : (2 : Int) ^ 63 = 9223372036854775808 := by decide
  have e : ((2 : Int) ^ 7 - 1) = 127 := by decide
  have e2 : ((2 : Int) ^ 7) = 128 := by decide
  have h := bits_mask .i64 63 (by decide) (fun n h0 h1 => by rw [two63] at h1; rw [IntKind.wrap_i64]; omega) 7 (by decide) (t : Int) (by omega) (by rw [two63]; omega)
  rw [e, e2] at h
  rw [h]; omega
theorem or_128 (t : Nat) (h : t < 128) : bits .or .i64 (t : Int) 128 = ((t + 128 : Nat) : Int) := by
  have two63 : (2 : Int) ^ 63 = 9223372036854775808 := by decide
  have e2 : ((2 : Int) ^ 7) = 128 := by decide
  rw [bits_join_low .i64 63 (by decide) (fun n h0 h1 => by rw [two63] at h1; rw [IntKind.wrap_i64]; omega) 7 (t : Int) 128 (by omega) (by rw [e2]; omega) (by rw [two63]; omega) (by decide) (by decide) (by decide)]
  omega
theorem byteV_nat (n : Nat) (h : n < 256) : byteV (UInt8.ofNat n) = .int .u8 n := by unfold byteV; rw [toNat_ofNat n h]

set_option maxHeartbeats 1000000 in
theorem vput_nat (n : Nat) (w : World) (hn : n ≤ 9223372036854775807) : Calls Try.prog 133 #[.int .i64 n] w fun e w' => e = .returned (.string ⟨(encV n).toArray⟩) ∧ Pure' w w' := by
  obtain ⟨i0, hi, hz0, hz1, hz2⟩ := info_parts u8info2
  have hs9 : sizeL n ≤ 9 := sizeL_le 9 _ (by have : (128 : Nat) ^ 9 = 9223372036854775808 := by decide
                                             omega) (by omega)
  have HSP := Lib.hid sizeL_pos
  go_enter Try.func133, Try.ntmps133
  go_wp2_with (at_make; refine wpList_make_own _ rfl _ _ 82 rfl 0 5 i0 (.int .u8 0) 1 Try.underlying82 hi hz0 hz1 .i64 .i64 9 9 rfl rfl rfl ?b2 ?b3 ?b4 ?k)
  case b2 => rw [hz2]; decide
  case b3 => unfold maxLen; decide
  case b4 => exact Nat.zero_le _
  case k =>
    intro w1 hr1 hg1
    have HO := Lib.hid (Own.made (Keeps.refl (fun _ => False) w) hr1 hg1)
    clear hr1 hg1
    go_wp2
    go_loopw [0, 3] (fun v0 v3 wr => ∃ (t : Nat) (acc : List UInt8) (b cp : Nat), t ≤ n ∧ v0 = .int .i64 t ∧ v3 = .slice (some ⟨b, 0, none⟩) acc.length cp ∧ acc.length + sizeL t = sizeL n ∧ Hid (acc ++ encV t = encV n) ∧ Own w wr 5 1 (.slice (some ⟨b, 0, none⟩) acc.length cp) acc.length (acc.map byteV)) (fun v0 _ _ => (intOf v0).toNat)
    case atStart => exact ⟨n, [], _, 9, Nat.le_refl _, rfl, rfl, by simp, Lib.hid rfl, HO.out⟩
    case round =>
      obtain ⟨t, acc, b, cp, ht, rfl, rfl, hsz, HE, hown⟩ := hrel
      have HOW := Lib.hid hown
      clear hown
      by_cases hlt : 127 < t
      · obtain ⟨x, hx⟩ : ∃ x, x = t % 128 := ⟨_, rfl⟩
        have hxl : x < 128 := by omega
        have hand : bits .and .i64 (t : Int) 127 = (x : Int) := by rw [hx]; exact and_127 t (by omega)
        have hor : bits .or .i64 (x : Int) 128 = (x : Int) + 128 := by rw [or_128 x hxl]; omega
        have hm : ((x : Int) + 128) % 256 = (x : Int) + 128 := by omega
        have HZ := Lib.hid (sizeL_big (show ¬ t < 128 by omega))
        have HEB := Lib.hid (encV_big (show ¬ t < 128 by omega))
        rw [← hx] at HEB
        have HV := Lib.hid (byteV_nat (x + 128) (by omega))
        have hp := HSP.out (t / 128)
        have hz := HZ.out
        clear hx
        go_wp2_with (at_builtin; refine wpl_append _ rfl (.tmp 11) (.tmp 16) 82 rfl 5 i0 (.int .u8 0) 1 1 Try.underlying82 hi hz0 hz1 hz2 rfl (by decide) (.slice (some ⟨b, 0, none⟩) acc.length cp) acc.length (acc.map byteV) rfl ?own ⟨wr.heap.size, 0, none⟩ 1 1 [.int .u8 ((x : Int) + 128)] rfl rfl ?news ?one (by decide) ?b1 ?b2 ?k)
        case own => exact (HOW.out.alloc _).row
        case news => exact news1
        case one => exact fun u hu => by simp at hu; subst hu; rfl
        case b1 => unfold maxLen; omega
        case b2 => omega
        case k =>
          intro b1 cap1 w2 hr2 hg2 hb2 hl2
          have HO2 := Lib.hid ((HOW.out.alloc (.cells #[.int .u8 ((x : Int) + 128)] 5)).app hr2 hg2 (hb2.imp id (fun e => by rw [e, alloc_size])))
          clear hr2 hg2 hb2
          go_wp2
          go_roundw
          case rel =>
            refine ⟨t / 128, acc ++ [UInt8.ofNat (x + 128)], b1, cap1, by omega, by go_num, by simp, by simp; omega, Lib.hid ?_, ?_⟩
            · rw [← HE.out, HEB.out, List.append_assoc]; rfl
            · have h := HO2.out
              rw [List.map_append, List.map_cons, List.map_nil, HV.out, show (((x + 128 : Nat)) : Int) = (x : Int) + 128 by omega, List.length_append]
              exact h
          case measure => simp [intOf] <;> omega
      · have hcl : (t : Int) % 256 = (t : Int) := by omega
        have HZ := Lib.hid (encV_small (show t < 128 by omega))
        have HV := Lib.hid (byteV_nat t (by omega))
        have hp := HSP.out t
        go_wp2_with (at_builtin; refine wpl_append _ rfl (.tmp 18) (.tmp 21) 82 rfl 5 i0 (.int .u8 0) 1 1 Try.underlying82 hi hz0 hz1 hz2 rfl (by decide) (.slice (some ⟨b, 0, none⟩) acc.length cp) acc.length (acc.map byteV) rfl ?own ⟨wr.heap.size, 0, none⟩ 1 1 [.int .u8 (t : Int)] rfl rfl ?news ?one (by decide) ?b1 ?b2 ?k)
        case own => exact (HOW.out.alloc _).row
        case news => exact news1
        case one => exact fun u hu => by simp at hu; subst hu; rfl
        case b1 => unfold maxLen; omega
        case b2 => omega
        case k =>
          intro b1 cap1 w2 hr2 hg2 hb2 hl2
          have ho2 := (HOW.out.alloc (.cells #[.int .u8 (t : Int)] 5)).app hr2 hg2 (hb2.imp id (fun e => by rw [e, alloc_size]))
          have hE : acc ++ [UInt8.ofNat t] = encV n := by rw [← HE.out, HZ.out]
          have hr : Row w2 5 1 (.slice (some ⟨b1, 0, none⟩) (acc.length + 1) cap1) (acc.length + 1) ((acc ++ [UInt8.ofNat t]).map byteV) := by
            have h := ho2.row
            rw [List.map_append, List.map_cons, List.map_nil, HV.out]
            exact h
          rw [hE] at hr
          have hcv := conv_row Try.underlying82 Try.underlying5 Try.underlying9 hr
          have HO2 := Lib.hid ho2.pure
          clear hr2 hg2 hb2 ho2 hr hE
          go_wp2
          go_ret
          exact ⟨rfl, HO2.out⟩
theorem vput_ (n : Int) (w : World) (h1 : -9223372036854775808 ≤ n) (h2 : n ≤ 9223372036854775807) : Calls Try.prog 133 #[.int .i64 n] w fun e w' => e = .returned (.string ⟨(encZ n).toArray⟩) ∧ Pure' w w' := by
  by_cases h : n < 0
  · have HV : Hid (encZ n = []) := Lib.hid (by unfold encZ; rw [if_pos h])
    go_enter Try.func133, Try.ntmps133
    go_wp2
    go_ret
    rw [HV.out]
    exact ⟨rfl, Keeps.refl _ _⟩
  · obtain ⟨k, rfl⟩ := Int.eq_ofNat_of_zero_le (show 0 ≤ n by omega)
    have hv : encZ (k : Int) = encV k := by unfold encZ; rw [if_neg h]; rfl
    rw [hv]
    exact vput_nat k w (by omega)
end Go.Proofs.Ytdapjfnpnmejnaa
