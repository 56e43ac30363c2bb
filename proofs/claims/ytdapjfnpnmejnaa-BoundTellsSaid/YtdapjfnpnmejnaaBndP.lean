/- A number written, by the reference: how many bytes it has; no condition but that the number is an int. -/
import Derived.Test.YtdapjfnpnmejnaaBndO
namespace Go.Proofs.Ytdapjfnpnmejnaa
open Go.RowKit
set_option linter.unusedVariables false
set_option linter.unusedSimpArgs false
set_option maxRecDepth 100000

theorem conv_one (W : World) (g : Nat) (v : Int) (h : W.cell? ⟨g, 0, none⟩ = some (.int .u8 v)) : (convert 82 9 (.slice (some ⟨g, 0, none⟩) 1 1)).run Try.prog W = .ok (.string (strOfNums [v])) W :=
  run_convert_bytes_arg W 82 5 Try.underlying82 Try.underlying5 g 0 1 1 [v] rfl (fun i hi => by
    obtain rfl : i = 0 := by omega
    exact h) 9 Try.underlying9
theorem one_size (v : Int) : (strOfNums [v]).size = 1 := rfl
theorem new_cell (W : World) (v : Value) (t : TypeId) : (W.alloc (.cells #[v] t)).cell? ⟨W.heap.size, 0, none⟩ = some v := (Blk.new W t #[v]).cell 0
def RPutPost (n : Nat) (w : World) (e : Ending) (w' : World) : Prop := ∃ s : ByteArray, e = .returned (.string s) ∧ s.size = n ∧ Pure' w w'
set_option maxHeartbeats 1000000 in
theorem rput_nat (n : Nat) : ∀ w : World, n ≤ 9223372036854775807 → Calls Try.prog 59 #[.int .i64 n] w fun e w' => RPutPost (sizeL n) w e w' := by
  induction n using Nat.strongRecOn with
  | _ n ih =>
  intro w hn
  by_cases h : n < 128
  · have HL := Lib.hid (sizeL_small h)
    clear ih
    go_enter Try.func59, Try.ntmps59
    have hcv := conv_one _ _ (n : Int) (new_cell w (.int .u8 (n : Int)) 5)
    go_wp2
    go_ret
    exact ⟨_, rfl, by rw [HL.out]; rfl, (Keeps.refl _ w).alloc _⟩
  · have HIH := Lib.hid (fun w => ih (n / 128) (by omega) w (by omega))
    have HL := Lib.hid (sizeL_big h)
    have hs9 : sizeL (n / 128) ≤ 8 := sizeL_le 8 _ (by omega) (by omega)
    clear ih
    generalize hq : n / 128 = q at *
    generalize sizeL q = z at *
    have hcx : (n : Int) / 128 = q := by omega
    have hcd : (n : Int).tdiv 128 = q := by rw [Int.tdiv_eq_ediv_of_nonneg (by omega)]; omega
    obtain ⟨b, hb, hb2⟩ : ∃ b : Nat, (n : Int).tmod 128 = b ∧ b < 128 := ⟨n % 128, by rw [Int.tmod_eq_emod_of_nonneg (by omega)]; omega, by omega⟩
    have hw0 : IntKind.i64.wrap (q : Int) = q := IntWalk.i64_in _ ⟨by omega, by omega⟩
    have hw1 : IntKind.i64.wrap ((b : Int) + 128) = (b : Int) + 128 := IntWalk.i64_in _ ⟨by omega, by omega⟩
    have hw2 : IntKind.i64.wrap (b : Int) = (b : Int) := IntWalk.i64_in _ ⟨by omega, by omega⟩
    have hw3 : IntKind.u8.wrap ((b : Int) + 128) = (b : Int) + 128 := by rw [IntKind.wrap_u8]; omega
    have hcv : ∀ W : World, (convert 82 9 (.slice (some ⟨W.heap.size, 0, none⟩) 1 1)).run Try.prog (W.alloc (.cells #[.int .u8 ((b : Int) + 128)] 5)) = .ok (.string (strOfNums [(b : Int) + 128])) (W.alloc (.cells #[.int .u8 ((b : Int) + 128)] 5)) := fun W => conv_one _ _ _ (new_cell W (.int .u8 ((b : Int) + 128)) 5)
    have hcw : (convert 82 9 (.slice (some ⟨w.heap.size, 0, none⟩) 1 1)).run Try.prog (w.alloc (.cells #[.int .u8 ((b : Int) + 128)] 5)).drew = .ok (.string (strOfNums [(b : Int) + 128])) (w.alloc (.cells #[.int .u8 ((b : Int) + 128)] 5)).drew := conv_one _ _ _ (new_cell w (.int .u8 ((b : Int) + 128)) 5)
    have HC2 := Lib.hid (fun (w1 : World) (hk : Pure' (w.alloc (.cells #[.int .u8 ((b : Int) + 128)] 5)).drew w1) => conv_one w1 w.heap.size ((b : Int) + 128) ((World.cell?_of_block (hk.block w.heap.size (by show w.heap.size < (w.heap.push _).size; rw [Array.size_push]; omega) (fun hf => hf))).trans (new_cell w (.int .u8 ((b : Int) + 128)) 5)))
    have hos := one_size ((b : Int) + 128)
    generalize strOfNums [(b : Int) + 128] = s1 at *
    have HP0 := Lib.hid ((Keeps.refl (fun _ => False) w).drewN 1)
    have HP1 := Lib.hid (((Keeps.refl (fun _ => False) w).alloc (.cells #[.int .u8 ((b : Int) + 128)] 5)).drewN 1)
    clear hcx
    go_enter Try.func59, Try.ntmps59
    go_wp2
    go_region_with (go_at_call 59; refine (HIH.out _).mono ?_; rintro e w1 ⟨s, rfl, hsz, hk⟩; first | (have HP2 := Lib.hid (HP0.out.then_ hk); clear hk) | (have hc2 := HC2.out w1 hk; have HP2 := Lib.hid (HP1.out.then_ hk); clear hk))
    all_goals go_wp2
    all_goals go_ret
    all_goals exact ⟨_, rfl, by rw [HL.out, ByteArray.size_append, hos, hsz], by first | exact HP2.out | exact HP2.out.alloc _⟩

set_option maxHeartbeats 1000000 in
theorem rput_ (n : Int) (w : World) (h1 : -9223372036854775808 ≤ n) (h2 : n ≤ 9223372036854775807) : Calls Try.prog 59 #[.int .i64 n] w fun e w' => RPutPost (szV n) w e w' := by
  by_cases h : n < 0
  · have HV : Hid (szV n = 0) := Lib.hid (by unfold szV; rw [if_pos h])
    go_enter Try.func59, Try.ntmps59
    go_wp2
    go_ret
    exact ⟨_, rfl, by rw [HV.out]; rfl, Keeps.refl _ _⟩
  · obtain ⟨k, rfl⟩ := Int.eq_ofNat_of_zero_le (show 0 ≤ n by omega)
    have hv : szV (k : Int) = sizeL k := by unfold szV; rw [if_neg h]; rfl
    rw [hv]
    exact rput_nat k w (by omega)
end Go.Proofs.Ytdapjfnpnmejnaa
