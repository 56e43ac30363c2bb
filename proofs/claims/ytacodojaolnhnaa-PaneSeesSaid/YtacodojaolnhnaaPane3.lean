import Derived.Test.YtacodojaolnhnaaPane2
namespace Go.Proofs.Ytacodojaolnhnaa
open Go.RowKit
set_option linter.unusedVariables false
set_option linter.unusedSimpArgs false
set_option maxRecDepth 100000
attribute [local go_sem] gmax2 gmin2 gmax_two gmin_two

theorem do_refuse (gone rest : List UInt8) (closed : Bool) (k n : Int) (s : ByteArray) (w : World) (hk : k = 0 ∨ k = 1) (hc : closed = true ∨ (closed = false ∧ rest ≠ [])) :
    Calls Try.prog 58 #[.agg #[.string (str gone), .string (str rest), .bool closed], .agg #[.int .i64 k, .int .i64 n, .string s]] w fun e w' =>
      e = .returned (.tuple #[.agg #[.string (str gone), .string (str rest), .bool closed], .int .i64 12, .bool false]) ∧ Pure' w w' := by
  have hemp : (str rest).toList.isEmpty = rest.isEmpty := str_empty rest
  rcases hc with rfl | ⟨rfl, hne⟩
  · clear hemp
    rcases hk with rfl | rfl <;>
    · go_enter Try.func58, Try.ntmps58
      go_wp2
      refine bodyPost_ret (v := .tuple #[.agg #[.string (str gone), .string (str rest), .bool true], .int .i64 12, .bool false]) (by simp [results, Try.results58, go_sem]) rfl ⟨rfl, ?_⟩
      repeat (with_reducible first | exact Keeps.refl _ _ | apply Keeps.alloc | refine Keeps.drewN ?_ _)
  · have he : (str rest).toList.isEmpty = false := by rw [hemp]; cases rest with | nil => exact absurd rfl hne | cons _ _ => rfl
    clear hemp hne
    rcases hk with rfl | rfl <;>
    · go_enter Try.func58, Try.ntmps58
      go_wp2
      refine bodyPost_ret (v := .tuple #[.agg #[.string (str gone), .string (str rest), .bool false], .int .i64 12, .bool false]) (by simp [results, Try.results58, go_sem]) rfl ⟨rfl, ?_⟩
      repeat (with_reducible first | exact Keeps.refl _ _ | apply Keeps.alloc | refine Keeps.drewN ?_ _)

theorem do_offer (gone : List UInt8) (n : Int) (s : ByteArray) (w : World) :
    Calls Try.prog 58 #[.agg #[.string (str gone), .string (str []), .bool false], .agg #[.int .i64 0, .int .i64 n, .string s]] w fun e w' =>
      e = .returned (.tuple #[.agg #[.string (str gone), .string s, .bool false], .int .i64 0, .bool false]) ∧ Pure' w w' := by
  have he : (str []).toList.isEmpty = true := str_empty []
  go_enter Try.func58, Try.ntmps58
  go_wp2
  refine bodyPost_ret (v := .tuple #[.agg #[.string (str gone), .string s, .bool false], .int .i64 0, .bool false]) (by simp [results, Try.results58, go_sem]) rfl ⟨rfl, ?_⟩
  repeat (with_reducible first | exact Keeps.refl _ _ | apply Keeps.alloc | refine Keeps.drewN ?_ _)

theorem do_close (gone : List UInt8) (n : Int) (s : ByteArray) (w : World) :
    Calls Try.prog 58 #[.agg #[.string (str gone), .string (str []), .bool false], .agg #[.int .i64 1, .int .i64 n, .string s]] w fun e w' =>
      e = .returned (.tuple #[.agg #[.string (str gone), .string (str []), .bool true], .int .i64 0, .bool false]) ∧ Pure' w w' := by
  have he : (str []).toList.isEmpty = true := str_empty []
  go_enter Try.func58, Try.ntmps58
  go_wp2
  refine bodyPost_ret (v := .tuple #[.agg #[.string (str gone), .string (str []), .bool true], .int .i64 0, .bool false]) (by simp [results, Try.results58, go_sem]) rfl ⟨rfl, ?_⟩
  repeat (with_reducible first | exact Keeps.refl _ _ | apply Keeps.alloc | refine Keeps.drewN ?_ _)

set_option maxHeartbeats 1000000 in
theorem do_move (gone rest : List UInt8) (closed : Bool) (k n nn : Int) (s : ByteArray) (m : Nat) (ok : Bool) (w : World) (hg : gone.length + rest.length < 1000000000000) (hn : -9223372036854775808 ≤ n ∧ n ≤ 9223372036854775807)
    (hk : (k = 2 ∧ nn = 1) ∨ (k = 3 ∧ ((n < 0 ∧ nn = 0) ∨ (0 ≤ n ∧ nn = n - gone.length)))) (hm : (nn ≤ rest.length ∧ (m : Int) = max nn 0 ∧ ok = true) ∨ (rest.length < nn ∧ m = rest.length ∧ ok = false)) :
    Calls Try.prog 58 #[.agg #[.string (str gone), .string (str rest), .bool closed], .agg #[.int .i64 k, .int .i64 n, .string s]] w fun e w' =>
      e = .returned (.tuple #[.agg #[.string (str (gone ++ rest.take m)), .string (str (rest.drop m)), .bool closed], .int .i64 0, .bool ok]) ∧ Pure' w w' := by
  have hs1 : (str gone).size = gone.length := str_size gone
  have hs2 : (str rest).size = rest.length := str_size rest
  have hx : str gone ++ (str rest).extract 0 m = str (gone ++ rest.take m) := by
    apply bytes_eq
    rw [str_data]
    simp [ByteArray.extract, ByteArray.copySlice, str_data]
  have hy : (str rest).extract m (str rest).size = str (rest.drop m) := str_drop rest m
  have hmr : m ≤ (str rest).size := by omega
  have HX := Lib.hid hx
  have HY := Lib.hid hy
  have HG := Lib.hid (Eq.refl (str gone))
  have HR := Lib.hid (Eq.refl (str rest))
  rw [← hs1, ← hs2] at hg
  rw [← hs2] at hm
  rw [← hs1] at hk
  clear hx hy hs1 hs2
  have hcases : (k = 2 ∧ n < 0 ∧ (1 : Int) ≤ (str rest).size ∧ m = 1 ∧ ok = true) ∨ (k = 2 ∧ 0 ≤ n ∧ (1 : Int) ≤ (str rest).size ∧ m = 1 ∧ ok = true) ∨ (k = 2 ∧ n < 0 ∧ ((str rest).size : Int) < 1 ∧ m = (str rest).size ∧ ok = false) ∨ (k = 2 ∧ 0 ≤ n ∧ ((str rest).size : Int) < 1 ∧ m = (str rest).size ∧ ok = false) ∨
      (k = 3 ∧ n < 0 ∧ m = 0 ∧ ok = true) ∨ (k = 3 ∧ 0 ≤ n ∧ n - (str gone).size < 0 ∧ n - (str gone).size ≤ (str rest).size ∧ m = 0 ∧ ok = true) ∨ (k = 3 ∧ 0 ≤ n ∧ 0 ≤ n - (str gone).size ∧ n - (str gone).size ≤ (str rest).size ∧ m = (n - (str gone).size).toNat ∧ ok = true) ∨ (k = 3 ∧ 0 ≤ n ∧ ((str rest).size : Int) < n - (str gone).size ∧ m = (str rest).size ∧ ok = false) := by
    generalize (str gone).size = G at *
    generalize (str rest).size = R at *
    rcases hk with ⟨rfl, rfl⟩ | ⟨rfl, ⟨h1, rfl⟩ | ⟨h1, rfl⟩⟩ <;> rcases hm with ⟨h2, h3, rfl⟩ | ⟨h2, rfl, rfl⟩ <;> (first | (exfalso; omega) | (simp; omega))
  clear hk hm hmr
  rcases hcases with ⟨rfl, h1, h2, rfl, rfl⟩ | ⟨rfl, h1, h2, rfl, rfl⟩ | ⟨rfl, h1, h2, rfl, rfl⟩ | ⟨rfl, h1, h2, rfl, rfl⟩ | ⟨rfl, h1, rfl, rfl⟩ | ⟨rfl, h1, h2, h3, rfl, rfl⟩ | ⟨rfl, h1, h2, h3, rfl, rfl⟩ | ⟨rfl, h1, h2, rfl, rfl⟩
  all_goals
    generalize str gone = G at *
    generalize str rest = R at *
    have hnn : ¬ ((R.size : Int) < 0) := by omega
    try have hd1 : decide ((1 : Int) ≤ (R.size : Int)) = false := decide_eq_false (by omega)
    try have hd2 : decide (n - (G.size : Int) ≤ (R.size : Int)) = false := decide_eq_false (by omega)
    go_enter Try.func58, Try.ntmps58
    go_wp2
    refine region_tail 8 (by kernel_rfl) (by kernel_rfl) ?_
    simp only [List.take_succ_cons, List.take_zero, List.drop_succ_cons, List.drop_zero]
    repeat (refine wpStill_step (fun K hK => ?_); go_simp; (try ((first | rw [if_neg (by omega)] | rw [if_pos (by omega)]); go_simp)); refine hK _ ?_; clear hK K)
    refine wpStill_nil ?_
    go_wp2
    refine bodyPost_ret (v := .tuple #[.agg #[.string (str (gone ++ rest.take _)), .string (str (rest.drop _)), .bool closed], .int .i64 0, .bool _]) ?h rfl ⟨rfl, ?_⟩
    case h =>
      rw [← HX.out, ← HY.out]
      simp [results, Try.results58, go_sem]
      try omega
    repeat (with_reducible first | exact Keeps.refl _ _ | apply Keeps.alloc | refine Keeps.drewN ?_ _ | apply Keeps.drew)
end Go.Proofs.Ytacodojaolnhnaa
