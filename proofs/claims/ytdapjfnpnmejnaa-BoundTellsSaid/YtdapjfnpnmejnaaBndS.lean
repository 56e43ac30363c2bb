/- The example of chapter 40, by the law's text; no condition. -/
import Derived.Test.YtdapjfnpnmejnaaBndR
namespace Go.Proofs.Ytdapjfnpnmejnaa
open Go.RowKit
set_option linter.unusedVariables false
set_option linter.unusedSimpArgs false
set_option maxRecDepth 100000

theorem ex_cert : certR 10 2 1 5 = .tuple #[.int .i64 104, .int .i64 0] := by rfl
theorem ex_cert0 : certR 0 0 0 0 = .tuple #[.int .i64 0, .int .i64 2] := by rfl
theorem ex_exact : exactV 1 300 1 [] = 4 := by
  unfold exactV
  rw [if_neg (by decide)]
  unfold szV
  rw [if_neg (by decide), if_neg (by decide), show (300 : Int).toNat = 300 from rfl, show (1 : Int).toNat = 1 from rfl, sizeL_big (by decide), sizeL_small (n := 300 / 128) (by decide), sizeL_small (n := 1) (by decide)]
set_option maxHeartbeats 1000000 in
theorem awake_ (w : World) : Calls Try.prog 13 #[] w fun e w' => e = .returned (.bool true) ∧ Pure' w w' := by
  have HC := Lib.hid (fun w => by have := cert_ 10 2 1 5 w (by decide) (by decide) (by decide) (by decide); rw [ex_cert] at this; exact this)
  have HC0 := Lib.hid (fun w => by have := cert_ 0 0 0 0 w (by decide) (by decide) (by decide) (by decide); rw [ex_cert0] at this; exact this)
  have HX := Lib.hid (fun w => by have := exact_ 1 300 1 none 0 0 0 [] w (Sees.nil _ _ _ _) (Nat.zero_le _) (by decide) (by decide) (by decide) (by decide); rw [ex_exact] at this; exact this)
  go_enter Try.func13, Try.ntmps13
  go_wp2_with fail
  refine (HC.out _).mono ?_
  rintro e w1 ⟨rfl, hk1⟩
  have HP1 := Lib.hid hk1
  clear hk1
  go_wp2_with fail
  refine (HC0.out _).mono ?_
  rintro e w2 ⟨rfl, hk2⟩
  have HP2 := Lib.hid (HP1.out.then_ hk2)
  clear hk2
  go_wp2_with fail
  refine (HX.out _).mono ?_
  rintro e w3 ⟨rfl, hk3⟩
  have HP3 := Lib.hid (HP2.out.then_ hk3)
  clear hk3
  go_wp2
  go_ret
  exact ⟨rfl, HP3.out⟩
end Go.Proofs.Ytdapjfnpnmejnaa
