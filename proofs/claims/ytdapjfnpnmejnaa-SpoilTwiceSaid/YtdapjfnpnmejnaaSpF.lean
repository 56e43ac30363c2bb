/- The record with which bytes begin, by the program: as the plain law tells it; no condition but the sizes. -/
import Derived.Test.YtdapjfnpnmejnaaSpE
namespace Go.Proofs.Ytdapjfnpnmejnaa
open Go.RowKit Go.Proofs.YtdapjfnpnmejnaaW.PrintWords Go.Proofs.Ytdapjfnpnmejnaa.GB
set_option linter.unusedVariables false
set_option linter.unusedSimpArgs false
set_option maxRecDepth 100000

set_option maxHeartbeats 1000000 in
theorem rectake_none (s : ByteArray) (w : World) (hne : (s.toList == []) = true) : Calls Try.prog 151 #[.string s] w fun e w' => RTakePost (0, 0, 0, [], 0, 4) w e w' := by
  go_enter Try.func151, Try.ntmps151
  go_wp2
  refine bodyPost_ret (v := .tuple #[.agg #[.int .i64 0, .int .i64 0, .int .i64 0, .slice none 0 0], .int .i64 0, .int .i64 4]) (by simp [results, Try.results151, go_sem]) rfl ⟨_, rfl, Kd.R_nil _ _ _ _ _, ?_⟩
  refine Keeps.pure ?_
  repeat (with_reducible first | exact Keeps.refl _ _ | refine Keeps.drewN ?_ _ | refine Keeps.drew ?_ | refine Keeps.alloc ?_ _ | refine Keeps.setCell ?_ (.inr (Nat.le_refl _)) _)

theorem size_list (s : ByteArray) : s.size = s.data.toList.length := by rw [Array.length_toList]; rfl
theorem first_byte {s : ByteArray} {c : UInt8} {t : List UInt8} (h : s.data.toList = c :: t) : 0 < s.size ∧ (∀ h : 0 < s.size, ((s[0]'h).toNat : Int) = (c.toNat : Int)) ∧ (s.toList == []) = false ∧ s.data.toList.drop 1 = t := by
  have hz : s.size = (c :: t).length := by rw [← h, size_list]
  refine ⟨by rw [hz]; simp, fun h0 => ?_, ?_, by rw [h]; rfl⟩
  · have e : s[0]'h0 = s.data.toList[0]'(by rw [← size_list]; exact h0) := rfl
    rw [e]
    congr 2
    simp only [h]
    rfl
  · rw [ByteArray.toList_eq, h]; rfl

theorem rectake_ (s : ByteArray) (w : World) (hs : s.size ≤ 1000000) : Calls Try.prog 151 #[.string s] w fun e w' => RTakePost (recTup (recT s.data.toList)) w e w' := by
  cases hl : s.data.toList with
  | nil => exact rectake_none s w (by rw [ByteArray.toList_eq, hl]; rfl)
  | cons c t =>
    obtain ⟨h0, hx, hne, hd⟩ := first_byte hl
    have hc := c.toNat_lt
    have hw : wrap64 (c.toNat : Int) = (c.toNat : Int) := by rw [wrap_in (by omega) (by omega)]
    rw [recT]
    by_cases h1 : c.toNat < 1 ∨ 6 < c.toNat
    · rw [if_pos h1]
      exact rectake_form s c.toNat w hs h0 hx hne hw (by omega)
    rw [if_neg h1]
    by_cases h2 : c.toNat = 4
    · rw [if_pos h2]
      have hx4 : ∀ h : 0 < s.size, ((s[0]'h).toNat : Int) = 4 := fun h => by rw [hx h, h2]; rfl
      cases hi : idsT t with
      | ok p =>
        obtain ⟨l, z⟩ := p
        obtain ⟨k, hk⟩ := list_ok (s := s) (at_ := 1) hs (by omega) (by rw [hd]; exact hi)
        have h := rectake_list s l _ 0 k w hs h0 hx4 hne hk
        rw [if_pos rfl] at h
        exact h
      | error e =>
        obtain ⟨he, k, l', a', hk⟩ := list_err (s := s) (at_ := 1) hs (by omega) (by rw [hd]; exact hi)
        have h := rectake_list s l' a' e k w hs h0 hx4 hne hk
        rw [if_neg he] at h
        exact h
    rw [if_neg h2]
    obtain ⟨least, hleast, hpath⟩ : ∃ least : Nat, least = (if c.toNat ≤ 3 then 1 else 0) ∧ ∀ n1 a1 e1 n2 a2 e2 : Int, record_taker_offset.f s 1 0 (least : Int) = some (n1, s, a1, e1) → record_taker_offset.f s a1 e1 (least : Int) = some (n2, s, a2, e2) →
        Calls Try.prog 151 #[.string s] w fun e w' => RTakePost (if e2 = 0 then ((c.toNat : Int), n1, n2, [], a2, 0) else (0, 0, 0, [], 0, e2)) w e w' := by
      by_cases h3 : c.toNat ≤ 3
      · exact ⟨1, by rw [if_pos h3], fun n1 a1 e1 n2 a2 e2 g1 g2 => rectake_three s c.toNat n1 a1 e1 n2 a2 e2 w hs h0 hx hw hne (by omega) (by omega) g1 g2⟩
      · exact ⟨0, by rw [if_neg h3], fun n1 a1 e1 n2 a2 e2 g1 g2 => rectake_last s c.toNat n1 a1 e1 n2 a2 e2 w hs h0 hx hw hne (by omega) (by omega) g1 g2⟩
    rw [← hleast]
    have hl1 : least ≤ 1 := by rw [hleast]; split <;> omega
    unfold pairT
    cases ho : offT least t with
    | error e =>
      obtain ⟨he, n1, a1, g1⟩ := off_err (s := s) (at_ := 1) hl1 hs (by omega) (by rw [hd]; exact ho)
      obtain ⟨n2, g2⟩ := off_stop (s := s) he least a1
      have h := hpath _ _ _ _ _ _ g1 g2
      rw [if_neg he] at h
      exact h
    | ok p =>
      obtain ⟨n, z⟩ := p
      have hb := (takeV_bound (offT_inv ho).1).2.2.2
      have hz : 1 + z ≤ s.size := by
        have hz1 : s.size = (c :: t).length := by rw [← hl, size_list]
        rw [hz1]; simp; omega
      have g1 := off_ok (s := s) (at_ := 1) hl1 hs (by omega) (by rw [hd]; exact ho)
      have hd2 : s.data.toList.drop (1 + z) = t.drop z := by rw [← hd, List.drop_drop]
      simp only
      cases ho2 : offT least (t.drop z) with
      | error e =>
        obtain ⟨he, n2, a2, g2⟩ := off_err (s := s) (at_ := 1 + z) hl1 hs hz (by rw [hd2]; exact ho2)
        have h := hpath _ _ _ _ _ _ g1 g2
        rw [if_neg he] at h
        exact h
      | ok p2 =>
        obtain ⟨r, z2⟩ := p2
        have g2 := off_ok (s := s) (at_ := 1 + z) hl1 hs hz (by rw [hd2]; exact ho2)
        have h := hpath _ _ _ _ _ _ g1 g2
        rw [if_pos rfl] at h
        rw [show 1 + z + z2 = 1 + (z + z2) by omega] at h
        exact h
end Go.Proofs.Ytdapjfnpnmejnaa
