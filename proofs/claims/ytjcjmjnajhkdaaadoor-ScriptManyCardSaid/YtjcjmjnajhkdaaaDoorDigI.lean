/- The form of a number's text, by the reference; no condition but the sizes. -/
import Derived.Test.YtjcjmjnajhkdaaaDoorDigF
namespace Go.Proofs.YtjcjmjnajhkdaaaDoor
open Go.RowKit
set_option linter.unusedVariables false
set_option linter.unusedSimpArgs false
set_option maxRecDepth 100000

theorem byte_at {s : List UInt8} {k : Nat} {c : UInt8} (h : s[k]? = some c) : ∀ h', (⟨s.toArray⟩ : ByteArray)[k]'h' = c := by
  intro h'
  have hl := (List.getElem?_eq_some_iff.1 h).1
  rw [List.getElem?_eq_getElem hl] at h
  injection h
theorem ne48 (c : UInt8) : (c != 48) = ((c.toNat : Int) != 48) := by
  by_cases h : c = 48
  · subst h; rfl
  · have : c.toNat ≠ 48 := fun e => h (UInt8.toNat_inj.1 e)
    have h1 : (c != 48) = true := by simpa using h
    rw [h1]; symm; simp; omega
theorem all_from {s : List UInt8} {f n : Nat} (hn : s.length = n) (h : ∀ j c, f ≤ j → j < n → s[j]? = some c → isD c = true) : (s.drop f).all isD = true := by
  refine List.all_eq_true.2 fun c hc => ?_
  obtain ⟨i, hi⟩ := List.mem_iff_getElem?.1 hc
  rw [List.getElem?_drop] at hi
  exact h (f + i) c (by omega) (by have := (List.getElem?_eq_some_iff.1 hi).1; omega) hi
theorem not_all {s : List UInt8} {f k : Nat} {c : UInt8} (hk : s[k]? = some c) (hf : f ≤ k) (hc : isD c = false) : (s.drop f).all isD = false := by
  cases h : (s.drop f).all isD with
  | false => rfl
  | true =>
    have hm : c ∈ s.drop f := List.mem_iff_getElem?.2 ⟨k - f, by rw [List.getElem?_drop, show f + (k - f) = k by omega]; exact hk⟩
    have := List.all_eq_true.1 h c hm
    rw [hc] at this; cases this
theorem form_all {s : List UInt8} (h : (stripD s).all isD = false) : formB s = false := by unfold formB; rw [h]; rfl

set_option maxHeartbeats 2000000 in
theorem rform_ (s : List UInt8) (w : World) (hs : s.length ≤ 1000000) : Calls Tryd.prog 70 #[.string ⟨s.toArray⟩] w fun e w' => e = .returned (.bool (formB s)) ∧ w = w' := by
  cases s with
  | nil =>
    go_enter Tryd.func70, Tryd.ntmps70
    go_wp2
    go_loopw [4] (fun v4 wr => v4 = .int .i64 0 ∧ wr = w) (fun _ _ => 0)
    case atStart => exact ⟨rfl, rfl⟩
    case round =>
      obtain ⟨rfl, rfl⟩ := hrel
      go_wp2
      go_ret
      exact ⟨rfl, rfl⟩
  | cons a r =>
    have h0 := byte_at (s := a :: r) (k := 0) rfl
    have hal := a.toNat_lt
    have hsz : ((⟨(a :: r).toArray⟩ : ByteArray)).size = (a :: r).length := by simp [ByteArray.size]
    have hlen : (a :: r).length = r.length + 1 := rfl
    by_cases ha : a = 45
    · have hst : stripD (a :: r) = (a :: r).drop 1 := by subst ha; rfl
      have t0 : ((a.toNat : Int) == 45) = true := by subst ha; rfl
      have HST := Lib.hid hst
      clear hst ha
      obtain ⟨s, hS⟩ : ∃ s, a :: r = s := ⟨_, rfl⟩
      rw [hS] at h0 hsz hs hlen HST ⊢
      have HS := Lib.hid hS
      clear hS
      generalize hn : s.length = n at *
      have HN := Lib.hid hn
      have HLEN := Lib.hid hlen
      have hn1 : 1 ≤ n := by omega
      clear hn hlen
      go_enter Tryd.func70, Tryd.ntmps70
      go_wp2
      go_loopw [4] (fun v4 wr => ∃ k : Nat, 1 ≤ k ∧ k ≤ n ∧ v4 = .int .i64 k ∧ (∀ j c, 1 ≤ j → j < k → s[j]? = some c → isD c = true) ∧ wr = w) (fun v4 _ => n - (intOf v4).toNat)
      case atStart => exact ⟨1, Nat.le_refl _, by omega, rfl, fun j c h1 h2 => by omega, rfl⟩
      case round =>
        obtain ⟨k, hfk, hk, rfl, hall, rfl⟩ := hrel
        have HA := Lib.hid hall
        clear hall
        by_cases hlt : k < n
        · obtain ⟨c, hdk⟩ : ∃ c, s[k]? = some c := ⟨_, List.getElem?_eq_getElem (by rw [HN.out]; exact hlt)⟩
          have hg := byte_at hdk
          have hcl := c.toNat_lt
          by_cases hD : isD c = true
          · have hb : 48 ≤ c.toNat ∧ c.toNat ≤ 57 := by simpa [isD] using hD
            obtain ⟨hb1, hb2⟩ := hb
            have HK := Lib.hid hdk
            have HDD := Lib.hid hD
            clear hdk hD
            go_wp2
            go_roundw
            case rel =>
              refine ⟨k + 1, by omega, by omega, by go_num, fun j c' h1 h2 h3 => ?_, trivial⟩
              by_cases hjk : j = k
              · subst hjk; have := HK.out.symm.trans h3; injection this with e; rw [← e]; exact HDD.out
              · exact HA.out j c' h1 (by omega) h3
            case measure => simp [intOf]; omega
          · have HF : Hid (formB s = false) := Lib.hid (form_all (by rw [HST.out]; exact not_all hdk hfk (by simpa using hD)))
            have hb : (c.toNat : Int) < 48 ∨ (57 : Int) < c.toNat := by
              simp [isD] at hD
              omega
            clear hdk hD
            rcases hb with hb | hb
            · go_wp2
              go_ret
              rw [HF.out]
              exact ⟨rfl, rfl⟩
            · have hb' : (48 : Int) ≤ c.toNat := by omega
              go_wp2
              go_ret
              rw [HF.out]
              exact ⟨rfl, rfl⟩
        · obtain rfl : k = n := by omega
          have hall := all_from HN.out HA.out
          have hF : formB s = (!(s.drop 1).isEmpty && ((s.drop 1).headD 0 != 48 || s == [48])) := by unfold formB; rw [HST.out, hall, Bool.true_and]
          cases hr : r with
          | nil =>
            have hk1 : k = 1 := by rw [HLEN.out, hr]; rfl
            have HF := Lib.hid hF
            have HF2 : Hid (formB s = false) := Lib.hid (by rw [HF.out, ← HS.out, hr]; rfl)
            subst hk1
            clear hF hr hall
            go_wp2
            go_ret
            rw [HF2.out]
            exact ⟨rfl, rfl⟩
          | cons c r2 =>
            have h1 := byte_at (s := s) (k := 1) (c := c) (by rw [← HS.out, hr]; rfl)
            have hcl := c.toNat_lt
            have hk1 : 2 ≤ k := by have := HLEN.out; rw [hr] at this; simp only [List.length_cons] at this; omega
            have HF2 : Hid (formB s = ((c.toNat : Int) != 48)) := Lib.hid (by
              rw [hF, ← HS.out, hr, ← ne48]
              have e : (a :: c :: r2 == [48]) = false := by simp
              rw [e]; simp)
            have hk2 : ((k : Int) == 1) = false := by simp; omega
            clear hF hr hall
            generalize hb1 : ((c.toNat : Int) != 48) = b1 at *
            cases b1 with
            | true =>
              go_wp2
              go_ret
              rw [HF2.out]
              exact ⟨rfl, rfl⟩
            | false =>
              go_wp2
              go_ret
              rw [HF2.out]
              exact ⟨rfl, rfl⟩

    · have hst : stripD (a :: r) = (a :: r).drop 0 := by rw [stripD, if_neg (by simpa using ha)]; rfl
      have t0 : ((a.toNat : Int) == 45) = false := by have : a.toNat ≠ 45 := fun e => ha (UInt8.toNat_inj.1 e); simp; omega
      have HST := Lib.hid hst
      clear hst ha
      obtain ⟨s, hS⟩ : ∃ s, a :: r = s := ⟨_, rfl⟩
      rw [hS] at h0 hsz hs hlen HST ⊢
      have HS := Lib.hid hS
      clear hS
      generalize hn : s.length = n at *
      have HN := Lib.hid hn
      have HLEN := Lib.hid hlen
      have hn1 : 1 ≤ n := by omega
      clear hn hlen
      go_enter Tryd.func70, Tryd.ntmps70
      go_wp2
      go_loopw [4] (fun v4 wr => ∃ k : Nat, 0 ≤ k ∧ k ≤ n ∧ v4 = .int .i64 k ∧ (∀ j c, 0 ≤ j → j < k → s[j]? = some c → isD c = true) ∧ wr = w) (fun v4 _ => n - (intOf v4).toNat)
      case atStart => exact ⟨0, Nat.le_refl _, by omega, rfl, fun j c h1 h2 => by omega, rfl⟩
      case round =>
        obtain ⟨k, hfk, hk, rfl, hall, rfl⟩ := hrel
        have HA := Lib.hid hall
        clear hall
        by_cases hlt : k < n
        · obtain ⟨c, hdk⟩ : ∃ c, s[k]? = some c := ⟨_, List.getElem?_eq_getElem (by rw [HN.out]; exact hlt)⟩
          have hg := byte_at hdk
          have hcl := c.toNat_lt
          by_cases hD : isD c = true
          · have hb : 48 ≤ c.toNat ∧ c.toNat ≤ 57 := by simpa [isD] using hD
            obtain ⟨hb1, hb2⟩ := hb
            have HK := Lib.hid hdk
            have HDD := Lib.hid hD
            clear hdk hD
            go_wp2
            go_roundw
            case rel =>
              refine ⟨k + 1, by omega, by omega, by go_num, fun j c' h1 h2 h3 => ?_, trivial⟩
              by_cases hjk : j = k
              · subst hjk; have := HK.out.symm.trans h3; injection this with e; rw [← e]; exact HDD.out
              · exact HA.out j c' h1 (by omega) h3
            case measure => simp [intOf]; omega
          · have HF : Hid (formB s = false) := Lib.hid (form_all (by rw [HST.out]; exact not_all hdk hfk (by simpa using hD)))
            have hb : (c.toNat : Int) < 48 ∨ (57 : Int) < c.toNat := by
              simp [isD] at hD
              omega
            clear hdk hD
            rcases hb with hb | hb
            · go_wp2
              go_ret
              rw [HF.out]
              exact ⟨rfl, rfl⟩
            · have hb' : (48 : Int) ≤ c.toNat := by omega
              go_wp2
              go_ret
              rw [HF.out]
              exact ⟨rfl, rfl⟩
        · obtain rfl : k = n := by omega
          have hall := all_from HN.out HA.out
          have hF : formB s = (!(s.drop 0).isEmpty && ((s.drop 0).headD 0 != 48 || s == [48])) := by unfold formB; rw [HST.out, hall, Bool.true_and]
          have HF2 : Hid (formB s = (((a.toNat : Int) != 48) || ((k : Int) == 1))) := Lib.hid (by
            rw [hF, ← HS.out, ← ne48]
            have e : (a :: r == [48]) = (!(a != 48) && ((k : Int) == 1)) := by
              cases r with
              | nil =>
                have : k = 1 := by rw [HLEN.out]; rfl
                rw [this]
                by_cases h : a = 48
                · subst h; rfl
                · have h1 : (a != 48) = true := by simpa using h
                  have h2 : ([a] == [48]) = false := by simpa using h
                  rw [h1, h2]; rfl
              | cons c r2 =>
                have : k ≠ 1 := by have := HLEN.out; simp only [List.length_cons] at this; omega
                have h2 : ((k : Int) == 1) = false := by simp; omega
                rw [h2]; simp
            rw [e]
            simp only [List.drop_zero, List.isEmpty_cons, List.headD_cons, Bool.not_false, Bool.true_and]
            generalize (a != 48) = x
            generalize ((k : Int) == 1) = y
            cases x <;> cases y <;> rfl)
          clear hF hall
          generalize hb1 : ((a.toNat : Int) != 48) = b1 at *
          cases b1 with
          | true =>
            go_wp2
            go_ret
            rw [HF2.out]
            exact ⟨rfl, rfl⟩
          | false =>
            by_cases hk1 : k = 1
            · have hk2 : ((k : Int) == 1) = true := by rw [hk1]; rfl
              rw [hk2] at HF2
              clear hk1
              go_wp2
              go_ret
              rw [HF2.out]
              exact ⟨rfl, rfl⟩
            · have hk2 : ((k : Int) == 1) = false := by simp; omega
              rw [hk2] at HF2
              clear hk1
              go_wp2
              go_ret
              rw [HF2.out]
              exact ⟨rfl, rfl⟩

end Go.Proofs.YtjcjmjnajhkdaaaDoor
