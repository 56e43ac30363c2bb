/- The references that a guard is held against: shifts, and what may be cleared; no condition but the sizes. -/
import Derived.Test.YtkbdfnmeomkpjaaGreatGrdS
namespace Go.Proofs.YtkbdfnmeomkpjaaGreat
open Go.RowKit
set_option linter.unusedVariables false
set_option linter.unusedSimpArgs false
set_option maxRecDepth 100000

/-- A byte's shift: the least distance at which a text has it, or the greatest. -/
def FirstP (l : List (List UInt8)) (ch : UInt8) (m n : Nat) : Prop := n ≤ m ∧ (∀ d, d < n → hasD l ch d = false) ∧ (n < m → hasD l ch n = true)
def NearP (l : List (List UInt8)) (a ch : UInt8) (m n : Nat) : Prop := n ≤ m ∧ (∀ d, d < n → hasP l a ch d = false) ∧ (n < m → hasP l a ch n = true)
set_option maxHeartbeats 2000000 in
theorem rfirst_ (A : Option Addr) (k c B m : Nat) (ch : UInt8) (l : List (List UInt8)) (w : World) (h : Sees w B 1 A k (strVs l)) (hk : k ≤ 1000) (hll : ∀ x ∈ l, x.length ≤ 1000) (hm : ∀ n, LeastE l n → n = m) (hm2 : m ≤ 1000) :
    Calls Tryz.prog 66 #[.slice A k c, .int .u8 (ch.toNat : Int)] w fun e w' => (∃ n : Nat, e = .returned (.int .i64 (n : Int)) ∧ FirstP l ch m n) ∧ ∃ q, w' = w.drewN q := by
  have HLE := Lib.hid (rleastE_ A k c B l w h hk hll)
  have HH := Lib.hid (fun (d q : Nat) (hd : d ≤ 1000) => rhas13_ A k c B d ch l (w.drewN q) (h.dn q) hk hll hd)
  have HM := Lib.hid hm
  clear h hll hm
  go_enter Tryz.func66, Tryz.ntmps66
  go_wp2_with fail
  refine HLE.out.mono ?_
  rintro e w1 ⟨⟨n, rfl, hn⟩, rfl⟩
  obtain rfl := HM.out n hn
  clear hn HLE HM
  go_wp2_with fail
  go_loopg [6] n (fun gh v6 wr => ∃ d : Nat, d + gh = n ∧ v6 = .int .i64 (d : Int) ∧ RowKit.Hid (∀ e, e < d → hasD l ch e = false) ∧ ∃ q, wr = w1.drewN q)
  case atStart => exact ⟨0, by omega, rfl, Lib.hid (fun e he => by omega), 0, rfl⟩
  case round =>
    obtain ⟨d, hdg, rfl, HN, q, rfl⟩ := hrel
    cases gk with
    | zero =>
      obtain rfl : d = n := by omega
      go_wp2_with fail
      go_ret
      exact ⟨⟨d, rfl, Nat.le_refl _, HN.out, fun h => absurd h (Nat.lt_irrefl _)⟩, _, rfl⟩
    | succ g3 =>
      have hii : (d : Int) < (n : Int) := by omega
      go_wp2_with fail
      refine (HH.out d q (by omega)).mono ?_
      rintro e w2 ⟨rfl, q2, rfl⟩
      obtain ⟨r, hr⟩ : ∃ r, hasD l ch d = r := ⟨_, rfl⟩
      have HR := Lib.hid hr
      rw [hr]
      clear hr
      cases r with
      | true =>
        go_wp2_with fail
        go_ret
        exact ⟨⟨d, rfl, by omega, HN.out, fun _ => HR.out⟩, _, rfl⟩
      | false =>
        have HN2 := Lib.hid (show ∀ e, e < d + 1 → hasD l ch e = false from fun e he => by
          by_cases h : e = d
          · subst h; exact HR.out
          · exact HN.out e (by omega))
        go_wp2_with fail
        go_roundg g3
        case measure => omega
        case rel => exact ⟨d + 1, by omega, by go_num, HN2, _, rfl⟩
set_option maxHeartbeats 2000000 in
theorem rfar_ (A : Option Addr) (k c B m : Nat) (l : List (List UInt8)) (w : World) (h : Sees w B 1 A k (strVs l)) (hk : k ≤ 1000) (hll : ∀ x ∈ l, x.length ≤ 1000) (hm : ∀ n, LeastE l n → n = m) (hm2 : m ≤ 1000) :
    Calls Tryz.prog 89 #[.slice A k c] w fun e w' => e = .returned (.int .i64 ((m - 1 : Nat) : Int)) ∧ w' = w := by
  have HLE := Lib.hid (rleastE_ A k c B l w h hk hll)
  have HM := Lib.hid hm
  clear h hll hm
  go_enter Tryz.func89, Tryz.ntmps89
  go_wp2_with fail
  refine HLE.out.mono ?_
  rintro e w1 ⟨⟨n, rfl, hn⟩, rfl⟩
  obtain rfl := HM.out n hn
  clear hn HLE HM
  by_cases h0 : n = 0
  · subst h0
    go_wp2_with fail
    go_ret
    exact ⟨rfl, rfl⟩
  · have h0i : ((n : Int) == 0) = false := by rw [beq_eq_false_iff_ne]; omega
    have HN1 := Lib.hid (show ((n - 1 : Nat) : Int) = (n : Int) - 1 by omega)
    clear h0
    go_wp2_with fail
    go_ret
    exact ⟨congrArg (fun z => Ending.returned (Value.int IntKind.i64 z)) HN1.out.symm, rfl⟩
set_option maxHeartbeats 2000000 in
theorem rnear_ (A : Option Addr) (k c B m : Nat) (dh ch : UInt8) (l : List (List UInt8)) (w : World) (h : Sees w B 1 A k (strVs l)) (hk : k ≤ 1000) (hll : ∀ x ∈ l, x.length ≤ 1000) (hm : ∀ n, LeastE l n → n = m) (hm2 : m ≤ 1000) :
    Calls Tryz.prog 67 #[.slice A k c, .int .u8 (dh.toNat : Int), .int .u8 (ch.toNat : Int)] w fun e w' => (∃ n : Nat, e = .returned (.int .i64 (n : Int)) ∧ NearP l dh ch (m - 1) n) ∧ ∃ q, w' = w.drewN q := by
  have HFA := Lib.hid (fun (q : Nat) => rfar_ A k c B m l (w.drewN q) (h.dn q) hk hll hm hm2)
  have HH := Lib.hid (fun (d q : Nat) (hd : d ≤ 1000) => rhas14_ A k c B d ch dh l (w.drewN q) (h.dn q) hk hll hd)
  obtain ⟨n, hn⟩ : ∃ n, m - 1 = n := ⟨_, rfl⟩
  rw [hn] at HFA ⊢
  have hn2 : n ≤ 1000 := by omega
  clear h hll hm hn
  go_enter Tryz.func67, Tryz.ntmps67
  go_wp2_with fail
  go_loopg [7] n (fun gh v7 wr => ∃ d : Nat, d + gh = n ∧ v7 = .int .i64 (d : Int) ∧ RowKit.Hid (∀ e, e < d → hasP l dh ch e = false) ∧ ∃ q, wr = w.drewN q)
  case atStart => exact ⟨0, by omega, rfl, Lib.hid (fun e he => by omega), 0, rfl⟩
  case round =>
    obtain ⟨d, hdg, rfl, HN, q, rfl⟩ := hrel
    go_wp2_with fail
    refine (HFA.out q).mono ?_
    rintro e w1 ⟨rfl, rfl⟩
    cases gk with
    | zero =>
      obtain rfl : d = n := by omega
      go_wp2_with fail
      refine (HFA.out q).mono ?_
      rintro e w1 ⟨rfl, rfl⟩
      go_wp2_with fail
      go_ret
      exact ⟨⟨d, rfl, Nat.le_refl _, HN.out, fun h => absurd h (Nat.lt_irrefl _)⟩, _, rfl⟩
    | succ g3 =>
      have hii : (d : Int) < (n : Int) := by omega
      go_wp2_with fail
      refine (HH.out d q (by omega)).mono ?_
      rintro e w2 ⟨rfl, q2, rfl⟩
      obtain ⟨r, hr⟩ : ∃ r, hasP l dh ch d = r := ⟨_, rfl⟩
      have HR := Lib.hid hr
      rw [hr]
      clear hr
      cases r with
      | true =>
        go_wp2_with fail
        go_ret
        exact ⟨⟨d, rfl, by omega, HN.out, fun _ => HR.out⟩, _, rfl⟩
      | false =>
        have HN2 := Lib.hid (show ∀ e, e < d + 1 → hasP l dh ch e = false from fun e he => by
          by_cases h : e = d
          · subst h; exact HR.out
          · exact HN.out e (by omega))
        go_wp2_with fail
        go_roundg g3
        case measure => omega
        case rel => exact ⟨d + 1, by omega, by go_num, HN2, _, rfl⟩
theorem range_none {q : Nat → Bool} {d : Nat} (h : (List.range d).any q = false) (hd : q d = false) : (List.range (d + 1)).any q = false := by
  rw [List.range_succ, List.any_append, h]; simp [hd]
theorem skipB_in {l : List (List UInt8)} {m k : Nat} (c : UInt8) (h1 : 1 ≤ k) (h2 : k ≤ m) : skipB l m c (k : Int) = !((List.range k).any fun d => hasD l c d) := by
  unfold skipB
  rw [decide_eq_true (by omega), decide_eq_true (by omega)]
  simp
theorem skipB_out {l : List (List UInt8)} {m : Nat} {n : Int} (c : UInt8) (h : n < 1 ∨ (m : Int) < n) : skipB l m c n = false := by
  unfold skipB
  rcases h with h | h
  · rw [decide_eq_false (by omega)]; rfl
  · rw [decide_eq_false (p := n ≤ m) (by omega), Bool.and_false]; rfl
theorem leapB_in {l : List (List UInt8)} {m k : Nat} (a c : UInt8) (h1 : 1 ≤ k) (h2 : k ≤ m - 1) : leapB l m a c (k : Int) = !((List.range k).any fun d => hasP l a c d) := by
  unfold leapB
  rw [decide_eq_true (by omega), decide_eq_true (by omega)]
  simp
theorem leapB_out {l : List (List UInt8)} {m : Nat} {n : Int} (a c : UInt8) (h : n < 1 ∨ ((m - 1 : Nat) : Int) < n) : leapB l m a c n = false := by
  unfold leapB
  rcases h with h | h
  · rw [decide_eq_false (by omega)]; rfl
  · rw [decide_eq_false (p := n ≤ ((m - 1 : Nat) : Int)) (by omega), Bool.and_false]; rfl
end Go.Proofs.YtkbdfnmeomkpjaaGreat
