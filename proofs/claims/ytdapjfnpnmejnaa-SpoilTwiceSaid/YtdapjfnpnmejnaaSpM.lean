/- Records as bytes, their plain law; no program in sight. -/
import Derived.Test.YtdapjfnpnmejnaaSpL
import Derived.Test.YtdapjfnpnmejnaaBndL
namespace Go.Proofs.Ytdapjfnpnmejnaa
set_option linter.unusedVariables false
set_option linter.unusedSimpArgs false

structure Rec where
  kind : Int
  n : Int
  r : Int
  ids : List Int

theorem takeV_app {s : List UInt8} {n z : Nat} (h : takeV s = .ok (n, z)) (y : List UInt8) : takeV (s.take z ++ y) = .ok (n, z) ∧ (s.take z ++ y).drop z = y := by
  refine ⟨numL_local 9 s y true n z h, ?_⟩
  have := (takeV_bound h).2.2.2
  rw [List.drop_append_of_le_length (by simp; omega), List.drop_eq_nil_of_le (by simp; omega), List.nil_append]

/-- A number that is an offset, and at least so great. -/
def offT (least : Nat) (s : List UInt8) : Res Nat := match takeV s with
  | .error e => .error e
  | .ok (n, z) => if n < least ∨ 4611686018427387903 < n then .error 11 else .ok (n, z)
theorem offT_inv {least : Nat} {s : List UInt8} {n z : Nat} (h : offT least s = .ok (n, z)) : takeV s = .ok (n, z) ∧ least ≤ n ∧ n ≤ 4611686018427387903 := by
  unfold offT at h
  split at h
  · cases h
  · rename_i n' z' ht
    split at h
    · cases h
    · injection h with h
      injection h with h1 h2
      subst h1; subst h2
      exact ⟨ht, by omega, by omega⟩
theorem offT_mk {least : Nat} {s : List UInt8} {n z : Nat} (h : takeV s = .ok (n, z)) (h1 : least ≤ n) (h2 : n ≤ 4611686018427387903) : offT least s = .ok (n, z) := by
  unfold offT
  rw [h]
  simp only
  rw [if_neg (by omega)]

/-- Numbers that rise. -/
def idsL : Nat → Bool → Nat → List UInt8 → Res (List Int)
  | 0, _, _, _ => .ok ([], 0)
  | k + 1, first, ahead, s => match takeV s with
    | .error e => .error e
    | .ok (d, z) => if d = 0 ∧ first = false then .error 9 else if 65534 < ahead + d then .error 11 else
      match idsL k false (ahead + d) (s.drop z) with
      | .error e => .error e
      | .ok (l, z2) => .ok (((ahead + d : Nat) : Int) :: l, z + z2)
def idsT (s : List UInt8) : Res (List Int) := match takeV s with
  | .error e => .error e
  | .ok (n, z) => if 65535 < n then .error 6 else match idsL n true 0 (s.drop z) with
    | .error e => .error e
    | .ok (l, z2) => .ok (l, z + z2)
def pairT (least : Nat) (s : List UInt8) : Res (Nat × Nat) := match offT least s with
  | .error e => .error e
  | .ok (n, z) => match offT least (s.drop z) with
    | .error e => .error e
    | .ok (r, z2) => .ok ((n, r), z + z2)
/-- The record with which bytes begin. -/
def recT : List UInt8 → Res Rec
  | [] => .error 4
  | c :: s => if c.toNat < 1 ∨ 6 < c.toNat then .error 3
    else if c.toNat = 4 then (match idsT s with
      | .error e => .error e
      | .ok (l, z) => .ok (⟨4, 0, 0, l⟩, 1 + z))
    else match pairT (if c.toNat ≤ 3 then 1 else 0) s with
      | .error e => .error e
      | .ok (p, z) => .ok (⟨c.toNat, p.1, p.2, []⟩, 1 + z)

def encI : Int → List Int → List UInt8
  | _, [] => []
  | a, z :: l => encV (z - a).toNat ++ encI z l
def risesL : Int → List Int → Bool
  | _, [] => true
  | a, z :: l => decide (a < z) && decide (z < 65535) && risesL z l
/-- A record's bytes. -/
def encR (r : Rec) : List UInt8 := UInt8.ofNat r.kind.toNat :: (if r.kind = 4 then encV r.ids.length ++ encI 0 r.ids else encV r.n.toNat ++ encV r.r.toNat)
/-- May it be written? -/
def checkR (r : Rec) : Bool := if r.kind = 4 then decide (r.n = 0) && decide (r.r = 0) && risesL (-1) r.ids
  else r.ids.isEmpty && isO r.n && isO r.r && (if 1 ≤ r.kind ∧ r.kind ≤ 3 then decide (0 < r.n) && decide (0 < r.r) else decide (r.kind = 5) || decide (r.kind = 6))

theorem take_two (s : List UInt8) (a b : Nat) : s.take (a + b) = s.take a ++ (s.drop a).take b := List.take_add

theorem idsL_inv : ∀ (k : Nat) (first : Bool) (ahead : Nat) (s : List UInt8) (l : List Int) (z : Nat), idsL k first ahead s = .ok (l, z) →
    s.take z = encI ahead l ∧ z ≤ s.length ∧ l.length = k ∧ risesL (if first then (ahead : Int) - 1 else ahead) l = true ∧ (∀ y, idsL k first ahead (s.take z ++ y) = .ok (l, z))
  | 0, first, ahead, s, l, z, h => by
    injection h with h
    injection h with h1 h2
    subst h1; subst h2
    exact ⟨rfl, Nat.zero_le _, rfl, rfl, fun _ => rfl⟩
  | k + 1, first, ahead, s, l, z, h => by
    rw [idsL] at h
    split at h
    · cases h
    · rename_i d z1 ht
      split at h
      · cases h
      · rename_i h1
        split at h
        · cases h
        · rename_i h2
          split at h
          · cases h
          · rename_i l' z2 hi
            injection h with h
            injection h with h3 h4
            subst h3; subst h4
            obtain ⟨e1, e2, e3, e4, e5⟩ := idsL_inv k false (ahead + d) (s.drop z1) l' z2 hi
            obtain ⟨b1, b2, b3, b4⟩ := takeV_bound ht
            have hs := numL_sound 9 s true d z1 ht
            refine ⟨?_, by simp at e2; omega, by simp [e3], ?_, fun y => ?_⟩
            · rw [take_two, hs, e1, encI, show (((ahead + d : Nat) : Int) - (ahead : Int)).toNat = d by omega]
            · rw [risesL]
              simp only [Bool.false_eq_true, if_false] at e4
              rw [e4]
              cases first with
              | true => simp; omega
              | false =>
                have : d ≠ 0 := fun e => h1 ⟨e, rfl⟩
                simp; omega
            · rw [take_two, List.append_assoc]
              obtain ⟨t1, t2⟩ := takeV_app ht ((s.drop z1).take z2 ++ y)
              rw [idsL, t1]
              simp only
              rw [if_neg h1, if_neg h2, t2, e5 y]
theorem idsT_inv {s : List UInt8} {l : List Int} {z : Nat} (h : idsT s = .ok (l, z)) :
    s.take z = encV l.length ++ encI 0 l ∧ z ≤ s.length ∧ risesL (-1) l = true ∧ l.length ≤ 65535 ∧ (∀ y, idsT (s.take z ++ y) = .ok (l, z)) := by
  unfold idsT at h
  split at h
  · cases h
  · rename_i n z1 ht
    split at h
    · cases h
    · rename_i h1
      split at h
      · cases h
      · rename_i l' z2 hi
        injection h with h
        injection h with h3 h4
        subst h3; subst h4
        obtain ⟨e1, e2, e3, e4, e5⟩ := idsL_inv n true 0 (s.drop z1) l' z2 hi
        obtain ⟨b1, b2, b3, b4⟩ := takeV_bound ht
        have hs := numL_sound 9 s true n z1 ht
        refine ⟨?_, by simp at e2; omega, by simpa using e4, by omega, fun y => ?_⟩
        · rw [take_two, hs, e1, e3]; rfl
        · rw [take_two, List.append_assoc]
          obtain ⟨t1, t2⟩ := takeV_app ht ((s.drop z1).take z2 ++ y)
          unfold idsT
          rw [t1]
          simp only
          rw [if_neg h1, t2, e5 y]
theorem pairT_inv {least : Nat} {s : List UInt8} {p : Nat × Nat} {z : Nat} (h : pairT least s = .ok (p, z)) :
    s.take z = encV p.1 ++ encV p.2 ∧ z ≤ s.length ∧ (least ≤ p.1 ∧ p.1 ≤ 4611686018427387903) ∧ (least ≤ p.2 ∧ p.2 ≤ 4611686018427387903) ∧ (∀ y, pairT least (s.take z ++ y) = .ok (p, z)) := by
  unfold pairT at h
  split at h
  · cases h
  · rename_i n z1 h1
    split at h
    · cases h
    · rename_i r z2 h2
      injection h with h
      injection h with h3 h4
      subst h3; subst h4
      obtain ⟨t1, l1, m1⟩ := offT_inv h1
      obtain ⟨t2, l2, m2⟩ := offT_inv h2
      have b1 := (takeV_bound t1).2.2.2
      have b2 := (takeV_bound t2).2.2.2
      refine ⟨?_, by simp at b2; omega, ⟨l1, m1⟩, ⟨l2, m2⟩, fun y => ?_⟩
      · rw [take_two, numL_sound 9 s true n z1 t1, numL_sound 9 _ true r z2 t2]
      · rw [take_two, List.append_assoc]
        obtain ⟨a1, a2⟩ := takeV_app t1 ((s.drop z1).take z2 ++ y)
        obtain ⟨c1, c2⟩ := takeV_app t2 y
        unfold pairT
        rw [offT_mk a1 l1 m1]
        simp only
        rw [a2, offT_mk c1 l2 m2]
theorem recT_inv {s : List UInt8} {r : Rec} {z : Nat} (h : recT s = .ok (r, z)) :
    s.take z = encR r ∧ 1 ≤ z ∧ z ≤ s.length ∧ checkR r = true ∧ (∀ y, recT (s.take z ++ y) = .ok (r, z)) := by
  cases s with
  | nil => cases h
  | cons c s =>
    rw [recT] at h
    split at h
    · cases h
    · rename_i h1
      split at h
      · rename_i h2
        split at h
        · cases h
        · rename_i l z1 hi
          injection h with h
          injection h with h3 h4
          subst h3; subst h4
          obtain ⟨e1, e2, e3, e4, e5⟩ := idsT_inv hi
          have hc : UInt8.ofNat 4 = c := by rw [← h2, ofNat_toNat]
          refine ⟨?_, by omega, by simp; omega, ?_, fun y => ?_⟩
          · rw [show 1 + z1 = z1 + 1 by omega, List.take_succ_cons, e1, encR, if_pos rfl]
            show c :: _ = UInt8.ofNat 4 :: _
            rw [hc]
          · unfold checkR
            rw [if_pos rfl]
            simp [e3]
          · rw [show 1 + z1 = z1 + 1 by omega, List.take_succ_cons, List.cons_append, recT, if_neg h1, if_pos h2, e5 y]
            rw [show z1 + 1 = 1 + z1 by omega]
      · rename_i h2
        split at h
        · cases h
        · rename_i p z1 hp
          injection h with h
          injection h with h3 h4
          subst h3; subst h4
          obtain ⟨e1, e2, e3, e4, e5⟩ := pairT_inv hp
          refine ⟨?_, by omega, by simp; omega, ?_, fun y => ?_⟩
          · rw [show 1 + z1 = z1 + 1 by omega, List.take_succ_cons, e1, encR, if_neg (show ¬ ((c.toNat : Int) = 4) by omega)]
            simp only [Int.toNat_natCast]
            rw [ofNat_toNat]
          · unfold checkR
            rw [if_neg (show ¬ ((c.toNat : Int) = 4) by omega)]
            simp only [List.isEmpty_nil, Bool.true_and]
            rw [isO_iff.2 ⟨by omega, by omega⟩, isO_iff.2 ⟨by omega, by omega⟩]
            by_cases h3 : c.toNat ≤ 3
            · rw [if_pos h3] at e3 e4
              rw [if_pos (by omega)]
              simp; omega
            · rw [if_neg (by omega)]
              simp; omega
          · rw [show 1 + z1 = z1 + 1 by omega, List.take_succ_cons, List.cons_append, recT, if_neg h1, if_neg h2, e5 y]
            rw [show z1 + 1 = 1 + z1 by omega]
end Go.Proofs.Ytdapjfnpnmejnaa
