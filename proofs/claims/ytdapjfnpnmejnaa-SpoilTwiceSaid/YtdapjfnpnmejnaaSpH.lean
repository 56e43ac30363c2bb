/- Frames, heads and the records of a certificate, their plain law; no program in sight. -/
import Derived.Test.YtdapjfnpnmejnaaSpM
namespace Go.Proofs.Ytdapjfnpnmejnaa
set_option linter.unusedVariables false
set_option linter.unusedSimpArgs false

/-- The frame with which bytes begin: its kind, its body. -/
def frameT : List UInt8 → Res (Nat × List UInt8)
  | [] => .error 4
  | c :: s => if c.toNat < 1 ∨ 127 < c.toNat then .error 3 else match takeV s with
    | .error e => .error e
    | .ok (n, z) => if 67108864 < n then .error 5 else if (s.drop z).length < n then .error 4 else .ok ((c.toNat, (s.drop z).take n), 1 + z + n)
def markL : List UInt8 := [99, 101, 114, 116, 1]
/-- The pattern file of a head. -/
def headT (s : List UInt8) : Res (List UInt8) :=
  if markL.isPrefixOf s = false then (if s.isPrefixOf markL then .error 4 else .error 15)
  else match frameT (s.drop 5) with
    | .error e => .error e
    | .ok (p, z) => if p.1 ≠ 1 then .error 15 else .ok (p.2, 5 + z)

theorem frameT_inv {s : List UInt8} {p : Nat × List UInt8} {z : Nat} (h : frameT s = .ok (p, z)) : z ≤ s.length ∧ ∀ y, frameT (s.take z ++ y) = .ok (p, z) := by
  cases s with
  | nil => cases h
  | cons c s =>
    rw [frameT] at h
    split at h
    · cases h
    · rename_i h1
      split at h
      · cases h
      · rename_i n z1 ht
        split at h
        · cases h
        · rename_i h2
          split at h
          · cases h
          · rename_i h3
            injection h with h
            injection h with h4 h5
            subst h4; subst h5
            have hb := (takeV_bound ht).2.2.2
            simp only [List.length_drop] at h3
            refine ⟨by simp; omega, fun y => ?_⟩
            rw [show 1 + z1 + n = (z1 + n) + 1 by omega, List.take_succ_cons, List.cons_append, frameT, if_neg h1, take_two, List.append_assoc]
            obtain ⟨a1, a2⟩ := takeV_app ht ((s.drop z1).take n ++ y)
            have hl : ((s.drop z1).take n).length = n := by simp; omega
            rw [a1]
            simp only
            rw [if_neg h2, a2, if_neg (by rw [List.length_append, hl]; omega), List.take_append_of_le_length (by omega), List.take_of_length_le (by omega)]
            rw [show z1 + n + 1 = 1 + z1 + n by omega]
theorem headT_inv {s b : List UInt8} {z : Nat} (h : headT s = .ok (b, z)) : z ≤ s.length ∧ ∀ y, headT (s.take z ++ y) = .ok (b, z) := by
  unfold headT at h
  split at h
  · split at h <;> cases h
  · rename_i h1
    split at h
    · cases h
    · rename_i p z1 hf
      split at h
      · cases h
      · rename_i h2
        injection h with h
        injection h with h3 h4
        subst h3; subst h4
        obtain ⟨e1, e2⟩ := frameT_inv hf
        have hp : markL.isPrefixOf s = true := by simpa using h1
        rw [List.isPrefixOf_iff_prefix] at hp
        obtain ⟨t, rfl⟩ := hp
        have hd : (markL ++ t).drop 5 = t := rfl
        rw [hd] at e1 e2 hf
        refine ⟨by simp [markL]; omega, fun y => ?_⟩
        have ht : (markL ++ t).take (5 + z1) ++ y = markL ++ (t.take z1 ++ y) := by
          rw [take_two, hd, List.append_assoc]; rfl
        rw [ht]
        unfold headT
        rw [if_neg (by simp [List.isPrefixOf_iff_prefix]), show (markL ++ (t.take z1 ++ y)).drop 5 = t.take z1 ++ y from rfl, e2 y]
        simp only
        rw [if_neg h2]

/-- Two records as one, if they can be. -/
def twoV (a b : Rec) : Option Rec :=
  if (1 ≤ a.kind ∧ a.kind ≤ 3) ∧ a.kind = b.kind ∧ a.n = b.n ∧ a.ids.length + b.ids.length = 0 ∧ 1 ≤ a.r ∧ 1 ≤ b.r ∧ isO a.r = true ∧ isO b.r = true ∧ a.r ≤ 4611686018427387903 - b.r then some ⟨a.kind, a.n, a.r + b.r, []⟩ else none
/-- May a record stand behind the last one? -/
def fitsV (last r : Rec) : Bool := (twoV last r).isNone && (decide (r.kind ≠ 5) || (decide (last.kind ≠ 5) && decide (last.kind ≠ 0)))
/-- The records of bytes that are there whole. -/
def lensL : Nat → Rec → List UInt8 → Except Int (List Rec)
  | 0, _, _ => .error 1
  | k + 1, last, s => match recT s with
    | .error e => .error e
    | .ok (r, z) => if fitsV last r = false then .error 9
      else if r.kind = 6 then (if s.drop z ≠ [] then .error 20 else .ok [r])
      else match lensL k ⟨r.kind, r.n, r.r, []⟩ (s.drop z) with
        | .error e => .error e
        | .ok l => .ok (r :: l)
def rec0 : Rec := ⟨0, 0, 0, []⟩
/-- The head and the records of a certificate. -/
def recordsV (s : List UInt8) : Except Int (List UInt8 × List Rec) := match headT s with
  | .error e => .error e
  | .ok (_, z) => match lensL (s.length + 1) rec0 (s.drop z) with
    | .error e => .error e
    | .ok l => .ok (s.take z, l)

def encAll (l : List Rec) : List UInt8 := l.flatMap encR
/-- A record that is read as it was written, whatever stands behind it. -/
def Reads (r : Rec) : Prop := checkR r = true ∧ encR r ≠ [] ∧ ∀ y, recT (encR r ++ y) = .ok (r, (encR r).length)
theorem reads_of {s : List UInt8} {r : Rec} {z : Nat} (h : recT s = .ok (r, z)) : Reads r ∧ s.take z = encR r ∧ 1 ≤ z ∧ z ≤ s.length := by
  obtain ⟨h1, h2, h3, h4, h5⟩ := recT_inv h
  have hl : (encR r).length = z := by rw [← h1]; simp; omega
  exact ⟨⟨h4, by rw [encR]; simp, fun y => by rw [← h1, h5 y, h1, hl]⟩, h1, h2, h3⟩
theorem lensL_inv : ∀ (k : Nat) (last : Rec) (s : List UInt8) (l : List Rec), lensL k last s = .ok l → s = encAll l ∧ (∀ r ∈ l, Reads r) ∧ 1 ≤ l.length ∧ l.length ≤ s.length
  | 0, last, s, l, h => by cases h
  | k + 1, last, s, l, h => by
    rw [lensL] at h
    split at h
    · cases h
    · rename_i r z hr
      obtain ⟨hR, e1, e2, e3⟩ := reads_of hr
      split at h
      · cases h
      · split at h
        · split at h
          · cases h
          · rename_i h3
            injection h with h
            subst h
            have h3' : s.drop z = [] := by simpa using h3
            refine ⟨?_, by simpa using hR, by simp, by simp; omega⟩
            have := List.take_append_drop z s
            rw [h3', List.append_nil, e1] at this
            rw [encAll, List.flatMap_cons, List.flatMap_nil, List.append_nil, this]
        · split at h
          · cases h
          · rename_i l' hl
            injection h with h
            subst h
            obtain ⟨i1, i2, i3, i4⟩ := lensL_inv k _ (s.drop z) l' hl
            refine ⟨?_, ?_, by simp, by simp at i4 ⊢; omega⟩
            · have := List.take_append_drop z s
              rw [encAll, List.flatMap_cons, ← e1]
              have h2 : l'.flatMap encR = s.drop z := i1.symm
              rw [h2, this]
            · intro x hx
              rcases List.mem_cons.1 hx with hx | hx
              · rw [hx]; exact hR
              · exact i2 x hx
/-- Records that are written alike are alike. -/
theorem encAll_inj : ∀ (l l' : List Rec), (∀ r ∈ l, Reads r) → (∀ r ∈ l', Reads r) → encAll l = encAll l' → l = l'
  | [], [], _, _, _ => rfl
  | [], r :: l', _, h2, h => by
    have := (h2 r (by simp)).2.1
    rw [encAll, encAll, List.flatMap_nil, List.flatMap_cons] at h
    exact absurd (List.append_eq_nil_iff.1 h.symm).1 this
  | r :: l, [], h1, _, h => by
    have := (h1 r (by simp)).2.1
    rw [encAll, encAll, List.flatMap_nil, List.flatMap_cons] at h
    exact absurd (List.append_eq_nil_iff.1 h).1 this
  | r :: l, r' :: l', h1, h2, h => by
    rw [encAll, encAll, List.flatMap_cons, List.flatMap_cons] at h
    have a := (h1 r (by simp)).2.2 (l.flatMap encR)
    have b := (h2 r' (by simp)).2.2 (l'.flatMap encR)
    rw [h, b] at a
    injection a with a
    injection a with a1 a2
    subst a1
    have h' := List.append_cancel_left h
    rw [encAll_inj l l' (fun x hx => h1 x (by simp [hx])) (fun x hx => h2 x (by simp [hx])) h']
theorem recordsV_inv {s top : List UInt8} {l : List Rec} (h : recordsV s = .ok (top, l)) : s = top ++ encAll l ∧ (∀ r ∈ l, Reads r) ∧ 1 ≤ l.length ∧ l.length ≤ s.length ∧
    ∀ l', (∀ r ∈ l', Reads r) → ∀ t'' l'', recordsV (top ++ encAll l') = .ok (t'', l'') → t'' = top ∧ l'' = l' := by
  unfold recordsV at h
  split at h
  · cases h
  · rename_i b z hh
    split at h
    · cases h
    · rename_i l0 hl
      injection h with h
      injection h with h1 h2
      subst h1; subst h2
      obtain ⟨e1, e2⟩ := headT_inv hh
      obtain ⟨i1, i2, i3, i4⟩ := lensL_inv _ _ _ _ hl
      refine ⟨by rw [← i1, List.take_append_drop], i2, i3, by simp at i4; omega, fun l' hl' t'' l'' h => ?_⟩
      have hz : (s.take z).length = z := by simp; omega
      unfold recordsV at h
      rw [e2] at h
      simp only at h
      have hd : (s.take z ++ encAll l').drop z = encAll l' := by
        rw [List.drop_append_of_le_length (by omega), List.drop_eq_nil_of_le (by omega), List.nil_append]
      have ht : (s.take z ++ encAll l').take z = s.take z := by
        rw [List.take_append_of_le_length (by omega), List.take_of_length_le (by omega)]
      rw [hd, ht] at h
      split at h
      · cases h
      · rename_i l1 hl1
        injection h with h
        injection h with h1 h2
        subst h1; subst h2
        obtain ⟨j1, j2, j3, j4⟩ := lensL_inv _ _ _ _ hl1
        exact ⟨rfl, (encAll_inj _ _ hl' j2 j1).symm⟩
end Go.Proofs.Ytdapjfnpnmejnaa
