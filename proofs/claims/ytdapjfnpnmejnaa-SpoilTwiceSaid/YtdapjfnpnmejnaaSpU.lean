/- The head and the records of a certificate, by the program; no condition but the sizes. -/
import Derived.Test.YtdapjfnpnmejnaaSpT
import Derived.Test.YtdapjfnpnmejnaaGBx3
namespace Go.Proofs.Ytdapjfnpnmejnaa
open Go.RowKit Go.Proofs.YtdapjfnpnmejnaaW.PrintWords Go.Proofs.Ytdapjfnpnmejnaa.GB Go.Shelf
set_option linter.unusedVariables false
set_option linter.unusedSimpArgs false
set_option maxRecDepth 100000

theorem hasPrefix_f (a b : ByteArray) : strings_HasPrefix.f a b = some (b.data.toList.isPrefixOf a.data.toList) := by
  unfold strings_HasPrefix.f stringslite_HasPrefix.f
  have ha := size_list a
  have hb := size_list b
  have hiff : b.data.toList.isPrefixOf a.data.toList = true ↔ b.data.toList = a.data.toList.take b.data.toList.length := by rw [List.isPrefixOf_iff_prefix, List.prefix_iff_eq_take]
  by_cases h : (a.size : Int) ≥ (b.size : Int)
  · rw [if_pos h, if_pos (by omega), if_pos h]
    simp only [Option.bind_some, Int.toNat_natCast]
    congr 1
    rw [extract_take, ByteArray.toList_eq, ByteArray.toList_eq, strL_data, hb]
    rw [Bool.eq_iff_iff, hiff]
    simp only [beq_iff_eq]
    exact eq_comm
  · rw [if_neg h]
    simp only [Option.bind_some]
    congr 1
    rw [Bool.eq_iff_iff, hiff]
    constructor
    · intro h; cases h
    · intro h2
      have := congrArg List.length h2
      rw [List.length_take] at this
      omega
theorem bt_first {s : ByteArray} {c : UInt8} {t : List UInt8} (h : s.data.toList = c :: t) : bt s 0 = (c.toNat : Int) := by
  obtain ⟨h0, hx, _, _⟩ := first_byte h
  unfold bt
  rw [dif_pos (show (0 : Int).toNat < s.size from h0)]
  exact hx h0
def frameTup (r : Res (Nat × List UInt8)) : Int × ByteArray × Int × Int := match r with
  | .ok (p, z) => (p.1, strL p.2, z, 0)
  | .error e => (0, strL [], 0, e)
theorem frame_f (s : ByteArray) (hs : s.size ≤ 1000000) : frame_Take.f s = some (frameTup (frameT s.data.toList)) := by
  have hsz := size_list s
  unfold frame_Take.f
  cases hl : s.data.toList with
  | nil => rw [if_pos (by rw [ByteArray.toList_eq, hl])]; rfl
  | cons c t =>
    obtain ⟨h0, _, hne, hd⟩ := first_byte hl
    rw [if_neg (by rw [ByteArray.toList_eq, hl]; simp), if_pos (by omega), bt_first hl, frameT]
    by_cases h1 : c.toNat < 1 ∨ 127 < c.toNat
    · rw [if_pos h1]
      by_cases h2 : (c.toNat : Int) < 1
      · rw [if_pos h2]; rfl
      · rw [if_neg h2, if_pos (by omega)]; rfl
    · rw [if_neg h1, if_neg (by omega), if_neg (by omega), if_pos (by omega), vTake s 1 hs, hd]
      cases ht : takeV t with
      | error e =>
        rw [show vresT (.error e) = (0, 0, e) from rfl]
        simp only [Option.bind_some]
        rw [if_neg (takeV_err ht)]
        rfl
      | ok q =>
        obtain ⟨n, z⟩ := q
        have hb := takeV_bound ht
        have htl : t.length + 1 = s.size := by rw [hsz, hl]; rfl
        rw [show vresT (.ok (n, z)) = ((n : Int), (z : Int), 0) from rfl]
        simp only [Option.bind_some]
        rw [if_pos trivial]
        by_cases hn : 67108864 < n
        · rw [if_pos (show (n : Int) > 67108864 by omega), if_pos hn]; rfl
        · have hw : wrap64 (1 + (z : Int)) = ((1 + z : Nat) : Int) := by rw [wrap_in (by omega) (by omega)]; omega
          rw [if_neg (show ¬ (n : Int) > 67108864 by omega), if_neg hn, hw, if_pos (show (0 : Int) ≤ ((1 + z : Nat) : Int) by omega), if_pos (show ((1 + z : Nat) : Int) ≤ (s.size : Int) by omega), Int.toNat_natCast, cut_size]
          have hdl : (t.drop z).length = s.size - (1 + z) := by rw [List.length_drop]; omega
          by_cases hlong : (t.drop z).length < n
          · rw [if_pos (show (n : Int) > ((s.size - (1 + z) : Nat) : Int) by omega), if_pos hlong]; rfl
          · rw [if_neg (show ¬ (n : Int) > ((s.size - (1 + z) : Nat) : Int) by omega), if_neg hlong, if_pos (show (0 : Int) ≤ (n : Int) by omega), if_pos (show (n : Int) ≤ ((s.size - (1 + z) : Nat) : Int) by omega)]
            have hd2 : s.data.toList.drop (1 + z) = t.drop z := by rw [← hd, List.drop_drop]
            rw [Int.toNat_natCast, extract_take, cut_list, hd2, wrap_in (n := (c.toNat : Int)) (by have := c.toNat_lt; omega) (by have := c.toNat_lt; omega), wrap_in (by omega) (by omega)]
            show some (_, _, _, _) = some (_, _, _, _)
            simp only
            congr 4
def headTup (r : Res (List UInt8)) : ByteArray × Int × Int := match r with
  | .ok (b, z) => (strL b, z, 0)
  | .error e => (strL [], 0, e)
theorem head_f (s : ByteArray) (hs : s.size ≤ 1000000) : head_Take.f s = some (headTup (headT s.data.toList)) := by
  unfold head_Take.f
  have hm : (⟨#[99, 101, 114, 116, 1]⟩ : ByteArray).data.toList = markL := rfl
  rw [hasPrefix_f s, hasPrefix_f _ s, hm]
  simp only [Option.bind_some]
  unfold headT
  cases hp : markL.isPrefixOf s.data.toList with
  | false =>
    rw [if_neg (by simp), if_pos rfl]
    cases hq : s.data.toList.isPrefixOf markL with
    | true => rw [if_pos rfl, if_pos rfl]; rfl
    | false => rw [if_neg (by simp), if_neg (by simp)]; rfl
  | true =>
    rw [if_pos rfl, if_neg (show ¬ (true = false) by simp)]
    have hl : 5 ≤ s.size := by
      rw [List.isPrefixOf_iff_prefix] at hp
      have := hp.length_le
      rw [size_list]; exact this
    rw [if_pos (show (5 : Int) ≤ (s.size : Int) by omega), frame_f (s.extract 5 s.size) (by rw [cut_size]; omega), cut_list]
    have hfe : ∀ e, frameT (s.data.toList.drop 5) = .error e → e ≠ 0 := fun e h => by
      cases hl : s.data.toList.drop 5 with
      | nil => rw [hl] at h; injection h with h; omega
      | cons c t =>
        rw [hl, frameT] at h
        split at h
        · injection h with h; omega
        · split at h
          · rename_i ht
            injection h with h
            subst h
            exact takeV_err ht
          · split at h
            · injection h with h; omega
            · split at h
              · injection h with h; omega
              · cases h
    cases hf : frameT (s.data.toList.drop 5) with
    | error e =>
      rw [show frameTup (.error e) = (0, strL [], 0, e) from rfl]
      simp only [Option.bind_some]
      rw [if_neg (hfe e hf)]
      rfl
    | ok q =>
      obtain ⟨⟨c, b⟩, z⟩ := q
      have hz : z ≤ s.size := by have := (frameT_inv hf).1; rw [List.length_drop, ← size_list] at this; omega
      rw [show frameTup (.ok ((c, b), z)) = ((c : Int), strL b, (z : Int), 0) from rfl]
      simp only [Option.bind_some]
      rw [if_pos trivial]
      by_cases hc : c = 1
      · rw [if_pos (show (c : Int) = 1 by omega), if_neg (show ¬ (c ≠ 1) by omega), wrap_in (by omega) (by omega)]
        show some (_, _, _) = some (_, _, _)
        congr 3
      · rw [if_neg (show ¬ (c : Int) = 1 by omega), if_pos hc]; rfl
theorem headT_err {s : List UInt8} {e : Int} (h : headT s = .error e) : e ≠ 0 := by
  unfold headT at h
  split at h
  · split at h <;> (injection h with h; omega)
  · split at h
    · rename_i hf
      injection h with h
      subst h
      cases hl : s.drop 5 with
      | nil => rw [hl] at hf; injection hf with hf; omega
      | cons c t =>
        rw [hl, frameT] at hf
        split at hf
        · injection hf with hf; omega
        · split at hf
          · rename_i ht
            injection hf with hf
            subst hf
            exact takeV_err ht
          · split at hf
            · injection hf with hf; omega
            · split at hf
              · injection hf with hf; omega
              · cases hf
    · split at h
      · injection h with h; omega
      · cases h
end Go.Proofs.Ytdapjfnpnmejnaa
