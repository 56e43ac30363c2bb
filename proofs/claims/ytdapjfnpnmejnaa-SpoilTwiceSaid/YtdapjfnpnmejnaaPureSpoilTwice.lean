/- Swap and flip, done twice, change nothing where they can be twice; a byte behind all, cut off again, too: of certificates of at most 400 bytes. No program in sight. -/
import Derived.Test.YtdapjfnpnmejnaaGTx1
namespace Go.Proofs.Ytdapjfnpnmejnaa.Pure
open Go.RowKit Go.Proofs.Ytdapjfnpnmejnaa.GT Go.Proofs.YtdapjfnpnmejnaaW.PrintWords Go.Proofs.YtdapjfnpnmejnaaW.PrintLast
set_option linter.unusedVariables false
set_option linter.unusedSimpArgs false

theorem lensL_err : ∀ (k : Nat) (last : Rec) (s : List UInt8) (e : Int), lensL k last s = .error e → e ≠ 0
  | 0, _, _, e, h => by injection h with h; omega
  | k + 1, last, s, e, h => by
    rw [lensL] at h
    split at h
    · rename_i hr
      injection h with h
      subst h
      exact recT_err hr
    · split at h
      · injection h with h; omega
      · split at h
        · split at h
          · injection h with h; omega
          · cases h
        · split at h
          · rename_i hl
            injection h with h
            subst h
            exact lensL_err k _ _ _ hl
          · cases h
theorem recordsV_errn {s : List UInt8} {e : Int} (h : recordsV s = .error e) : e ≠ 0 := by
  unfold recordsV at h
  split at h
  · rename_i hh
    injection h with h
    subst h
    exact headT_err hh
  · split at h
    · rename_i hl
      injection h with h
      subst h
      exact lensL_err _ _ _ _ hl
    · cases h
theorem applyT_err {kind i n : Int} {s : List UInt8} {e : Int} (h : applyT kind i n s = .error e) : e ≠ 0 := by
  unfold applyT at h
  split at h
  · unfold bytesA at h
    split at h
    · cases h
    · injection h with h; omega
  · unfold recsA at h
    split at h
    · rename_i hr
      injection h with h
      subst h
      exact recordsV_errn hr
    · split at h
      · injection h with h; omega
      · split at h
        · cases h
        · injection h with h; omega

/-- Two records change places twice. -/
theorem edit_twice {i n : Int} {l l' : List Rec} (h : editV 3 i n l = some l') : editV 3 i n l' = some l ∧ l'.Perm l := by
  unfold editV at h ⊢
  split at h
  · cases h
  · rename_i hi
    rw [if_neg hi]
    rw [if_pos rfl] at h ⊢
    split at h
    · rename_i x y t hd
      injection h with h
      have hl : l = l.take i.toNat ++ x :: y :: t := by rw [← hd, List.take_append_drop]
      have hlen : (l.take i.toNat).length = i.toNat := by
        rw [List.length_take]
        have := congrArg List.length hd
        simp at this
        omega
      generalize l.take i.toNat = p at *
      subst hl
      subst h
      rw [List.drop_append_of_le_length (by omega), List.drop_eq_nil_of_le (by omega), List.nil_append, List.take_append_of_le_length (by omega), List.take_of_length_le (by omega)]
      exact ⟨rfl, (List.Perm.swap x y t).append_left p⟩
    · cases h
theorem swap_twice {i n : Int} {s s1 : List UInt8} (h : applyT 3 i n s = .ok s1) : s1.length = s.length ∧ ∀ s2, applyT 3 i n s1 = .ok s2 → s2 = s := by
  unfold applyT at h
  rw [if_neg (by decide)] at h
  unfold recsA at h
  split at h
  · cases h
  · rename_i top l hr
    split at h
    · cases h
    · rename_i l' he
      split at h
      · rename_i hall
        injection h with h
        subst h
        obtain ⟨h1, h2, _, _, h5⟩ := recordsV_inv hr
        obtain ⟨ht, hp⟩ := edit_twice he
        have hR : ∀ r ∈ l', Reads r := fun r hr => h2 r (hp.mem_iff.1 hr)
        refine ⟨?_, fun s2 hs2 => ?_⟩
        · rw [h1, List.length_append, List.length_append]
          congr 1
          unfold encAll
          rw [List.length_flatMap, List.length_flatMap]
          exact (hp.map _).sum_nat
        · unfold applyT at hs2
          rw [if_neg (by decide)] at hs2
          cases hq : recordsV (top ++ encAll l') with
          | error e => rw [hq] at hs2; cases hs2
          | ok q =>
            obtain ⟨t2, l2⟩ := q
            obtain ⟨rfl, rfl⟩ := h5 l' hR t2 l2 hq
            rw [hq] at hs2
            unfold recsA at hs2
            simp only [ht] at hs2
            split at hs2
            · injection hs2 with hs2
              rw [← hs2, ← h1]
            · cases hs2
      · cases h
theorem flip_twice {i n : Int} {s s1 : List UInt8} (h : applyT 8 i n s = .ok s1) : s1.length = s.length ∧ ∀ s2, applyT 8 i n s1 = .ok s2 → s2 = s := by
  unfold applyT bytesA bytesV at h
  rw [if_pos (by decide), if_pos rfl] at h
  split at h
  · rename_i s' hs'
    injection h with h
    subst h
    split at hs'
    · cases hs'
    · rename_i hc
      injection hs' with hs'
      subst hs'
      refine ⟨by simp, fun s2 hs2 => ?_⟩
      unfold applyT bytesA bytesV at hs2
      rw [if_pos (by decide), if_pos rfl, List.length_set, if_neg hc] at hs2
      injection hs2 with hs2
      have hil : i.toNat < s.length := by omega
      have e1 : ∀ a : UInt8, (s.set i.toNat a).getD i.toNat 0 = a := fun a => by rw [List.getD_eq_getElem?_getD, List.getElem?_set_self hil]; rfl
      have e2 : s.getD i.toNat 0 = s[i.toNat] := by rw [List.getD_eq_getElem?_getD, List.getElem?_eq_getElem hil]; rfl
      rw [← hs2, e1, List.set_set, flip_flip _ _ (by omega), e2, List.set_getElem_self]
  · cases h

theorem rd0 (a b : S56) : rd_T56 [a, b] 0 = a := rfl
theorem rd1 (a b : S56) : rd_T56 [a, b] 1 = b := rfl
def isK (k : Int) : Prop := k = 3 ∨ k = 5 ∨ (8 ≤ k ∧ k ≤ 10)
theorem k8' : isK 8 := .inr (.inr ⟨by decide, by decide⟩)
theorem k9' : isK 9 := .inr (.inr ⟨by decide, by decide⟩)
theorem k10' : isK 10 := .inr (.inr ⟨by decide, by decide⟩)
theorem app_f {s : ByteArray} {e : S56} (hs : s.size ≤ 900) (hk : isK e.f0) : spoil_Apply.f s e.f0 e.f1 e.f2 = some (resT (applyT e.f0 e.f1 e.f2 s.data.toList)) := by
  unfold spoil_Apply.f
  exact if_pos ⟨hs, hk⟩
/-- Two edits, one behind the other. -/
theorem all_two (k : Nat) (s : ByteArray) (a b : S56) (hs : s.size ≤ 400) (ha : isK a.f0) (hb : isK b.f0) (hlen : ∀ s1, applyT a.f0 a.f1 a.f2 s.data.toList = .ok s1 → s1.length ≤ 900) :
    (∃ (x : ByteArray) (n r : Int), spoil_All.f (k + 3) s [a, b] = some (x, n, r) ∧ r ≠ 0) ∨
    (∃ s1 s2, applyT a.f0 a.f1 a.f2 s.data.toList = .ok s1 ∧ applyT b.f0 b.f1 b.f2 s1 = .ok s2 ∧ spoil_All.f (k + 3) s [a, b] = some (strL s2, 0, 0)) := by
  unfold spoil_All.f
  simp only [spoil_All.l0, List.length_cons, List.length_nil]
  rw [if_pos (by decide), if_pos (by decide), if_pos (by decide), rd0, app_f (by omega) ha]
  cases h1 : applyT a.f0 a.f1 a.f2 s.data.toList with
  | error e =>
    have he := applyT_err h1
    rw [show resT (.error e) = (strL [], e) from rfl]
    simp only [Option.bind_some]
    rw [if_neg he]
    exact .inl ⟨_, _, _, rfl, he⟩
  | ok s1 =>
    have hl := hlen s1 h1
    rw [show resT (.ok s1) = (strL s1, 0) from rfl]
    simp only [Option.bind_some]
    rw [if_pos trivial, show wrap64 (0 + 1) = 1 from by unfold wrap64; omega, if_pos (by decide), if_pos (by decide), if_pos (by decide), rd1, app_f (by rw [strL_size]; exact hl) hb, strL_data]
    cases h2 : applyT b.f0 b.f1 b.f2 s1 with
    | error e =>
      have he := applyT_err h2
      rw [show resT (.error e) = (strL [], e) from rfl]
      simp only [Option.bind_some]
      rw [if_neg he]
      exact .inl ⟨_, _, _, rfl, he⟩
    | ok s2 =>
      rw [show resT (.ok s2) = (strL s2, 0) from rfl]
      simp only [Option.bind_some]
      rw [if_pos trivial, show wrap64 (1 + 1) = 2 from by unfold wrap64; omega, if_neg (by decide)]
      exact .inr ⟨s1, s2, rfl, h2, rfl⟩
theorem list_str (s : ByteArray) (l : List UInt8) (h : l = s.data.toList) : (strL l).toList = s.toList := by rw [ByteArray.toList_eq, ByteArray.toList_eq, strL_data, h]

theorem awake_f : juratlaw41_awake.f = some true := by
  have hr : recordsV [99, 101, 114, 116, 1, 1, 0, 1, 2, 2, 6, 4, 0] = .ok ([99, 101, 114, 116, 1, 1, 0], [⟨1, 2, 2, []⟩, ⟨6, 4, 0, []⟩]) := rfl
  have he : editV 5 0 1 [⟨1, 2, 2, []⟩, ⟨6, 4, 0, []⟩] = some [⟨1, 2, 3, []⟩, ⟨6, 4, 0, []⟩] := rfl
  have hc : ([⟨1, 2, 3, []⟩, ⟨6, 4, 0, []⟩] : List Rec).all checkR = true := rfl
  have hn : encAll [⟨1, 2, 3, []⟩, ⟨6, 4, 0, []⟩] = [1, 2, 3, 6, 4, 0] := by simp [encAll, encR, encV_small]
  have ha : applyT 5 0 1 [99, 101, 114, 116, 1, 1, 0, 1, 2, 2, 6, 4, 0] = .ok [99, 101, 114, 116, 1, 1, 0, 1, 2, 3, 6, 4, 0] := by
    unfold applyT
    rw [if_neg (by decide), hr]
    simp only [recsA, he]
    rw [if_pos hc, hn]
    rfl
  unfold juratlaw41_awake.f
  have hf : spoil_Apply.f (⟨#[99, 101, 114, 116, 1, 1, 0, 1, 2, 2, 6, 4, 0]⟩ : ByteArray) 5 0 1 = some (strL [99, 101, 114, 116, 1, 1, 0, 1, 2, 3, 6, 4, 0], 0) := by
    unfold spoil_Apply.f
    rw [if_pos ⟨by decide, by decide⟩]
    show some (resT (applyT 5 0 1 [99, 101, 114, 116, 1, 1, 0, 1, 2, 2, 6, 4, 0])) = _
    rw [ha]
    rfl
  rw [hf]
  simp only [Option.bind_some]
  rw [if_pos (by rw [ByteArray.toList_eq, strL_data])]
  rfl

theorem and255 (x : Int) : 0 ≤ Go.bits .and .i64 x 255 ∧ Go.bits .and .i64 x 255 ≤ 255 := by
  have h : Go.bits .and .i64 x 255 = IntKind.i64.wrap (((BitVec.ofInt 64 x) &&& (BitVec.ofInt 64 255)).toNat : Int) := rfl
  have h2 : ((BitVec.ofInt 64 x) &&& (BitVec.ofInt 64 255)).toNat ≤ 255 := by rw [BitVec.toNat_and]; exact Nat.le_trans Nat.and_le_right (by decide)
  rw [h, IntKind.wrap_i64]
  omega

theorem SpoilTwice : juratlaw41_SpoilTwice.Pure := by
  intro s i n _ _ _
  refine ⟨6, ?_⟩
  unfold juratlaw41_SpoilTwice.f
  by_cases hs : (s.size : Int) > 400
  · rw [if_pos hs, awake_f]; rfl
  rw [if_neg hs]
  have hsz := size_list s
  have key : ∀ (k : Nat) (kind : Int), isK kind → (∀ s1, applyT kind i n s.data.toList = .ok s1 → s1.length = s.data.toList.length ∧ ∀ s2, applyT kind i n s1 = .ok s2 → s2 = s.data.toList) →
      ∃ (x : ByteArray) (m r : Int), spoil_All.f (k + 3) s [⟨kind, i, n⟩, ⟨kind, i, n⟩] = some (x, m, r) ∧ (r = 0 → x.toList = s.toList) := fun k kind hk hh => by
    rcases all_two k s ⟨kind, i, n⟩ ⟨kind, i, n⟩ (by omega) hk hk (fun s1 h1 => by have := (hh s1 h1).1; omega) with ⟨x, m, r, h, hr⟩ | ⟨s1, s2, h1, h2, h⟩
    · exact ⟨x, m, r, h, fun h0 => absurd h0 hr⟩
    · exact ⟨_, _, _, h, fun _ => list_str _ _ ((hh s1 h1).2 s2 h2)⟩
  obtain ⟨x3, m3, r3, h3, k3⟩ := key 2 3 (.inl rfl) (fun s1 h => swap_twice h)
  obtain ⟨x8, m8, r8, h8, k8⟩ := key 1 8 k8' (fun s1 h => flip_twice h)
  obtain ⟨b1, b2⟩ := and255 n
  have hend : juratlaw41_SpoilTwice.l0 4 s i n 13 = some true := by
    simp only [juratlaw41_SpoilTwice.l0]
    rw [if_neg (by decide)]
    have ht : applyT 10 0 (Go.bits .and .i64 n 255) s.data.toList = .ok (s.data.toList ++ [UInt8.ofNat (Go.bits .and .i64 n 255).toNat]) := by
      unfold applyT bytesA bytesV
      rw [if_pos (by decide), if_neg (by decide), if_neg (by decide), if_neg (by omega)]
    have hc : applyT 9 (s.size : Int) 0 (s.data.toList ++ [UInt8.ofNat (Go.bits .and .i64 n 255).toNat]) = .ok s.data.toList := by
      unfold applyT bytesA bytesV
      rw [if_pos (by decide), if_neg (by decide), if_pos rfl, if_neg (by rw [List.length_append]; simp; omega), Int.toNat_natCast, List.take_append_of_le_length (by omega), List.take_of_length_le (by omega)]
    rcases all_two 0 s ⟨10, 0, Go.bits .and .i64 n 255⟩ ⟨9, (s.size : Int), 0⟩ (by omega) k10' k9' (fun s1 h1 => by
        simp only at h1
        rw [ht] at h1
        injection h1 with h1
        rw [← h1, List.length_append]; simp; omega) with ⟨x, m, r, h, hr⟩ | ⟨s1, s2, h1, h2, h⟩
    · exfalso
      have h' := h
      unfold spoil_All.f at h'
      simp only [spoil_All.l0, List.length_cons, List.length_nil] at h'
      rw [if_pos (by decide), if_pos (by decide), if_pos (by decide), rd0, app_f (by omega) k10', ht, show ∀ l, resT (.ok l) = (strL l, 0) from fun _ => rfl] at h'
      simp only [Option.bind_some] at h'
      rw [if_pos trivial, show wrap64 (0 + 1) = 1 from by unfold wrap64; omega, if_pos (by decide), if_pos (by decide), if_pos (by decide), rd1, app_f (by rw [strL_size, List.length_append]; simp; omega) k9', strL_data, hc, show ∀ l, resT (.ok l) = (strL l, 0) from fun _ => rfl] at h'
      simp only [Option.bind_some] at h'
      rw [if_pos trivial, show wrap64 (1 + 1) = 2 from by unfold wrap64; omega, if_neg (by decide)] at h'
      injection h' with h'
      injection h' with _ h'
      injection h' with _ h'
      exact hr h'.symm
    · simp only at h1 h2
      rw [ht] at h1
      injection h1 with h1
      rw [← h1, hc] at h2
      injection h2 with h2
      rw [h]
      simp only [Option.bind_some]
      rw [if_pos (list_str _ _ h2.symm), if_pos trivial, awake_f]
      rfl
  have he8 : juratlaw41_SpoilTwice.l0 5 s i n 8 = some true := by
    rw [juratlaw41_SpoilTwice.l0, if_pos (by decide), h8]
    simp only [Option.bind_some]
    rw [show wrap64 (8 + 5) = 13 from by unfold wrap64; omega]
    by_cases hr : r8 = 0
    · rw [if_pos hr, if_pos (k8 hr)]; exact hend
    · rw [if_neg hr]; exact hend
  rw [juratlaw41_SpoilTwice.l0, if_pos (by decide), h3]
  simp only [Option.bind_some]
  rw [show wrap64 (3 + 5) = 8 from by unfold wrap64; omega]
  by_cases hr : r3 = 0
  · rw [if_pos hr, if_pos (k3 hr)]; exact he8
  · rw [if_neg hr]; exact he8
end Go.Proofs.Ytdapjfnpnmejnaa.Pure
