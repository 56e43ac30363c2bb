/- What the printed texts of numbers and records come to; no program in sight. -/
import Derived.Test.YtdapjfnpnmejnaaGBx1
import Derived.Test.YtdapjfnpnmejnaaGBx2
namespace Go.Proofs.Ytdapjfnpnmejnaa
open Go.RowKit Go.Proofs.YtdapjfnpnmejnaaW.PrintWords Go.Proofs.Ytdapjfnpnmejnaa.GB
set_option linter.unusedVariables false
set_option linter.unusedSimpArgs false

theorem numL_err : ∀ (k : Nat) (s : List UInt8) (f : Bool) (e : Int), numL k s f = .error e → e ≠ 0
  | 0, s, f, e, h => by injection h with h; omega
  | k + 1, [], f, e, h => by injection h with h; omega
  | k + 1, c :: s, f, e, h => by
    rw [numL] at h
    split at h
    · split at h
      · injection h with h; omega
      · cases h
    · split at h
      · cases h
      · rename_i e' hr
        injection h with h
        subst h
        exact numL_err k s false e' hr
theorem takeV_err {s : List UInt8} {e : Int} (h : takeV s = .error e) : e ≠ 0 := numL_err _ _ _ _ h
theorem cut_list (s : ByteArray) (a : Nat) : (s.extract a s.size).data.toList = s.data.toList.drop a := by rw [extract_end]
theorem cut_size (s : ByteArray) (a : Nat) : (s.extract a s.size).size = s.size - a := by rw [ByteArray.size_extract, Nat.min_self]
theorem vTake (s : ByteArray) (a : Nat) (hs : s.size ≤ 1000000) : varint_Take.f (s.extract a s.size) = some (vresT (takeV (s.data.toList.drop a))) := by
  unfold varint_Take.f
  rw [if_pos (by rw [cut_size]; omega), cut_list]

section
variable {s : ByteArray} {at_ n z : Nat} {e : Int}
theorem fail_no (s : ByteArray) (a e x : Int) : record_taker_fail.f s a e false x = some (s, a, e) := rfl
theorem fail_hit (s : ByteArray) (a x : Int) : record_taker_fail.f s a 0 true x = some (s, a, x) := rfl
theorem fail_keep (s : ByteArray) (a x : Int) (b : Bool) (he : e ≠ 0) : record_taker_fail.f s a e b x = some (s, a, e) := by
  unfold record_taker_fail.f
  rw [if_neg he]
  cases b <;> rfl
theorem num_ok (hs : s.size ≤ 1000000) (ha : at_ ≤ s.size) (h : takeV (s.data.toList.drop at_) = .ok (n, z)) : record_taker_num.f s at_ 0 = some ((n : Int), s, ((at_ + z : Nat) : Int), 0) := by
  have hb := takeV_bound h
  unfold record_taker_num.f
  rw [if_pos rfl, if_pos (by omega), if_pos (by omega), Int.toNat_natCast, vTake s at_ hs, h]
  simp only [Option.bind_some, vresT]
  rw [show ((0 : Int) != 0) = false from rfl, fail_no, wrap_in (by omega) (by omega)]
  rfl
theorem num_err (hs : s.size ≤ 1000000) (ha : at_ ≤ s.size) (h : takeV (s.data.toList.drop at_) = .error e) : record_taker_num.f s at_ 0 = some (0, s, (at_ : Int), e) := by
  have he := takeV_err h
  unfold record_taker_num.f
  rw [if_pos rfl, if_pos (by omega), if_pos (by omega), Int.toNat_natCast, vTake s at_ hs, h]
  simp only [Option.bind_some, vresT]
  rw [show (e != 0) = true from by simpa using he, fail_hit, wrap_in (by omega) (by omega)]
  simp
theorem num_stop (he : e ≠ 0) (a : Int) : record_taker_num.f s a e = some (0, s, a, e) := by
  unfold record_taker_num.f
  rw [if_neg he]

theorem wadd {a d : Nat} (h : a + d ≤ 1000000) : wrap64 ((a : Int) + (d : Int)) = ((a + d : Nat) : Int) := by rw [wrap_in (by omega) (by omega)]; omega
theorem w1 {k : Nat} (h : k ≤ 1000000) : wrap64 ((k : Int) + 1) = ((k + 1 : Nat) : Int) := by rw [wrap_in (by omega) (by omega)]; omega
theorem big_no {a d : Nat} (ha : a ≤ 65534) (h : ¬ 65534 < a + d) : (decide ((d : Int) > wrap64 (65534 - (a : Int)))) = false := by rw [wrap_in (by omega) (by omega)]; simp; omega
theorem big_yes {a d : Nat} (ha : a ≤ 65534) (h : 65534 < a + d) : (decide ((d : Int) > wrap64 (65534 - (a : Int)))) = true := by rw [wrap_in (by omega) (by omega)]; simp; omega
theorem l0_stop (he : e ≠ 0) (n : Int) (out : List Int) (ahead kk a : Int) : Ev (fun k => record_taker_list.l0 k n out ahead kk s a e) (out, s, a, e) := by
  have hb : (e == 0) = false := by simpa using he
  have hj : Ev (fun k => record_taker_list.j1 k n out ahead kk false s a e) (out, s, a, e) :=
    Ev.step (fun k => by simp only [record_taker_list.j1]; rw [if_neg (by simp)]) (Ev.now _)
  by_cases h : kk < n
  · exact Ev.step (fun k => by simp only [record_taker_list.l0]; rw [if_pos h, hb]) hj
  · exact Ev.step (fun k => by simp only [record_taker_list.l0]; rw [if_neg h]) hj

theorem l0_ok (hs : s.size ≤ 1000000) : ∀ (m n kk ahead at_ : Nat) (out : List Int) (l : List Int) (z : Nat), n = kk + m → n ≤ 65535 → out.length = kk → ahead ≤ 65534 → at_ ≤ s.size →
    idsL m (decide (kk = 0)) ahead (s.data.toList.drop at_) = .ok (l, z) → Ev (fun k => record_taker_list.l0 k n out ahead kk s at_ 0) (out ++ l, s, ((at_ + z : Nat) : Int), 0)
  | 0, n, kk, ahead, at_, out, l, z, hn, hn2, ho, ha, hat, h => by
    injection h with h
    injection h with h1 h2
    subst h1; subst h2
    refine Ev.step (f := fun k => record_taker_list.j1 k n out ahead kk false s at_ 0) (fun k => by simp only [record_taker_list.l0]; rw [if_neg (by omega)]) (Ev.step (f := fun _ => some (out ++ [], s, ((at_ + 0 : Nat) : Int), 0)) (fun k => by simp only [record_taker_list.j1]; rw [if_neg (by simp), List.append_nil]; rfl) (Ev.now _))
  | m + 1, n, kk, ahead, at_, out, l, z, hn, hn2, ho, ha, hat, h => by
    rw [idsL] at h
    split at h
    · cases h
    · rename_i d z1 ht
      split at h
      · cases h
      · rename_i h1
        split at h
        · cases h
        · rename_i h2
          split at h
          · cases h
          · rename_i l' z2 hi
            injection h with h
            injection h with h3 h4
            subst h3; subst h4
            have hb := takeV_bound ht
            have hz1 : at_ + z1 ≤ s.size := by have := hb.2.2.2; simp at this; have e : s.data.size = s.size := rfl; omega
            have ih := l0_ok hs m n (kk + 1) (ahead + d) (at_ + z1) (out ++ [((ahead + d : Nat) : Int)]) l' z2 (by omega) hn2 (by simp [ho]) (by omega) hz1 (by rw [show decide (kk + 1 = 0) = false by simp]; rw [List.drop_drop] at hi; exact hi)
            refine Ev.step (f := fun k => record_taker_list.j1 k n out ahead kk true s at_ 0) (fun k => by simp only [record_taker_list.l0]; rw [if_pos (by omega)]; rfl) (Ev.step (f := fun k => record_taker_list.l0 k n (out ++ [((ahead + d : Nat) : Int)]) ((ahead + d : Nat) : Int) ((kk + 1 : Nat) : Int) s ((at_ + z1 : Nat) : Int) 0) (fun k => ?_) ?_)
            · simp only [record_taker_list.j1]
              rw [if_pos trivial, num_ok hs hat ht]
              simp only [Option.bind_some]
              by_cases hd : d = 0
              · have hkk : kk = 0 := Classical.byContradiction fun hc => h1 ⟨hd, by simpa using hc⟩
                rw [if_pos (by omega), show (decide ((kk : Int) > 0)) = false by simp; omega, fail_no]
                simp only [Option.bind_some]
                rw [big_no (by omega) (by omega), fail_no]
                simp only [Option.bind_some]
                rw [if_pos (by omega), wadd (by omega), w1 (by omega)]
              · rw [if_neg (by omega), fail_no]
                simp only [Option.bind_some]
                rw [big_no (by omega) (by omega), fail_no]
                simp only [Option.bind_some]
                rw [if_pos (by omega), wadd (by omega), w1 (by omega)]
            · rw [show out ++ (((ahead + d : Nat) : Int) :: l') = out ++ [((ahead + d : Nat) : Int)] ++ l' by simp, show at_ + (z1 + z2) = at_ + z1 + z2 by omega]
              exact ih
theorem l0_err (hs : s.size ≤ 1000000) : ∀ (m n kk ahead at_ : Nat) (out : List Int) (e : Int), n = kk + m → n ≤ 65535 → out.length = kk → ahead ≤ 65534 → at_ ≤ s.size →
    idsL m (decide (kk = 0)) ahead (s.data.toList.drop at_) = .error e → e ≠ 0 ∧ ∃ l' a', Ev (fun k => record_taker_list.l0 k n out ahead kk s at_ 0) (l', s, a', e)
  | 0, n, kk, ahead, at_, out, e, hn, hn2, ho, ha, hat, h => by cases h
  | m + 1, n, kk, ahead, at_, out, e, hn, hn2, ho, ha, hat, h => by
    rw [idsL] at h
    split at h
    · rename_i er ht
      injection h with h
      subst h
      have he := takeV_err ht
      refine ⟨he, _, _, Ev.step (f := fun k => record_taker_list.j1 k n out ahead kk true s at_ 0) (fun k => by simp only [record_taker_list.l0]; rw [if_pos (by omega)]; rfl) (Ev.step (f := fun k => record_taker_list.l0 k n (out ++ [wrap64 ((ahead : Int) + 0)]) (wrap64 ((ahead : Int) + 0)) (wrap64 ((kk : Int) + 1)) s (at_ : Int) er) (fun k => ?_) (l0_stop he _ _ _ _ _))⟩
      simp only [record_taker_list.j1]
      rw [if_pos trivial, num_err hs hat ht]
      simp only [Option.bind_some]
      rw [if_pos trivial, fail_keep _ _ _ _ he]
      simp only [Option.bind_some]
      rw [fail_keep _ _ _ _ he]
      simp only [Option.bind_some]
      rw [if_pos (by omega)]
    · rename_i d z1 ht
      have hb := takeV_bound ht
      have hz1 : at_ + z1 ≤ s.size := by have := hb.2.2.2; simp at this; have e : s.data.size = s.size := rfl; omega
      split at h
      · rename_i h1
        injection h with h
        subst h
        obtain ⟨hd, hkk⟩ := h1
        have hkk' : kk ≠ 0 := by simpa using hkk
        refine ⟨by omega, _, _, Ev.step (f := fun k => record_taker_list.j1 k n out ahead kk true s at_ 0) (fun k => by simp only [record_taker_list.l0]; rw [if_pos (by omega)]; rfl) (Ev.step (f := fun k => record_taker_list.l0 k n (out ++ [wrap64 ((ahead : Int) + (d : Int))]) (wrap64 ((ahead : Int) + (d : Int))) (wrap64 ((kk : Int) + 1)) s ((at_ + z1 : Nat) : Int) 9) (fun k => ?_) (l0_stop (by omega) _ _ _ _ _))⟩
        simp only [record_taker_list.j1]
        rw [if_pos trivial, num_ok hs hat ht]
        simp only [Option.bind_some]
        rw [if_pos (by omega), show (decide ((kk : Int) > 0)) = true by simp; omega, fail_hit]
        simp only [Option.bind_some]
        rw [fail_keep _ _ _ _ (by omega)]
        simp only [Option.bind_some]
        rw [if_pos (by omega)]
      · rename_i h1
        split at h
        · rename_i h2
          injection h with h
          subst h
          refine ⟨by omega, _, _, Ev.step (f := fun k => record_taker_list.j1 k n out ahead kk true s at_ 0) (fun k => by simp only [record_taker_list.l0]; rw [if_pos (by omega)]; rfl) (Ev.step (f := fun k => record_taker_list.l0 k n (out ++ [wrap64 ((ahead : Int) + (d : Int))]) (wrap64 ((ahead : Int) + (d : Int))) (wrap64 ((kk : Int) + 1)) s ((at_ + z1 : Nat) : Int) 11) (fun k => ?_) (l0_stop (by omega) _ _ _ _ _))⟩
          simp only [record_taker_list.j1]
          rw [if_pos trivial, num_ok hs hat ht]
          simp only [Option.bind_some]
          rw [if_neg (by omega), fail_no]
          simp only [Option.bind_some]
          rw [big_yes (by omega) (by omega), fail_hit]
          simp only [Option.bind_some]
          rw [if_pos (by omega)]
        · rename_i h2
          split at h
          · rename_i er hi
            injection h with h
            subst h
            obtain ⟨he, l', a', ih⟩ := l0_err hs m n (kk + 1) (ahead + d) (at_ + z1) (out ++ [((ahead + d : Nat) : Int)]) er (by omega) hn2 (by simp [ho]) (by omega) hz1 (by rw [show decide (kk + 1 = 0) = false by simp]; rw [List.drop_drop] at hi; exact hi)
            refine ⟨he, l', a', Ev.step (f := fun k => record_taker_list.j1 k n out ahead kk true s at_ 0) (fun k => by simp only [record_taker_list.l0]; rw [if_pos (by omega)]; rfl) (Ev.step (f := fun k => record_taker_list.l0 k n (out ++ [((ahead + d : Nat) : Int)]) ((ahead + d : Nat) : Int) ((kk + 1 : Nat) : Int) s ((at_ + z1 : Nat) : Int) 0) (fun k => ?_) ih)⟩
            simp only [record_taker_list.j1]
            rw [if_pos trivial, num_ok hs hat ht]
            simp only [Option.bind_some]
            by_cases hd : d = 0
            · have hkk : kk = 0 := Classical.byContradiction fun hc => h1 ⟨hd, by simpa using hc⟩
              rw [if_pos (by omega), show (decide ((kk : Int) > 0)) = false by simp; omega, fail_no]
              simp only [Option.bind_some]
              rw [big_no (by omega) (by omega), fail_no]
              simp only [Option.bind_some]
              rw [if_pos (by omega), wadd (by omega), w1 (by omega)]
            · rw [if_neg (by omega), fail_no]
              simp only [Option.bind_some]
              rw [big_no (by omega) (by omega), fail_no]
              simp only [Option.bind_some]
              rw [if_pos (by omega), wadd (by omega), w1 (by omega)]
          · cases h
theorem list_ok {l : List Int} (hs : s.size ≤ 1000000) (ha : at_ ≤ s.size) (h : idsT (s.data.toList.drop at_) = .ok (l, z)) : ∃ k, record_taker_list.f k s at_ 0 = some (l, s, ((at_ + z : Nat) : Int), 0) := by
  unfold idsT at h
  split at h
  · cases h
  · rename_i n z1 ht
    split at h
    · cases h
    · rename_i h1
      split at h
      · cases h
      · rename_i l' z2 hi
        injection h with h
        injection h with h3 h4
        subst h3; subst h4
        have hb := takeV_bound ht
        have hz1 : at_ + z1 ≤ s.size := by have := hb.2.2.2; simp at this; have e : s.data.size = s.size := rfl; omega
        obtain ⟨k, hk⟩ := (l0_ok hs n n 0 0 (at_ + z1) [] l' z2 (by omega) (by omega) rfl (by omega) hz1 (by rw [List.drop_drop] at hi; exact hi)).rounds
        refine ⟨k, ?_⟩
        unfold record_taker_list.f
        rw [num_ok hs ha ht]
        simp only [Option.bind_some]
        rw [show (decide ((n : Int) > 65535)) = false by simp; omega, fail_no]
        simp only [Option.bind_some]
        rw [show at_ + (z1 + z2) = at_ + z1 + z2 by omega]
        exact hk
theorem list_err (hs : s.size ≤ 1000000) (ha : at_ ≤ s.size) (h : idsT (s.data.toList.drop at_) = .error e) : e ≠ 0 ∧ ∃ k l' a', record_taker_list.f k s at_ 0 = some (l', s, a', e) := by
  unfold idsT at h
  split at h
  · rename_i er ht
    injection h with h
    subst h
    have he := takeV_err ht
    obtain ⟨k, hk⟩ := (l0_stop (s := s) he 0 [] 0 0 at_).rounds
    refine ⟨he, k, [], at_, ?_⟩
    unfold record_taker_list.f
    rw [num_err hs ha ht]
    simp only [Option.bind_some]
    rw [show (decide ((0 : Int) > 65535)) = false by simp, fail_no]
    exact hk
  · rename_i n z1 ht
    split at h
    · rename_i h1
      injection h with h
      subst h
      obtain ⟨k, hk⟩ := (l0_stop (s := s) (show (6 : Int) ≠ 0 by omega) n [] 0 0 ((at_ + z1 : Nat) : Int)).rounds
      refine ⟨by omega, k, [], ((at_ + z1 : Nat) : Int), ?_⟩
      unfold record_taker_list.f
      rw [num_ok hs ha ht]
      simp only [Option.bind_some]
      rw [show (decide ((n : Int) > 65535)) = true by simp; omega, fail_hit]
      exact hk
    · rename_i h1
      split at h
      · rename_i er hi
        injection h with h
        subst h
        have hb := takeV_bound ht
        have hz1 : at_ + z1 ≤ s.size := by have := hb.2.2.2; simp at this; have e : s.data.size = s.size := rfl; omega
        obtain ⟨he, l', a', hv⟩ := l0_err hs n n 0 0 (at_ + z1) [] er (by omega) (by omega) rfl (by omega) hz1 (by rw [List.drop_drop] at hi; exact hi)
        obtain ⟨k, hk⟩ := hv.rounds
        refine ⟨he, k, l', a', ?_⟩
        unfold record_taker_list.f
        rw [num_ok hs ha ht]
        simp only [Option.bind_some]
        rw [show (decide ((n : Int) > 65535)) = false by simp; omega, fail_no]
        exact hk
      · cases h
theorem off_ok {least : Nat} (hl : least ≤ 1) (hs : s.size ≤ 1000000) (ha : at_ ≤ s.size) (h : offT least (s.data.toList.drop at_) = .ok (n, z)) : record_taker_offset.f s at_ 0 least = some ((n : Int), s, ((at_ + z : Nat) : Int), 0) := by
  obtain ⟨ht, h1, h2⟩ := offT_inv h
  unfold record_taker_offset.f
  rw [num_ok hs ha ht]
  simp only [Option.bind_some]
  rw [if_neg (by omega)]
  have hI : reckon_Is.f (n : Int) = some true := by unfold reckon_Is.f; rw [isO_iff.2 ⟨by omega, by omega⟩]
  rw [hI]
  simp only [Option.bind_some]
  rw [show (!true) = false from rfl, fail_no]
  rfl
theorem off_err {least : Nat} (hl : least ≤ 1) (hs : s.size ≤ 1000000) (ha : at_ ≤ s.size) (h : offT least (s.data.toList.drop at_) = .error e) : e ≠ 0 ∧ ∃ n' a' : Int, record_taker_offset.f s at_ 0 least = some (n', s, a', e) := by
  unfold offT at h
  split at h
  · rename_i er ht
    injection h with h
    subst h
    have he := takeV_err ht
    refine ⟨he, 0, at_, ?_⟩
    unfold record_taker_offset.f
    rw [num_err hs ha ht]
    simp only [Option.bind_some]
    have hI : reckon_Is.f 0 = some true := by unfold reckon_Is.f; rw [isO_iff.2 ⟨by omega, by omega⟩]
    rw [hI]
    by_cases hc : (0 : Int) < least
    · rw [if_pos hc, fail_keep _ _ _ _ he]; rfl
    · rw [if_neg hc]
      simp only [Option.bind_some]
      rw [fail_keep _ _ _ _ he]; rfl
  · rename_i n' z' ht
    split at h
    · rename_i hc
      injection h with h
      subst h
      have hb := takeV_bound ht
      refine ⟨by omega, n', ((at_ + z' : Nat) : Int), ?_⟩
      unfold record_taker_offset.f
      rw [num_ok hs ha ht]
      simp only [Option.bind_some]
      by_cases h1 : n' < least
      · rw [if_pos (by omega), fail_hit]; rfl
      · rw [if_neg (by omega)]
        have hI : reckon_Is.f (n' : Int) = some false := by unfold reckon_Is.f; rw [isO_no.2 (.inr (by omega))]
        rw [hI]
        simp only [Option.bind_some]
        rw [show (!false) = true from rfl, fail_hit]; rfl
    · cases h
end
theorem off_stop {s : ByteArray} {e : Int} (he : e ≠ 0) (least a : Int) : ∃ n' : Int, record_taker_offset.f s a e least = some (n', s, a, e) := by
  refine ⟨0, ?_⟩
  unfold record_taker_offset.f
  rw [num_stop he]
  simp only [Option.bind_some]
  have hI : reckon_Is.f 0 = some true := by unfold reckon_Is.f; rw [isO_iff.2 ⟨by omega, by omega⟩]
  rw [hI]
  by_cases hc : (0 : Int) < least
  · rw [if_pos hc, fail_keep _ _ _ _ he]; rfl
  · rw [if_neg hc]
    simp only [Option.bind_some]
    rw [fail_keep _ _ _ _ he]; rfl
end Go.Proofs.Ytdapjfnpnmejnaa
