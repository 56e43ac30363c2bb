/- The bytes of records, by the program; no condition but the sizes. -/
import Derived.Test.YtdapjfnpnmejnaaSpO
namespace Go.Proofs.Ytdapjfnpnmejnaa
open Go.RowKit Go.Proofs.YtdapjfnpnmejnaaW.PrintWords Go.Proofs.Ytdapjfnpnmejnaa.GB
set_option linter.unusedVariables false
set_option linter.unusedSimpArgs false
set_option maxRecDepth 100000

theorem encI_len : ∀ (l : List Int) (a : Int), 0 ≤ a → ((a = 0 ∧ risesL (-1) l = true) ∨ risesL a l = true) → (encI a l).length ≤ 9 * l.length
  | [], a, _, _ => by simp [encI]
  | z :: l, a, ha, h => by
    obtain ⟨h1, h2, h3⟩ := rises_step h ha
    have ih := encI_len l z (by omega) (.inr h3)
    have he : (encV (z - a).toNat).length ≤ 9 := by
      rw [encV_len]
      exact sizeL_le 9 _ (by have : (128 : Nat) ^ 9 = 9223372036854775808 := by decide
                             omega) (by omega)
    simp only [encI, List.length_append, List.length_cons]
    omega
theorem encV_len9 (n : Nat) (h : n ≤ 4611686018427387903) : (encV n).length ≤ 9 := by
  rw [encV_len]
  exact sizeL_le 9 _ (by have : (128 : Nat) ^ 9 = 9223372036854775808 := by decide
                         omega) (by omega)
theorem encR_len {r : Rec} (h : checkR r = true) (hl : r.ids.length ≤ 1000000) : (encR r).length ≤ 10000000 := by
  unfold checkR at h
  unfold encR
  by_cases h4 : r.kind = 4
  · rw [if_pos h4] at h ⊢
    simp only [Bool.and_eq_true] at h
    have h1 := encI_len r.ids 0 (by omega) (.inl ⟨rfl, h.2⟩)
    have h2 := encV_len9 r.ids.length (by omega)
    simp only [List.length_cons, List.length_append]
    omega
  · rw [if_neg h4] at h ⊢
    simp only [Bool.and_eq_true] at h
    obtain ⟨⟨⟨_, a1⟩, a2⟩, _⟩ := h
    have b1 := isO_iff.1 a1
    have b2 := isO_iff.1 a2
    have c1 := encV_len9 r.n.toNat (by omega)
    have c2 := encV_len9 r.r.toNat (by omega)
    simp only [List.length_cons, List.length_append]
    omega
theorem rd_rec {l : List Rec} {k : Nat} (h : k < l.length) : rd_T33 (l.map toS) (k : Int) = toS l[k] := by
  unfold rd_T33
  rw [Int.toNat_natCast, List.getD_eq_getElem?_getD, List.getElem?_map, List.getElem?_eq_getElem h]; rfl
/-- The record at place k. -/
theorem rec_at {w : World} {A : Option Addr} {l : List Rec} (h : Kd.C k33 w A l.length (l.map toS)) {k : Nat} (hk : k < l.length) : ∃ (ad : Addr) (A3 : Option Addr) (c3 : Nat), A = some ad ∧ w.cell? (ad.add (k * 4)) = some (.int .i64 l[k].kind) ∧ w.cell? ⟨(ad.add (k * 4)).block, (ad.add (k * 4)).off + 1, none⟩ = some (.int .i64 l[k].n) ∧
    w.cell? ⟨(ad.add (k * 4)).block, (ad.add (k * 4)).off + 2, none⟩ = some (.int .i64 l[k].r) ∧ w.cell? ⟨(ad.add (k * 4)).block, (ad.add (k * 4)).off + 3, none⟩ = some (.slice A3 l[k].ids.length c3) ∧ l[k].ids.length ≤ c3 ∧ Kd.C (Kd.int .i64) w A3 l[k].ids.length l[k].ids := by
  obtain ⟨ad, A3, c3, e, h0, h1, h2, h3, h4, h5⟩ := at_T33 h (k : Int) (by omega) (by omega)
  simp only [rd_rec hk, Int.toNat_natCast] at h0 h1 h2 h3 h4 h5
  exact ⟨ad, A3, c3, e, h0, h1, h2, h3, h4, h5⟩

def WrittenPost (l : List Rec) (w : World) (e : Ending) (w' : World) : Prop :=
  ∃ (s : List UInt8) (er : Int), e = .returned (.tuple #[.string (strL s), .int .i64 er]) ∧ ((er = 0 ∧ (∀ r ∈ l, checkR r = true) ∧ s = encAll l) ∨ (er = 2 ∧ ¬ (∀ r ∈ l, checkR r = true) ∧ s = [])) ∧ Pure' w w'

set_option maxHeartbeats 1000000 in
theorem written_ (A : Option Addr) (c : Nat) (l : List Rec) (w : World) (h : Kd.C k33 w A l.length (l.map toS)) (hn : l.length ≤ 1000) (hi : ∀ r ∈ l, r.ids.length ≤ 1000000) :
    Calls Try.prog 65 #[.slice A l.length c] w fun e w' => WrittenPost l w e w' := by
  have HC := Lib.hid (fun W (hp : Pure' w W) => Kd.C_below h hp.pure)
  have HI := Lib.hid hi
  have HB0 := Lib.hid (BInv.fresh w w (Keeps.refl _ _))
  clear h hi
  generalize hm : l.length = m at *
  have HM := Lib.hid hm
  clear hm
  go_enter Try.func65, Try.ntmps65
  go_wp2
  go_loopw [11] (fun v11 wr => ∃ (k : Nat) (acc : List UInt8), k ≤ m ∧ v11 = .int .i64 k ∧ Hid (acc.length ≤ k * 10000000) ∧ Hid (acc = encAll (l.take k)) ∧ Hid (∀ r ∈ l.take k, checkR r = true) ∧ Hid (BInv w wr w.heap.size acc)) (fun v11 _ => m - (intOf v11).toNat)
  case atStart => exact ⟨0, [], Nat.zero_le _, rfl, Lib.hid (by simp), Lib.hid rfl, Lib.hid (by simp), HB0⟩
  case round =>
    obtain ⟨k, acc, hk, rfl, HAL, HACC, HALL, HB⟩ := hrel
    by_cases hlt : k < m
    · have hkl : k < l.length := by rw [HM.out]; exact hlt
      have hcc := HC.out _ HB.out.pure
      rw [← HM.out] at hcc
      obtain ⟨ad, A3, c3, rfl, d0, d1, d2, d3, hq, hC3⟩ := rec_at hcc hkl
      have hr := HI.out l[k] (List.getElem_mem hkl)
      have HT : Hid (l.take (k + 1) = l.take k ++ [l[k]]) := Lib.hid (List.take_succ_eq_append_getElem hkl)
      have HMEM : Hid (l[k] ∈ l) := Lib.hid (List.getElem_mem hkl)
      generalize l[k] = r at *
      obtain ⟨rk, rn, rr, ri⟩ := r
      simp only at d0 d1 d2 d3 hq hC3 hr
      have HC3 := Lib.hid (Kd.C_below hC3 ((Keeps.refl (fun _ => False) _).alloc (.cells #[.int .i64 rk, .int .i64 rn, .int .i64 rr, .slice A3 ri.length c3] 33)).pure)
      have HBA := Lib.hid (HB.out.step ((Keeps.refl (fun _ => False) _).alloc (.cells #[.int .i64 rk, .int .i64 rn, .int .i64 rr, .slice A3 ri.length c3] 33)))
      clear hC3 hcc
      go_wp2_with fail
      refine (rput_ rk rn rr A3 c3 ri _ HC3.out hq hr).mono ?_
      rintro e w2 ⟨s, er, rfl, hcase, hp⟩
      have HB2 := Lib.hid (HBA.out.step hp)
      clear hp
      rcases hcase with ⟨rfl, hck, rfl⟩ | ⟨rfl, hck, rfl⟩
      · have hel := encR_len hck hr
        generalize hEn : encR ⟨rk, rn, rr, ri⟩ = En at *
        have HEN := Lib.hid hEn
        have HCK := Lib.hid hck
        clear hEn hck
        go_wp2_with fail
        refine (bw_ w _ w.heap.size acc En HB2.out (by have := HAL.out; omega)).mono ?_
        rintro e w3 ⟨rfl, hb3⟩
        have HB3 := Lib.hid hb3
        clear hb3
        go_wp2
        go_roundw
        case rel =>
          refine ⟨k + 1, acc ++ En, by omega, by go_num, Lib.hid (by rw [List.length_append]; have := HAL.out; omega), Lib.hid ?_, Lib.hid ?_, HB3⟩
          · rw [HT.out, HACC.out, encAll, encAll, List.flatMap_append, ← HEN.out]; simp
          · intro r hr
            rw [HT.out] at hr
            rcases List.mem_append.1 hr with hr | hr
            · exact HALL.out r hr
            · rw [List.mem_singleton.1 hr]; exact HCK.out
        case measure => simp [intOf] <;> omega
      · have HF : Hid (¬ (∀ r ∈ l, checkR r = true)) := Lib.hid (fun hall => by have := hall _ HMEM.out; rw [hck] at this; cases this)
        clear hck
        go_wp2
        go_ret2
        exact ⟨[], 2, rfl, .inr ⟨rfl, HF.out, rfl⟩, HB2.out.pure⟩
    · obtain rfl : k = m := by omega
      have ht : l.take k = l := List.take_of_length_le (by rw [HM.out]; exact Nat.le_refl _)
      have HF : Hid ((∀ r ∈ l, checkR r = true) ∧ acc = encAll l) := Lib.hid ⟨by have := HALL.out; rwa [ht] at this, by have := HACC.out; rwa [ht] at this⟩
      clear ht
      go_wp2_with fail
      refine (BInv.out HB.out).mono ?_
      rintro e w6 ⟨rfl, hp6⟩
      have HP6 := Lib.hid hp6
      clear hp6
      go_wp2
      go_ret2
      exact ⟨_, 0, rfl, .inl ⟨rfl, HF.out.1, HF.out.2⟩, HP6.out⟩
end Go.Proofs.Ytdapjfnpnmejnaa
