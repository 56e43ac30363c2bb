/- The head and the records of a certificate, and it behind an edit, by the program; no condition but the sizes. -/
import Derived.Test.YtdapjfnpnmejnaaSpU
namespace Go.Proofs.Ytdapjfnpnmejnaa
open Go.RowKit Go.Proofs.YtdapjfnpnmejnaaW.PrintWords Go.Proofs.Ytdapjfnpnmejnaa.GB Go.Shelf
set_option linter.unusedVariables false
set_option linter.unusedSimpArgs false
set_option maxRecDepth 100000

def RecordsPost (res : Except Int (List UInt8 × List Rec)) (w : World) (e : Ending) (w' : World) : Prop :=
  ∃ (v : Value) (top : List UInt8) (l : List Rec) (er : Int), e = .returned (.tuple #[.string (strL top), v, .int .i64 er]) ∧ ((er = 0 ∧ res = .ok (top, l)) ∨ ((er != 0) = true ∧ top = [] ∧ l = [] ∧ res = .error er)) ∧ Kd.R k33 33 w' w.heap.size (fun _ => True) v (l.map toS) ∧ Below w.heap.size w w'

def recOf (top : List UInt8) (r : Except Int (List Rec)) : Except Int (List UInt8 × List Rec) := match r with
  | .error e => .error e
  | .ok l => .ok (top, l)
theorem recordsV_ok {s b : List UInt8} {z : Nat} (h : headT s = .ok (b, z)) : recordsV s = recOf (s.take z) (allL rec0 false (s.drop z)) := by
  unfold recordsV
  rw [h]
  have ha : allL rec0 false (s.drop z) = lensL (s.length + 1) rec0 (s.drop z) := by
    unfold allL
    rw [if_neg (by simp)]
    exact lensL_fuel _ _ _ _ (by omega) (by simp; omega)
  rw [ha]
  simp only
  cases lensL (s.length + 1) rec0 (s.drop z) <;> rfl
theorem recordsV_err {s : List UInt8} {e : Int} (h : headT s = .error e) : recordsV s = .error e := by unfold recordsV; rw [h]
set_option maxHeartbeats 1000000 in
theorem records_ (s : ByteArray) (w : World) (hs : s.size ≤ 1000000) : Calls Try.prog 29 #[.string s] w fun e w' => RecordsPost (recordsV s.data.toList) w e w' := by
  have hf := head_f s hs
  cases hh : headT s.data.toList with
  | error e =>
    have he := headT_err hh
    have te : (e != 0) = true := by simpa using he
    rw [recordsV_err hh]
    rw [hh] at hf
    have HF : Hid (head_Take.f s = some (strL [], 0, e)) := Lib.hid hf
    clear hf hh he
    go_enter Try.func29, Try.ntmps29
    go_wp2_with fail
    refine (head_Take.calls s _ _ _ _ HF.out).mono ?_
    rintro ee w2 ⟨rfl, hb⟩
    have HB := Lib.hid hb
    clear hb
    go_wp2
    go_ret3
    exact ⟨_, [], [], e, rfl, .inr ⟨te, rfl, rfl, rfl⟩, Kd.R_nil _ _ _ _ _, HB.out⟩
  | ok q =>
    obtain ⟨b, z⟩ := q
    rw [hh] at hf
    have HF : Hid (head_Take.f s = some (strL b, (z : Int), 0)) := Lib.hid hf
    have hz : z ≤ s.size := by have := (headT_inv hh).1; rw [size_list]; exact this
    have z1 : (0 : Int) ≤ (z : Int) := by omega
    have z2 : (z : Int) ≤ (s.size : Int) := by omega
    have HL := Lib.hid (fun W => lall_ (s.extract z s.size) W (by rw [cut_size]; omega))
    rw [cut_list] at HL
    obtain ⟨res, hres⟩ : ∃ res, res = recordsV s.data.toList := ⟨_, rfl⟩
    rw [← hres]
    rw [recordsV_ok hh] at hres
    have HRS := Lib.hid hres
    clear hres
    have HT := Lib.hid (extract_take s z)
    clear hf hh
    go_enter Try.func29, Try.ntmps29
    go_wp2_with fail
    refine (head_Take.calls s _ _ _ _ HF.out).mono ?_
    rintro ee w2 ⟨rfl, hb⟩
    have HB := Lib.hid hb
    clear hb
    go_wp2_with fail
    refine (HL.out _).mono ?_
    rintro ee w3 ⟨v, l, er, rfl, hcase, hR, hb3⟩
    obtain ⟨A0, q0, rfl⟩ := Kd.R_slice hR
    have HR := Lib.hid hR
    have HB3 := Lib.hid (HB.out.trans (Keeps.below (S := fun _ => False) (Keeps.of_below hb3) (fun b hb' => ⟨Nat.lt_of_lt_of_le hb' HB.out.size, fun h => h⟩)))
    clear hR hb3
    rcases hcase with ⟨rfl, hr⟩ | ⟨he, rfl, hr⟩
    · have HRR : Hid (res = .ok (s.data.toList.take z, l)) := Lib.hid (by rw [HRS.out, hr]; rfl)
      clear hr
      go_wp2
      go_ret3
      refine ⟨.slice A0 l.length q0, s.data.toList.take z, l, 0, ?_, .inl ⟨rfl, HRR.out⟩, by have h := Kd.R_lower HR.out HB.out.size; rw [List.length_map] at h; exact h, HB3.out⟩
      simp only [HT.out]
      rfl
    · have te : (er != 0) = true := by simpa using he
      have HRR : Hid (res = .error er) := Lib.hid (by rw [HRS.out, hr]; rfl)
      clear hr he
      go_wp2
      go_ret3
      exact ⟨_, [], [], er, rfl, .inr ⟨te, rfl, rfl, HRR.out⟩, Kd.R_nil _ _ _ _ _, HB3.out⟩
end Go.Proofs.Ytdapjfnpnmejnaa
