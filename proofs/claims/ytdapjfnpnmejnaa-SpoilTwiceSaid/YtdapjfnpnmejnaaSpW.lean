/- A certificate behind an edit, by the program; no condition but the sizes. -/
import Derived.Test.YtdapjfnpnmejnaaSpV
namespace Go.Proofs.Ytdapjfnpnmejnaa
open Go.RowKit Go.Proofs.YtdapjfnpnmejnaaW.PrintWords Go.Proofs.Ytdapjfnpnmejnaa.GB Go.Shelf
set_option linter.unusedVariables false
set_option linter.unusedSimpArgs false
set_option maxRecDepth 100000

/-- Records behind an edit: two change places (3); how often one stands (5). -/
def editV (kind i n : Int) (l : List Rec) : Option (List Rec) :=
  if i < 0 then none else if kind = 3 then (match l.drop i.toNat with | x :: y :: t => some (l.take i.toNat ++ y :: x :: t) | _ => none)
  else (match l.drop i.toNat with | x :: t => some (l.take i.toNat ++ ⟨x.kind, x.n, moreV x.r n, x.ids⟩ :: t) | [] => none)
theorem edited_ (w0 w : World) (A : Option Addr) (c : Nat) (l : List Rec) (kind i n : Int) (base : Nat) (h : RecRow w0 w base (.slice A l.length c) l) (hb : Below w0.heap.size w0 w) (hl : l.length ≤ 1000000) (hk : kind = 3 ∨ kind = 5) :
    Calls Try.prog 64 #[.slice A l.length c, .agg #[.int .i64 kind, .int .i64 i, .int .i64 n]] w fun e w' => EditPost (editV kind i n l) w0 w e w' := by
  unfold editV
  by_cases hi : i < 0
  · rw [if_pos hi]
    exact edit_out w0 w A c l.length kind i n (.inl hi)
  rw [if_neg hi]
  obtain ⟨j, rfl⟩ : ∃ j : Nat, i = j := ⟨i.toNat, by omega⟩
  rw [Int.toNat_natCast]
  have hd : l = l.take j ++ l.drop j := (List.take_append_drop j l).symm
  by_cases hj : j < l.length
  · have htl : (l.take j).length = j := by rw [List.length_take]; omega
    cases hx : l.drop j with
    | nil => have := congrArg List.length hx; simp at this; omega
    | cons x t =>
      rw [hx] at hd
      rcases hk with rfl | rfl
      · rw [if_pos rfl]
        cases t with
        | nil =>
          have hlen : l.length = j + 1 := by rw [hd]; simp [htl]
          simp only
          rw [hlen]
          exact swap_edge w0 w A c j n (by omega)
        | cons y t =>
          simp only
          have hs := swap_ok w0 w A c (l.take j) t x y n base (by rw [← hd]; exact h) hb (by rw [← hd]; exact hl)
          rw [← hd, htl] at hs
          exact hs
      · rw [if_neg (by decide)]
        simp only
        have hs := edited_often w0 w A c (l.take j) t x n base (by rw [← hd]; exact h) hb (by rw [← hd]; exact hl)
        rw [← hd, htl] at hs
        exact hs
  · have hx : l.drop j = [] := List.drop_eq_nil_of_le (by omega)
    rw [hx]
    have he := edit_out w0 w A c l.length kind j n (.inr (by omega))
    rcases hk with rfl | rfl
    · rw [if_pos rfl]; exact he
    · rw [if_neg (by decide)]; exact he

def ApplyPost (r : Except Int (List UInt8)) (w : World) (e : Ending) (w' : World) : Prop :=
  ∃ (s : List UInt8) (er : Int), e = .returned (.tuple #[.string (strL s), .int .i64 er]) ∧ ((er = 0 ∧ r = .ok s) ∨ (er ≠ 0 ∧ s = [] ∧ r = .error er)) ∧ Pure' w w'
def bytesA (r : Option (List UInt8)) : Except Int (List UInt8) := match r with | some s => .ok s | none => .error 2
def recsA (kind i n : Int) (r : Except Int (List UInt8 × List Rec)) : Except Int (List UInt8) := match r with
  | .error e => .error e
  | .ok (top, l) => match editV kind i n l with
    | none => .error 2
    | some l' => if l'.all checkR = true then .ok (top ++ encAll l') else .error 2

set_option maxHeartbeats 1000000 in
theorem apply_bytes (s : ByteArray) (kind i n : Int) (w : World) (hs : s.size ≤ 1000000) (h8 : 8 ≤ kind) (h10 : kind ≤ 10) :
    Calls Try.prog 31 #[.string s, .agg #[.int .i64 kind, .int .i64 i, .int .i64 n]] w fun e w' => ApplyPost (bytesA (bytesV kind i n s.data.toList)) w e w' := by
  have HK := Lib.hid ((Keeps.refl (fun _ => False) w).alloc (.cells #[.int .i64 kind, .int .i64 i, .int .i64 n] 56))
  have HB := Lib.hid (fun W => bytes_ s kind i n W hs h8)
  generalize bytesV kind i n s.data.toList = r at *
  go_enter Try.func31, Try.ntmps31
  go_wp2_with fail
  refine (HB.out _).mono ?_
  rintro e w2 ⟨q, ok, rfl, hcase, hp⟩
  have HP := Lib.hid (HK.out.then_ hp)
  clear hp
  rcases hcase with ⟨rfl, rfl⟩ | ⟨rfl, rfl⟩
  · go_wp2
    go_ret2
    exact ⟨q, 0, rfl, .inl ⟨rfl, rfl⟩, HP.out⟩
  · go_wp2
    go_ret2
    exact ⟨[], 2, rfl, .inr ⟨by decide, rfl, rfl⟩, HP.out⟩

theorem encAll_len : ∀ (l : List Rec), (∀ r ∈ l, checkR r = true) → (∀ r ∈ l, r.ids.length ≤ 1000000) → (encAll l).length ≤ l.length * 10000000
  | [], _, _ => by simp [encAll]
  | r :: l, h1, h2 => by
    have h := encR_len (h1 r (by simp)) (h2 r (by simp))
    have ih := encAll_len l (fun x hx => h1 x (by simp [hx])) (fun x hx => h2 x (by simp [hx]))
    unfold encAll at ih ⊢
    rw [List.flatMap_cons, List.length_append, List.length_cons]
    omega
theorem records_sizes {s : List UInt8} {top : List UInt8} {l : List Rec} (h : recordsV s = .ok (top, l)) : l.length ≤ s.length ∧ top.length ≤ s.length ∧ ∀ r ∈ l, r.ids.length ≤ 65535 := by
  obtain ⟨h1, h2, h3, h4, _⟩ := recordsV_inv h
  refine ⟨h4, by rw [h1]; simp, fun r hr => ?_⟩
  have := (h2 r hr).2.2 []
  exact recT_len this
theorem edit_sizes {kind i n : Int} {l l' : List Rec} (h : editV kind i n l = some l') : l'.length = l.length ∧ ∀ m : Nat, (∀ r ∈ l, r.ids.length ≤ m) → ∀ r ∈ l', r.ids.length ≤ m := by
  unfold editV at h
  split at h
  · cases h
  · split at h
    · split at h
      · rename_i x y t hd
        injection h with h
        subst h
        have hl : l = l.take i.toNat ++ x :: y :: t := by rw [← hd, List.take_append_drop]
        generalize l.take i.toNat = p at *
        subst hl
        refine ⟨by simp, fun m hm r hr => ?_⟩
        simp at hr
        rcases hr with hr | rfl | rfl | hr <;> exact hm _ (by simp [*])
      · cases h
    · split at h
      · rename_i x t hd
        injection h with h
        subst h
        have hl : l = l.take i.toNat ++ x :: t := by rw [← hd, List.take_append_drop]
        generalize l.take i.toNat = p at *
        subst hl
        refine ⟨by simp, fun m hm r hr => ?_⟩
        simp at hr
        rcases hr with hr | rfl | hr
        · exact hm _ (by simp [*])
        · exact hm x (by simp)
        · exact hm _ (by simp [*])
      · cases h

set_option maxHeartbeats 600000 in
theorem apply_recs (s : ByteArray) (kind i n : Int) (w : World) (hs : s.size ≤ 900) (hk : kind = 3 ∨ kind = 5) :
    Calls Try.prog 31 #[.string s, .agg #[.int .i64 kind, .int .i64 i, .int .i64 n]] w fun e w' => ApplyPost (recsA kind i n (recordsV s.data.toList)) w e w' := by
  have HK := Lib.hid ((Keeps.refl (fun _ => False) w).alloc (.cells #[.int .i64 kind, .int .i64 i, .int .i64 n] 56))
  have HN := Lib.hid (Blk.new w 56 #[.int .i64 kind, .int .i64 i, .int .i64 n])
  have HR := Lib.hid (fun W => records_ s W (by omega))
  have HSZ := Lib.hid (fun top l => @records_sizes s.data.toList top l)
  obtain ⟨res, hres⟩ : ∃ res, res = recordsV s.data.toList := ⟨_, rfl⟩
  rw [← hres] at HR HSZ ⊢
  have hsz := size_list s
  have t1 : decide (kind < 1) = false := by rw [decide_eq_false_iff_not]; omega
  have t2 : decide (10 < kind) = false := by rw [decide_eq_false_iff_not]; omega
  have t3 : decide (8 ≤ kind) = false := by rw [decide_eq_false_iff_not]; omega
  have HKK := Lib.hid hk
  clear hres hk
  go_enter Try.func31, Try.ntmps31
  go_wp2_with fail
  refine (HR.out _).mono ?_
  rintro e w2 ⟨v, top, l, er, rfl, hcase, hRR, hbl⟩
  obtain ⟨A0, q0, hv0⟩ := Kd.R_slice hRR
  rw [List.length_map] at hv0
  subst hv0
  have hp2 := Keeps.of_below hbl
  have HP2 := Lib.hid (HK.out.then_ hp2)
  have HN2 := HN.out.keep hp2 (fun h => h)
  have e0 := HN2.cell 0
  have e1 := HN2.cell 1
  have e2 := HN2.cell 2
  have hlt2 := HN2.lt
  have HRow : Hid (RecRow w2 w2 (w.alloc (.cells #[.int .i64 kind, .int .i64 i, .int .i64 n] 56)).heap.size (.slice A0 l.length q0) l) := Lib.hid (by
    obtain ⟨_, inner, ho, hr⟩ := hRR
    rw [List.length_map] at ho
    exact ⟨inner, by rw [List.length_map]; exact ho, hr.imp_ (fun _ _ h => k33.K_of_M h)⟩)
  clear hbl hp2 hRR HN2
  rcases hcase with ⟨rfl, rfl⟩ | ⟨he, rfl, rfl, rfl⟩
  · obtain ⟨hl1, hl2, hl3⟩ := HSZ.out top l rfl
    rw [← hsz] at hl1 hl2
    have HL3 := Lib.hid hl3
    have HED := Lib.hid (edited_ w2 w2 A0 q0 l kind i n _ HRow.out (Below.refl _ _) (by omega) HKK.out)
    clear hl3
    go_wp2_with fail
    refine HED.out.mono ?_
    rintro e w3 ⟨v3, l', ok, rfl, hcase, hp3⟩
    have HP3 := Lib.hid (HP2.out.then_ hp3)
    rcases hcase with ⟨rfl, hed, hrow⟩ | ⟨rfl, hed, rfl⟩
    · obtain ⟨A3, q3, rfl, hq3, hC3⟩ := hrow.reads hp3.pure
      obtain ⟨hz1, hz2⟩ := edit_sizes hed
      have HWR := Lib.hid (written_ A3 q3 l' w3 hC3 (by omega) (fun r hr => by have := hz2 65535 HL3.out r hr; omega))
      have HIDS := Lib.hid (fun r hr => hz2 65535 HL3.out r hr)
      have HED2 := Lib.hid hed
      have HZ1 := Lib.hid hz1
      clear hrow hp3 hC3 hed hz2 hz1 e0 e1 e2
      go_wp2_with fail
      refine HWR.out.mono ?_
      rintro e w4 ⟨s4, er4, rfl, hcase, hp4⟩
      have HP4 := Lib.hid (HP3.out.then_ hp4)
      clear hp4
      rcases hcase with ⟨rfl, hall, rfl⟩ | ⟨rfl, hall, rfl⟩
      · have HALL := Lib.hid hall
        have hq := strL_size top
        have hq2 : (strL (encAll l')).size ≤ 1000000000000 := by rw [strL_size]; have h := encAll_len l' hall (fun r hr => by have := HIDS.out r hr; omega); have h2 := HZ1.out; have : l'.length * 10000000 ≤ 900 * 10000000 := Nat.mul_le_mul_right _ (by omega); omega
        have HAP : Hid (strL top ++ strL (encAll l') = strL (top ++ encAll l')) := Lib.hid (bytes_eq (by rw [strL_data]; show (strL top ++ strL (encAll l')).data.toList = _; simp [strL]))
        have hadd : (strL top).size + (strL (encAll l')).size ≤ 9223372036854775807 := by omega
        have hadd2 : ¬ 9223372036854775807 < (strL top).size + (strL (encAll l')).size := by omega
        clear hall hq hq2
        go_wp2
        go_ret2
        refine ⟨top ++ encAll l', 0, by rw [← HAP.out]; rfl, .inl ⟨rfl, ?_⟩, HP4.out⟩
        simp only [recsA, HED2.out]
        rw [if_pos (List.all_eq_true.2 HALL.out)]
      · have HALL := Lib.hid hall
        clear hall
        go_wp2
        go_ret2
        refine ⟨[], 2, rfl, .inr ⟨by decide, rfl, ?_⟩, HP4.out⟩
        simp only [recsA, HED2.out]
        rw [if_neg (fun h => HALL.out (List.all_eq_true.1 h))]
    · have HED2 := Lib.hid hed
      clear hp3 hed
      go_wp2
      go_ret2
      refine ⟨[], 2, rfl, .inr ⟨by decide, rfl, ?_⟩, HP3.out⟩
      simp only [recsA, HED2.out]
  · have HE := Lib.hid he
    go_wp2
    go_ret2
    exact ⟨[], er, rfl, .inr ⟨by simpa using HE.out, rfl, rfl⟩, HP2.out⟩

def applyT (kind i n : Int) (s : List UInt8) : Except Int (List UInt8) := if 8 ≤ kind then bytesA (bytesV kind i n s) else recsA kind i n (recordsV s)
def resT (r : Except Int (List UInt8)) : ByteArray × Int := match r with | .ok s => (strL s, 0) | .error e => (strL [], e)
theorem apply_ (s : ByteArray) (kind i n : Int) (w : World) (hs : s.size ≤ 900) (hk : kind = 3 ∨ kind = 5 ∨ (8 ≤ kind ∧ kind ≤ 10)) :
    Calls Try.prog 31 #[.string s, .agg #[.int .i64 kind, .int .i64 i, .int .i64 n]] w fun e w' => e = .returned (.tuple #[.string (resT (applyT kind i n s.data.toList)).1, .int .i64 (resT (applyT kind i n s.data.toList)).2]) ∧ Pure' w w' := by
  have h : Calls Try.prog 31 #[.string s, .agg #[.int .i64 kind, .int .i64 i, .int .i64 n]] w fun e w' => ApplyPost (applyT kind i n s.data.toList) w e w' := by
    unfold applyT
    by_cases h8 : 8 ≤ kind
    · rw [if_pos h8]; exact apply_bytes s kind i n w (by omega) h8 (by omega)
    · rw [if_neg h8]; exact apply_recs s kind i n w hs (by omega)
  refine h.mono ?_
  rintro e w' ⟨q, er, rfl, hcase, hp⟩
  refine ⟨?_, hp⟩
  rcases hcase with ⟨rfl, hr⟩ | ⟨_, rfl, hr⟩ <;> (rw [hr]; rfl)
end Go.Proofs.Ytdapjfnpnmejnaa
