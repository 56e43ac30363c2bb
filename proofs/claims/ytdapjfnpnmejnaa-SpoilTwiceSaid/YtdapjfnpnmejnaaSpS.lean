/- Edits of records that cannot be, and how often a record stands, by the program; no condition but the sizes. -/
import Derived.Test.YtdapjfnpnmejnaaSpR
namespace Go.Proofs.Ytdapjfnpnmejnaa
open Go.RowKit Go.Proofs.YtdapjfnpnmejnaaW.PrintWords Go.Proofs.Ytdapjfnpnmejnaa.GB Go.Shelf
set_option linter.unusedVariables false
set_option linter.unusedSimpArgs false
set_option maxRecDepth 100000

set_option maxHeartbeats 1000000 in
theorem edit_out (w0 w : World) (A : Option Addr) (c n : Nat) (kind i en : Int) (hi : i < 0 ∨ (n : Int) ≤ i) :
    Calls Try.prog 64 #[.slice A n c, .agg #[.int .i64 kind, .int .i64 i, .int .i64 en]] w fun e w' => EditPost none w0 w e w' := by
  have HP := Lib.hid ((Keeps.refl (fun _ => False) w).alloc (.cells #[.int .i64 kind, .int .i64 i, .int .i64 en] 56))
  by_cases h1 : i < 0
  · clear hi
    go_enter Try.func64, Try.ntmps64
    go_wp2
    go_ret2
    exact ⟨_, [], false, rfl, .inr ⟨rfl, rfl, rfl⟩, HP.out⟩
  · have h2 : (n : Int) ≤ i := by omega
    clear hi
    go_enter Try.func64, Try.ntmps64
    go_wp2
    go_ret2
    exact ⟨_, [], false, rfl, .inr ⟨rfl, rfl, rfl⟩, HP.out⟩
set_option maxHeartbeats 1000000 in
theorem swap_edge (w0 w : World) (A : Option Addr) (c i : Nat) (en : Int) (hi : i ≤ 1000000) :
    Calls Try.prog 64 #[.slice A (i + 1) c, .agg #[.int .i64 3, .int .i64 i, .int .i64 en]] w fun e w' => EditPost none w0 w e w' := by
  have HP := Lib.hid ((Keeps.refl (fun _ => False) w).alloc (.cells #[.int .i64 3, .int .i64 i, .int .i64 en] 56))
  have s1 : wrap64 ((i : Int) + 1) = (i : Int) + 1 := wrap_in (by omega) (by omega)
  go_enter Try.func64, Try.ntmps64
  go_wp2
  go_ret2
  exact ⟨_, [], false, rfl, .inr ⟨rfl, rfl, rfl⟩, HP.out⟩

def moreV (n b : Int) : Int := if b < -4611686018427387903 ∨ 4611686018427387903 < b ∨ isO n = false then -1 else n + b
set_option maxHeartbeats 1000000 in
theorem more_ (n b : Int) (w : World) : Calls Try.prog 128 #[.int .i64 n, .int .i64 b] w fun e w' => e = .returned (.int .i64 (moreV n b)) ∧ w = w' := by
  have HI := Lib.hid is_
  by_cases h1 : b < -4611686018427387903
  · have HV : Hid (moreV n b = -1) := Lib.hid (by unfold moreV; rw [if_pos (.inl h1)])
    go_enter Try.func128, Try.ntmps128
    go_wp2
    go_ret
    exact ⟨by rw [HV.out]; rfl, rfl⟩
  by_cases h2 : 4611686018427387903 < b
  · have HV : Hid (moreV n b = -1) := Lib.hid (by unfold moreV; rw [if_pos (.inr (.inl h2))])
    go_enter Try.func128, Try.ntmps128
    go_wp2
    go_ret
    exact ⟨by rw [HV.out]; rfl, rfl⟩
  cases ho : isO n with
  | false =>
    have HV : Hid (moreV n b = -1) := Lib.hid (by unfold moreV; rw [if_pos (.inr (.inr ho))])
    have HO := Lib.hid ho
    clear ho
    go_enter Try.func128, Try.ntmps128
    go_wp2_with (go_at_call 48; refine (HI.out _ _).mono ?_; rintro e w1 ⟨rfl, rfl⟩; rw [HO.out])
    go_ret
    exact ⟨by rw [HV.out]; rfl, rfl⟩
  | true =>
    have HV : Hid (moreV n b = n + b) := Lib.hid (by unfold moreV; rw [if_neg (by rw [ho]; simp; omega)])
    obtain ⟨n1, n2⟩ := isO_iff.1 ho
    have HO := Lib.hid ho
    clear ho
    go_enter Try.func128, Try.ntmps128
    go_wp2_with (go_at_call 48; refine (HI.out _ _).mono ?_; rintro e w1 ⟨rfl, rfl⟩; rw [HO.out])
    go_ret
    exact ⟨by rw [HV.out]; rfl, rfl⟩

set_option maxHeartbeats 1000000 in
theorem turned_often (w0 w : World) (A : Option Addr) (c : Nat) (p t : List Rec) (x : Rec) (en : Int) (base : Nat) (h : RecRow w0 w base (.slice A (p ++ x :: t).length c) (p ++ x :: t)) (hb : Below w0.heap.size w0 w) (hl : (p ++ x :: t).length ≤ 1000000) :
    Calls Try.prog 98 #[.slice A (p ++ x :: t).length c, .agg #[.int .i64 5, .int .i64 (p.length : Int), .int .i64 en]] w fun e w' => ∃ v, e = .returned v ∧ RecRow w0 w' w.heap.size v (p ++ ⟨x.kind, x.n, moreV x.r en, x.ids⟩ :: t) ∧ Pure' w w' := by
  have hln : (p ++ x :: t).length = p.length + 1 + t.length := by simp; omega
  have hpos : 0 < (p ++ x :: t).length := by omega
  have hkx := (Keeps.refl (fun _ => False) w).alloc (.cells #[.int .i64 5, .int .i64 (p.length : Int), .int .i64 en] 56)
  have HBX := Lib.hid (Blk.new w 56 #[.int .i64 5, .int .i64 (p.length : Int), .int .i64 en])
  have HCL := Lib.hid (clone_ w0 _ A c (p ++ x :: t) base (h.pure hkx) hpos hl)
  have HK := Lib.hid hkx
  have HMO := Lib.hid more_
  clear h hkx
  generalize hn : (p ++ x :: t).length = n at *
  have HN := Lib.hid hn
  clear hn
  obtain ⟨i, hi⟩ : ∃ i, i = p.length := ⟨_, rfl⟩
  rw [← hi] at hln HBX HCL HK
  rw [← hi]
  have HI := Lib.hid hi
  clear hi
  have t1 : (i : Int) < (n : Int) := by omega
  have t3 : i < n := by omega
  have HLN := Lib.hid hln
  clear hln
  go_enter Try.func98, Try.ntmps98
  go_wp2_with fail
  refine HCL.out.mono ?_
  rintro e w2 ⟨v, rfl, hrow, hbl⟩
  have hp2 := Keeps.of_below hbl
  have HBX2 := HBX.out.keep hp2 (fun h => h)
  obtain ⟨inner, hown, hreps⟩ := hrow
  rw [List.length_map, HN.out] at hown
  obtain ⟨g, cap, rfl, hg, hcap⟩ := Row.some_ (w := w2) (owns_less hown (Nat.zero_le _)) (by omega)
  rw [show (p ++ x :: t).map toS = p.map toS ++ ([toS x] ++ t.map toS) by simp] at hreps
  obtain ⟨cp, c1, rfl, hrp, hr1⟩ := Reps.split hreps
  obtain ⟨cx, ct, rfl, hrx, hrt⟩ := Reps.split hr1
  obtain ⟨hkx, hlx⟩ := Reps.single hrx
  obtain ⟨Ax, qx, rfl, hqx, hCx⟩ := k33_open hkx
  have hlp : cp.length = i * 4 := by rw [hrp.1, List.length_map, HI.out]
  have hcell : ∀ (j : Nat) (u : Value), (cp ++ ([Value.int .i64 (toS x).f0, .int .i64 (toS x).f1, .int .i64 (toS x).f2, .slice Ax (toS x).f3.length qx] ++ ct))[j]? = some u → w2.cell? ⟨g, j, none⟩ = some u := fun j u hu => Row.cell (w := w2) (owns_less hown (Nat.zero_le _)) hu
  have hget : ∀ (l : List Value) (j : Nat), (cp ++ l)[i * 4 + j]? = l[j]? := fun l j => by rw [List.getElem?_append_right (by omega), show i * 4 + j - cp.length = j by omega]
  have d2 := hcell (i * 4 + 2) _ (hget _ 2)
  have hfree : ∀ j, w2.frozen? ⟨g, j, none⟩ = false := fun j => Row.free (w := w2) (owns_less hown (Nat.zero_le _))
  have e0 := HBX2.cell 0
  have e1 := HBX2.cell 1
  have e2 := HBX2.cell 2
  have hgx : w.heap.size ≠ g := fun h => own_ne hown HBX2 (by decide) (by rw [h]; rfl)
  have HOWN := Lib.hid hown
  have HPX := Lib.hid hrp
  have HTX := Lib.hid hrt
  have HXY := Lib.hid (And.intro hqx hCx)
  have HP2 := Lib.hid (HK.out.then_ hp2)
  clear hown hreps hrp hrt hr1 hrx hkx hcell hget hp2 hbl HBX2 hCx hqx
  go_wp2
  go_region_with (go_at_call 128; refine (HMO.out _ _ _).mono ?_; rintro e w3 ⟨rfl, rfl⟩)
  all_goals go_wp2
  all_goals go_ret
  all_goals
    have hge : w.heap.size ≤ g := by have := (World.ownsRow.lt HOWN.out g rfl).1; simp at this; omega
    refine ⟨_, rfl, ?_, ?_⟩
    · refine ⟨cp ++ ([Value.int .i64 (toS x).f0, .int .i64 (toS x).f1, .int .i64 (moreV (toS x).f2 en), .slice Ax (toS x).f3.length qx] ++ ct), ?_, ?_⟩
      · have hl : ((p ++ ⟨x.kind, x.n, moreV x.r en, x.ids⟩ :: t).map toS).length = n := by rw [← HN.out]; simp
        rw [hl]
        have h := Row.setS (own_weaken HOWN.out (base' := w.heap.size) (by simp)) (i := i * 4 + 2) (Value.int .i64 (moreV (toS x).f2 en))
        rw [set_at hlp] at h
        simp only [List.cons_append, List.nil_append, List.set_cons_zero, List.set_cons_succ, Nat.reduceAdd] at h
        exact owns_drew h
      · rw [show (p ++ ⟨x.kind, x.n, moreV x.r en, x.ids⟩ :: t).map toS = p.map toS ++ ([toS ⟨x.kind, x.n, moreV x.r en, x.ids⟩] ++ t.map toS) by simp]
        exact Reps.app HPX.out (Reps.app (Reps.uno (k33_mk w0 (toS ⟨x.kind, x.n, moreV x.r en, x.ids⟩) HXY.out.1 HXY.out.2) rfl) HTX.out)
    · repeat (with_reducible first | exact HP2.out | refine Keeps.drew ?_ | refine Keeps.setN ?_ hge _ _)

set_option maxHeartbeats 1000000 in
theorem edited_often (w0 w : World) (A : Option Addr) (c : Nat) (p t : List Rec) (x : Rec) (en : Int) (base : Nat) (h : RecRow w0 w base (.slice A (p ++ x :: t).length c) (p ++ x :: t)) (hb : Below w0.heap.size w0 w) (hl : (p ++ x :: t).length ≤ 1000000) :
    Calls Try.prog 64 #[.slice A (p ++ x :: t).length c, .agg #[.int .i64 5, .int .i64 (p.length : Int), .int .i64 en]] w fun e w' => EditPost (some (p ++ ⟨x.kind, x.n, moreV x.r en, x.ids⟩ :: t)) w0 w e w' := by
  have hln : (p ++ x :: t).length = p.length + 1 + t.length := by simp; omega
  have hkx := (Keeps.refl (fun _ => False) w).alloc (.cells #[.int .i64 5, .int .i64 (p.length : Int), .int .i64 en] 56)
  have hbx := hb.trans (Keeps.below (S := fun _ => False) hkx (fun b hb' => ⟨Nat.lt_of_lt_of_le hb' hb.size, fun h => h⟩))
  have HTU := Lib.hid (turned_often w0 _ A c p t x en base (h.pure hkx) hbx hl)
  have HK := Lib.hid hkx
  clear h hkx hbx hb
  generalize (p ++ x :: t).length = n at *
  generalize p.length = i at *
  have t1 : (i : Int) < (n : Int) := by omega
  have t3 : i < n := by omega
  clear hln
  go_enter Try.func64, Try.ntmps64
  go_wp2_with fail
  refine HTU.out.mono ?_
  rintro e w2 ⟨v, rfl, hrow, hp⟩
  obtain ⟨inner, hown, hreps⟩ := hrow
  obtain ⟨A2, c2, rfl, _⟩ := OwnRow.slice_ (R := fun _ _ => True) (ps := (List.replicate ((p ++ { kind := x.kind, n := x.n, r := moreV x.r en, ids := x.ids } :: t).map toS).length ())) ⟨inner, by simpa using hown, ⟨by have := hreps.1; simpa using this, fun _ _ _ => trivial⟩⟩
  have HR := Lib.hid (And.intro hown hreps)
  have HP := Lib.hid hp
  clear hown hreps hp
  go_wp2
  go_ret2
  refine ⟨_, _, true, rfl, .inl ⟨rfl, rfl, ?_⟩, HK.out.then_ HP.out⟩
  exact ⟨inner, own_weaken (by have h := HR.out.1; simpa using h) (by simp), HR.out.2⟩
end Go.Proofs.Ytdapjfnpnmejnaa
