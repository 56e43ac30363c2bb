/- Two records change places, by the program; no condition but the sizes. -/
import Derived.Test.YtdapjfnpnmejnaaSpQ
namespace Go.Proofs.Ytdapjfnpnmejnaa
open Go.RowKit Go.Proofs.YtdapjfnpnmejnaaW.PrintWords Go.Proofs.Ytdapjfnpnmejnaa.GB Go.Shelf
set_option linter.unusedVariables false
set_option linter.unusedSimpArgs false
set_option maxRecDepth 100000

/-- What comes of an edit of records. -/
def EditPost (r : Option (List Rec)) (w0 w : World) (e : Ending) (w' : World) : Prop :=
  ∃ (v : Value) (l' : List Rec) (ok : Bool), e = .returned (.tuple #[v, .bool ok]) ∧ ((ok = true ∧ r = some l' ∧ RecRow w0 w' w.heap.size v l') ∨ (ok = false ∧ r = none ∧ v = .slice none 0 0)) ∧ Pure' w w'
theorem Row.setS {w : World} {e : TypeId} {size n b cap i : Nat} {xs : List Value} {B : Nat} (h : w.ownsRow B e size (.slice (some ⟨b, 0, none⟩) n cap) n xs) (u : Value) :
    (w.setCell ⟨b, i, none⟩ u).ownsRow B e size (.slice (some ⟨b, 0, none⟩) n cap) n (xs.set i u) := by
  obtain ⟨h1, h2⟩ := h
  refine ⟨by simpa using h1, ?_⟩
  rcases h2 with ⟨h2, _⟩ | ⟨g, cap', cur, hv, hg, hh, hnc, hm, hz, ht⟩
  · cases h2
  · injection hv with h3 _ h5
    injection h3 with h3
    injection h3 with h3
    subst h3; subst h5
    refine .inr ⟨b, cap, cur.setIfInBounds i u, rfl, hg, Blk.set_ hh i u, hnc, hm, by simpa using hz, ?_⟩
    rw [← ht]
    simp [Array.toList_setIfInBounds, List.take_set]

theorem RecRow.pure {w0 w w1 : World} {base : Nat} {v : Value} {l : List Rec} (h : RecRow w0 w base v l) (hk : Pure' w w1) : RecRow w0 w1 base v l := by
  obtain ⟨inner, ho, hr⟩ := h
  exact ⟨inner, pw_own_below ho hk.pure, hr⟩
theorem owns_drew {w : World} {B : Nat} {e : TypeId} {size n : Nat} {v : Value} {xs : List Value} (h : w.ownsRow B e size v n xs) : w.drew.ownsRow B e size v n xs := h
theorem set_at {cp : List Value} {m : Nat} (h : cp.length = m) (l : List Value) (j : Nat) (u : Value) : (cp ++ l).set (m + j) u = cp ++ l.set j u := by
  subst h
  rw [List.set_append_right _ _ (by omega), show cp.length + j - cp.length = j by omega]
theorem set_at0 {cp : List Value} {m : Nat} (h : cp.length = m) (l : List Value) (u : Value) : (cp ++ l).set m u = cp ++ l.set 0 u := set_at h l 0 u
set_option maxHeartbeats 1000000 in
theorem swap_ok (w0 w : World) (A : Option Addr) (c : Nat) (p t : List Rec) (x y : Rec) (en : Int) (base : Nat) (h : RecRow w0 w base (.slice A (p ++ x :: y :: t).length c) (p ++ x :: y :: t)) (hb : Below w0.heap.size w0 w) (hl : (p ++ x :: y :: t).length ≤ 1000000) :
    Calls Try.prog 64 #[.slice A (p ++ x :: y :: t).length c, .agg #[.int .i64 3, .int .i64 (p.length : Int), .int .i64 en]] w fun e w' => EditPost (some (p ++ y :: x :: t)) w0 w e w' := by
  have hln : (p ++ x :: y :: t).length = p.length + 2 + t.length := by simp; omega
  have hpos : 0 < (p ++ x :: y :: t).length := by omega
  have hkx := (Keeps.refl (fun _ => False) w).alloc (.cells #[.int .i64 3, .int .i64 (p.length : Int), .int .i64 en] 56)
  have HBX := Lib.hid (Blk.new w 56 #[.int .i64 3, .int .i64 (p.length : Int), .int .i64 en])
  have HCL := Lib.hid (clone_ w0 _ A c (p ++ x :: y :: t) base (h.pure hkx) hpos hl)
  have HK := Lib.hid hkx
  clear h hkx
  generalize hn : (p ++ x :: y :: t).length = n at *
  have HN := Lib.hid hn
  clear hn
  obtain ⟨i, hi⟩ : ∃ i, i = p.length := ⟨_, rfl⟩
  rw [← hi] at hln HBX HCL HK
  rw [← hi]
  have HI := Lib.hid hi
  clear hi
  have s1 : IntKind.i64.wrap ((i : Int) + 1) = (i : Int) + 1 := IntWalk.i64_in _ ⟨by omega, by omega⟩
  have s2 : wrap64 ((i : Int) + 1) = (i : Int) + 1 := wrap_in (by omega) (by omega)
  have t1 : (i : Int) < (n : Int) := by omega
  have t2 : (i : Int) + 1 < (n : Int) := by omega
  have t3 : i < n := by omega
  have t4 : i + 1 < n := by omega
  have HLN := Lib.hid hln
  clear hln
  go_enter Try.func64, Try.ntmps64
  go_wp2_with fail
  refine HCL.out.mono ?_
  rintro e w2 ⟨v, rfl, hrow, hbl⟩
  have hp2 := Keeps.of_below hbl
  have HBX2 := HBX.out.keep hp2 (fun h => h)
  obtain ⟨inner, hown, hreps⟩ := hrow
  rw [List.length_map, HN.out] at hown
  obtain ⟨g, cap, rfl, hg, hcap⟩ := Row.some_ (w := w2) (owns_less hown (Nat.zero_le _)) (by omega)
  rw [show (p ++ x :: y :: t).map toS = p.map toS ++ ([toS x] ++ ([toS y] ++ t.map toS)) by simp] at hreps
  obtain ⟨cp, c1, rfl, hrp, hr1⟩ := Reps.split hreps
  obtain ⟨cx, c2, rfl, hrx, hr2⟩ := Reps.split hr1
  obtain ⟨cy, ct, rfl, hry, hrt⟩ := Reps.split hr2
  obtain ⟨hkx, hlx⟩ := Reps.single hrx
  obtain ⟨hky, hly⟩ := Reps.single hry
  obtain ⟨Ax, qx, rfl, hqx, hCx⟩ := k33_open hkx
  obtain ⟨Ay, qy, rfl, hqy, hCy⟩ := k33_open hky
  have hlp : cp.length = i * 4 := by rw [hrp.1, List.length_map, HI.out]
  have hcell : ∀ (j : Nat) (u : Value), (cp ++ ([Value.int .i64 (toS x).f0, .int .i64 (toS x).f1, .int .i64 (toS x).f2, .slice Ax (toS x).f3.length qx] ++ ([Value.int .i64 (toS y).f0, .int .i64 (toS y).f1, .int .i64 (toS y).f2, .slice Ay (toS y).f3.length qy] ++ ct)))[j]? = some u → w2.cell? ⟨g, j, none⟩ = some u := fun j u hu => Row.cell (w := w2) (owns_less hown (Nat.zero_le _)) hu
  have hget : ∀ (l : List Value) (j : Nat), (cp ++ l)[i * 4 + j]? = l[j]? := fun l j => by rw [List.getElem?_append_right (by omega), show i * 4 + j - cp.length = j by omega]
  have d0 := hcell (i * 4) _ (by have := hget ([Value.int .i64 (toS x).f0, .int .i64 (toS x).f1, .int .i64 (toS x).f2, .slice Ax (toS x).f3.length qx] ++ ([Value.int .i64 (toS y).f0, .int .i64 (toS y).f1, .int .i64 (toS y).f2, .slice Ay (toS y).f3.length qy] ++ ct)) 0; exact this)
  have d1 := hcell (i * 4 + 1) _ (hget _ 1)
  have d2 := hcell (i * 4 + 2) _ (hget _ 2)
  have d3 := hcell (i * 4 + 3) _ (hget _ 3)
  have d4 := hcell (i * 4 + 4) _ (hget _ 4)
  have d5 := hcell (i * 4 + 5) _ (hget _ 5)
  have d6 := hcell (i * 4 + 6) _ (hget _ 6)
  have d7 := hcell (i * 4 + 7) _ (hget _ 7)
  rw [show i * 4 + 4 = (i + 1) * 4 by omega] at d4
  rw [show i * 4 + 5 = (i + 1) * 4 + 1 by omega] at d5
  rw [show i * 4 + 6 = (i + 1) * 4 + 2 by omega] at d6
  rw [show i * 4 + 7 = (i + 1) * 4 + 3 by omega] at d7
  have hfree : ∀ j, w2.frozen? ⟨g, j, none⟩ = false := fun j => Row.free (w := w2) (owns_less hown (Nat.zero_le _))
  have e1 := HBX2.cell 1
  have hgx : w.heap.size ≠ g := fun h => own_ne hown HBX2 (by decide) (by rw [h]; rfl)
  have HOWN := Lib.hid hown
  have HPX := Lib.hid hrp
  have HTX := Lib.hid hrt
  have HXY := Lib.hid (And.intro hkx hky)
  have HP2 := Lib.hid (HK.out.then_ hp2)
  clear hown hreps hrp hrt hr1 hr2 hrx hry hkx hky hcell hget hp2 hbl HBX2 hCx hCy
  go_wp2
  go_region
  go_wp2
  go_ret2
  have hge : w.heap.size ≤ g := by have := (World.ownsRow.lt HOWN.out g rfl).1; simp at this; omega
  refine ⟨_, p ++ y :: x :: t, true, rfl, .inl ⟨rfl, rfl, ?_⟩, ?_⟩
  · refine ⟨cp ++ ([Value.int .i64 (toS y).f0, .int .i64 (toS y).f1, .int .i64 (toS y).f2, .slice Ay (toS y).f3.length qy] ++ ([Value.int .i64 (toS x).f0, .int .i64 (toS x).f1, .int .i64 (toS x).f2, .slice Ax (toS x).f3.length qx] ++ ct)), ?_, ?_⟩
    · have hl : ((p ++ y :: x :: t).map toS).length = n := by rw [← HN.out]; simp
      rw [hl]
      have h := Row.setS (Row.setS (Row.setS (Row.setS (Row.setS (Row.setS (Row.setS (Row.setS (own_weaken HOWN.out (base' := w.heap.size) (by simp)) (i := i * 4) (Value.int .i64 (toS y).f0)) (i := i * 4 + 1) (Value.int .i64 (toS y).f1)) (i := i * 4 + 2) (Value.int .i64 (toS y).f2)) (i := i * 4 + 3) (.slice Ay (toS y).f3.length qy)) (i := (i + 1) * 4) (Value.int .i64 (toS x).f0)) (i := (i + 1) * 4 + 1) (Value.int .i64 (toS x).f1)) (i := (i + 1) * 4 + 2) (Value.int .i64 (toS x).f2)) (i := (i + 1) * 4 + 3) (.slice Ax (toS x).f3.length qx)
      have e : ∀ (l : List Value) (u : Value) (j : Nat), (cp ++ l).set ((i + 1) * 4 + j) u = cp ++ l.set (4 + j) u := fun l u j => by rw [show (i + 1) * 4 + j = i * 4 + (4 + j) by omega, set_at hlp]
      have e0 : ∀ (l : List Value) (u : Value), (cp ++ l).set ((i + 1) * 4) u = cp ++ l.set 4 u := fun l u => e l u 0
      rw [set_at0 hlp, set_at hlp, set_at hlp, set_at hlp, e0, e, e, e] at h
      simp only [List.cons_append, List.nil_append, List.set_cons_zero, List.set_cons_succ, Nat.reduceAdd] at h
      exact owns_drew h
    · rw [show (p ++ y :: x :: t).map toS = p.map toS ++ ([toS y] ++ ([toS x] ++ t.map toS)) by simp]
      exact Reps.app HPX.out (Reps.app (Reps.uno HXY.out.2 rfl) (Reps.app (Reps.uno HXY.out.1 rfl) HTX.out))
  · repeat (with_reducible first | exact HP2.out | refine Keeps.drew ?_ | refine Keeps.setN ?_ hge _ _)
end Go.Proofs.Ytdapjfnpnmejnaa
