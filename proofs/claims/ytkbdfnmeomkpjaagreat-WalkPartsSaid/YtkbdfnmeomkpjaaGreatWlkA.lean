/- A walk made, and fed; no condition but the sizes. -/
import Derived.Test.YtkbdfnmeomkpjaaGreatAutA
import Derived.Test.YtkbdfnmeomkpjaaGreatHitC
namespace Go.Proofs.YtkbdfnmeomkpjaaGreat
open Go.RowKit
set_option linter.unusedVariables false
set_option linter.unusedSimpArgs false
set_option maxRecDepth 100000

/-! ### Where the bytes lead, plainly -/
theorem run_lsuf {l : List (List UInt8)} (hs : Sts l (statesL l)) (u : List UInt8) : runZ l 0 u = (lsuf (statesL l) u : Int) := by
  have key : ∀ (n : Nat) (u : List UInt8), u.length = n → runZ l 0 u = (lsuf (statesL l) u : Int) := by
    intro n
    induction n with
    | zero =>
      intro u hu
      have : u = [] := List.length_eq_zero_iff.1 hu
      subst this
      rw [lsuf_in hs hs.zero]
      rfl
    | succ n ih =>
      intro u hu
      obtain ⟨v, c, rfl⟩ : ∃ v c, u = v ++ [c] := ⟨u.dropLast, u.getLast (by intro e; rw [e] at hu; simp at hu), (List.dropLast_concat_getLast _).symm⟩
      have hv : v.length = n := by simpa using hu
      rw [runZ_snoc, ih v hv]
      obtain ⟨q, hq, _⟩ := lsuf_spec hs v
      rw [stepZ_in c hq, lsuf_step hs c hq]
  exact key _ u rfl
theorem run_hits {l : List (List UInt8)} (hs : Sts l (statesL l)) (u : List UInt8) : hitsZ l (runZ l 0 u) = hitsI l u := by
  obtain ⟨q, hq, _⟩ := lsuf_spec hs u
  rw [run_lsuf hs, hitsZ_in hq]
  exact congrArg (List.map (fun (i : Nat) => (i : Int))) (hits_same hs hq)
theorem run_depth {l : List (List UInt8)} (hs : Sts l (statesL l)) (u : List UInt8) : depthZ l (runZ l 0 u) = (openV l u : Int) := by
  obtain ⟨q, hq, _⟩ := lsuf_spec hs u
  rw [run_lsuf hs, depthZ_in hq]
  unfold openV
  rw [List.getD_eq_getElem?_getD, hq]
  rfl
/-- The hits that end in the bytes t, behind s. -/
def progL (l : List (List UInt8)) (s t : List UInt8) : List HitT := (List.range t.length).flatMap fun i => (hitsI l (s ++ t.take (i + 1))).map fun k => (s.length + i + 1, k)
def progK (l : List (List UInt8)) (s t : List UInt8) (n : Nat) : List HitT := (List.range n).flatMap fun i => (hitsI l (s ++ t.take (i + 1))).map fun k => (s.length + i + 1, k)
theorem progK_succ (l : List (List UInt8)) (s t : List UInt8) (n : Nat) : progK l s t (n + 1) = progK l s t n ++ (hitsI l (s ++ t.take (n + 1))).map fun k => (s.length + n + 1, k) := by
  unfold progK
  rw [List.range_succ, List.flatMap_append]
  simp

/-! ### The walk in memory -/
theorem Row.blk {w : World} {e : TypeId} {size n : Nat} {v : Value} {xs : List Value} (h : Row w e size v n xs) {b : Nat} (hb : v.ownBlock = some b) : ∃ cs, Blk w b e cs := by
  rcases h.2 with ⟨rfl, _⟩ | ⟨g, cap, cur, rfl, _, hh, _⟩
  · simp [Value.ownBlock] at hb
  · simp [Value.ownBlock] at hb
    subst hb
    exact ⟨cur, hh⟩
theorem Row.grown_ {W w3 : World} {e : TypeId} {size n : Nat} {v : Value} {xs : List Value} {row : Option Nat} (h : Row W e size v n xs) (hg : W.grownBy w3 row) (hne : ∀ b, v.ownBlock = some b → row ≠ some b) : Row w3 e size v n xs := by
  obtain ⟨h1, h2⟩ := h
  refine ⟨h1, ?_⟩
  rcases h2 with h2 | ⟨g, cap, cur, rfl, hb, hh, r⟩
  · exact .inl h2
  · exact .inr ⟨g, cap, cur, rfl, hb, Blk.grown (t := e) hh hg (hne g rfl), r⟩
structure HsG (S : Nat → Prop) (w W : World) (v : Value) (L : List HitT) : Prop where
  row : Row W 103 2 v L.length (htVs L)
  own : ∀ b, v.ownBlock = some b → w.heap.size ≤ b
  keeps : Keeps S w W
theorem HsG.form {S : Nat → Prop} {w W : World} {v : Value} {L : List HitT} (h : HsG S w W v L) : ∃ a cp, v = .slice a L.length cp := by
  obtain ⟨a, cp, e, _⟩ := h.row.form
  exact ⟨a, cp, e⟩
theorem HsG.then_ {S : Nat → Prop} {w W W' : World} {v : Value} {L : List HitT} (h : HsG S w W v L) (hk : Pure' W W') : HsG S w W' v L := ⟨h.row.keep hk (fun _ _ hf => hf), h.own, h.keeps.then_ hk⟩
theorem HsG.more {S : Nat → Prop} {w W w3 : World} {a : Option Addr} {n cp b1 cap1 : Nat} {L : List HitT} {x : HitT} (h : HsG S w W (.slice a n cp) L) (hn : L.length = n)
    (hr : Row w3 103 2 (.slice (some ⟨b1, 0, none⟩) (n + 1) cap1) (n + 1) (htVs L ++ [.int .i64 (x.1 : Int), .int .i64 x.2]))
    (hg : (W.alloc (.cells #[.int .i64 (x.1 : Int), .int .i64 x.2] 103)).grownBy w3 (Value.slice a n cp).ownBlock)
    (hb : (Value.slice a n cp).ownBlock = some b1 ∨ b1 = W.heap.size + 1) : HsG S w w3 (.slice (some ⟨b1, 0, none⟩) (n + 1) cap1) (L ++ [x]) := by
  refine ⟨?_, fun b e => ?_, (h.keeps.alloc _).grown hg (fun k hk => .inr (h.own k hk))⟩
  · rw [List.length_append, hn, htVs_app]
    exact hr
  · simp [Value.ownBlock] at e
    subst e
    rcases hb with q | q
    · exact h.own _ q
    · rw [q]
      have := h.keeps.size
      omega
def wkC (ag : Nat) (st : Int) (seen nh : Nat) : Array Value := #[.pointer (some ⟨ag, 0, none⟩), .int .i64 st, .int .i64 (seen : Int), .int .i64 (nh : Int)]
/-- A walk that has gone through s. -/
def WalkI (w : World) (g : Nat) (kind : Int) (l : List (List UInt8)) (s : List UInt8) (nh : Nat) : Prop :=
  ∃ (ag : Nat) (w0 : World), AutI w0 ag kind l ∧ Pure' w0 w ∧ w0.heap.size ≤ g ∧ Blk w g 108 (wkC ag (runZ l 0 s) s.length nh)
theorem WalkI.pure {w w' : World} {g : Nat} {kind : Int} {l : List (List UInt8)} {s : List UInt8} {nh : Nat} (h : WalkI w g kind l s nh) (hk : Pure' w w') : WalkI w' g kind l s nh := by
  obtain ⟨ag, w0, h1, h2, h3, h4⟩ := h
  exact ⟨ag, w0, h1, h2.trans hk (fun _ _ hf => hf), h3, h4.keep hk (fun hf => hf)⟩
theorem AutI.sts {w : World} {g : Nat} {kind : Int} {l : List (List UInt8)} (h : AutI w g kind l) : Sts l (statesL l) := by
  obtain ⟨lg, tg, b, cap, fb, ob, S, F, O, dp, sp, h1, h2, _⟩ := h.ex
  exact h2.lk.ti.sts
def NewWalkPost (l : List (List UInt8)) (kind : Int) (w : World) (e : Ending) (w' : World) : Prop :=
  ((1 ≤ kind ∧ kind ≤ 3 ∧ ∃ g : Nat, e = .returned (.tuple #[.pointer (some ⟨g, 0, none⟩), .int .i64 0]) ∧ WalkI w' g kind l [] 0 ∧ w.heap.size ≤ g) ∨ (¬ (1 ≤ kind ∧ kind ≤ 3) ∧ e = .returned (.tuple #[.pointer none, .int .i64 2]))) ∧ Pure' w w'
set_option maxHeartbeats 2000000 in
theorem newWalk_ (x : Option Addr) (lp : List ByteArray) (kind : Int) (w : World) (h : SetP w x lp) (hn : lp.length ≤ 12) (hll : ∀ y ∈ bl lp, y.length ≤ 20) (hl : (bl lp).Pairwise (· < ·)) (hne : ∀ y ∈ bl lp, y ≠ []) :
    Calls Tryz.prog 27 #[.pointer x, .int .i64 kind] w fun e w' => NewWalkPost (bl lp) kind w e w' := by
  have HA := Lib.hid (newAut_ x lp kind w h hn hll hl hne)
  clear h hl hne hll hn
  generalize bl lp = l at *
  go_enter Tryz.func27, Tryz.ntmps27
  go_wp2_with fail
  refine HA.out.mono ?_
  rintro e w1 ⟨hcase, hk⟩
  have HK := Lib.hid hk
  clear hk
  rcases hcase with ⟨k1, k2, ag, rfl, ha⟩ | ⟨hno, rfl⟩
  · have HAI := Lib.hid ha
    have HKK := Lib.hid (And.intro k1 k2)
    obtain ⟨g, hg⟩ : ∃ g, w1.heap.size = g := ⟨_, rfl⟩
    have HG := Lib.hid hg
    have HB := Lib.hid (show Blk (w1.alloc (.cells #[.pointer (some ⟨ag, 0, none⟩), .int .i64 0, .int .i64 0, .int .i64 0] 108)) g 108 (wkC ag (runZ l 0 []) 0 0) from Blk.newAt hg.symm)
    have HK0 := Lib.hid ((Keeps.refl (fun _ => False) w1).alloc (.cells #[.pointer (some ⟨ag, 0, none⟩), .int .i64 0, .int .i64 0, .int .i64 0] 108))
    clear ha k1 k2 hg
    go_wp2
    go_ret2
    refine ⟨.inl ⟨HKK.out.1, HKK.out.2, g, by rw [← HG.out]; rfl, ⟨ag, w1, HAI.out, HK0.out, by rw [HG.out]; exact Nat.le_refl _, HB.out⟩, by rw [← HG.out]; exact HK.out.size⟩, HK.out.trans HK0.out (fun _ _ hf => hf)⟩
  · have HNO := Lib.hid hno
    clear hno
    go_wp2
    go_ret2
    exact ⟨.inr ⟨HNO.out, rfl⟩, HK.out⟩

def FeedPost (l : List (List UInt8)) (g : Nat) (kind : Int) (s t : List UInt8) (nh : Nat) (w : World) (e : Ending) (w' : World) : Prop :=
  ∃ A c, e = .returned (.slice A (progL l s t).length c) ∧ HsG (fun b => b = g) w w' (.slice A (progL l s t).length c) (progL l s t) ∧ WalkI w' g kind l (s ++ t) (nh + (progL l s t).length) ∧ (progL l s t = [] → A = none ∧ c = 0)
set_option maxHeartbeats 8000000 in
theorem feed_ (g : Nat) (kind : Int) (l : List (List UInt8)) (s t : List UInt8) (nh : Nat) (w : World) (h : WalkI w g kind l s nh) (hs : s.length ≤ 1000000) (ht : t.length ≤ 1000000) (hnh : nh ≤ 100000000) :
    Calls Tryz.prog 28 #[.pointer (some ⟨g, 0, none⟩), .string ⟨t.toArray⟩] w fun e w' => FeedPost l g kind s t nh w e w' := by
  obtain ⟨ag, w0, ha, hp0, hg0, hb0⟩ := h
  have HA := Lib.hid ha
  have HP0 := Lib.hid hp0
  have HST := Lib.hid ha.sts
  have HFW := Lib.hid ha.few
  have hbt : (⟨t.toArray⟩ : ByteArray).size = t.length := Lib.size_eq _
  obtain ⟨m, hm⟩ : ∃ m, t.length = m := ⟨_, rfl⟩
  have HM := Lib.hid hm
  obtain ⟨sn, hsn⟩ : ∃ q, s.length = q := ⟨_, rfl⟩
  have HSN := Lib.hid hsn
  have HB0 := Lib.hid (show Blk w g 108 (wkC ag (runZ l 0 (s ++ t.take 0)) (sn + 0) nh) by rw [List.take_zero, List.append_nil, ← hsn]; exact hb0)
  have hgl := hb0.lt
  rw [hm] at hbt ht
  rw [hsn] at hs
  clear ha hp0 hb0 hm hsn
  obtain ⟨i0, hi, hz0, hz1, hz2⟩ := info_parts htInfo
  have HF0 := Lib.hid (show HsG (fun b => b = g) w w (.slice none 0 0) (progK l s t 0) from ⟨Row.nil _ _ _, fun b hb => by simp [Value.ownBlock] at hb, Keeps.refl _ _⟩)
  go_enter Tryz.func28, Tryz.ntmps28
  go_wp2
  go_loopg [5, 13] m (fun gh v5 v13 wr => ∃ i : Nat, i + gh = m ∧ v13 = .int .i64 (i : Int) ∧ (progK l s t i).length ≤ i * 12 ∧ RowKit.Hid (HsG (fun b => b = g) w wr v5 (progK l s t i)) ∧ RowKit.Hid (Blk wr g 108 (wkC ag (runZ l 0 (s ++ t.take i)) (sn + i) nh)) ∧ RowKit.Hid (progK l s t i = [] → v5 = .slice none 0 0))
  case atStart => exact ⟨0, by omega, rfl, by simp [progK], HF0, HB0, Lib.hid (fun _ => rfl)⟩
  case round =>
    obtain ⟨i, hig, rfl, hlen, HF, HB, HNI⟩ := hrel
    clear HF0 HB0
    obtain ⟨a5, c5, rfl⟩ := HF.out.form
    obtain ⟨nL, hnL⟩ : ∃ q, (progK l s t i).length = q := ⟨_, rfl⟩
    rw [hnL] at HF HNI hlen ⊢
    have HNL := Lib.hid hnL
    clear hnL
    have HPW := Lib.hid (show Pure' w0 wr from HP0.out.trans HF.out.keeps (fun b hb e => by subst e; omega))
    cases gk with
    | zero =>
      obtain rfl : i = m := by omega
      have x3 := HB.out.cell 3
      have x4 := HB.out.frozen 3
      unfold wkC at x3
      have HPL := Lib.hid (show progK l s t i = progL l s t by rw [← HM.out]; rfl)
      have htk : t.take i = t := List.take_of_length_le (by rw [HM.out]; exact Nat.le_refl _)
      have HBE := Lib.hid (show Blk (wr.setCell ⟨g, 3, none⟩ (.int .i64 ((nh : Int) + (nL : Int)))) g 108 (wkC ag (runZ l 0 (s ++ t)) (s ++ t).length (nh + nL)) by
        have := HB.out.set_ 3 (.int .i64 ((nh : Int) + (nL : Int)))
        rw [htk] at this
        rw [List.length_append, HSN.out, HM.out]
        exact this.to (by unfold wkC; simp))
      have HRE := Lib.hid (show Row (wr.setCell ⟨g, 3, none⟩ (.int .i64 ((nh : Int) + (nL : Int)))) 103 2 (.slice a5 nL c5) nL (htVs (progK l s t i)) by
        have := HF.out.row
        rw [HNL.out] at this
        exact this.off (fun e => this.blk_ne HB.out (by decide) e))
      have HKE := Lib.hid (show Keeps (fun b => b = g) w (wr.setCell ⟨g, 3, none⟩ (.int .i64 ((nh : Int) + (nL : Int)))) from HF.out.keeps.setCell (p := ⟨g, 3, none⟩) (.inl rfl) _)
      have HPE := Lib.hid (show Pure' w0 (wr.setCell ⟨g, 3, none⟩ (.int .i64 ((nh : Int) + (nL : Int)))) from HPW.out.setCell (p := ⟨g, 3, none⟩) (.inr hg0) _)
      clear htk
      go_wp2
      go_ret
      have hl2 : (progL l s t).length = nL := by rw [← HPL.out]; exact HNL.out
      unfold FeedPost
      rw [hl2]
      exact ⟨a5, c5, rfl, ⟨by rw [hl2, ← HPL.out]; exact HRE.out, HF.out.own, HKE.out⟩, ⟨ag, w0, HA.out, HPE.out, hg0, HBE.out⟩, fun h => by
        have := HNI.out (by rw [HPL.out]; exact h)
        injection this with q1 q2 q3
        exact ⟨q1, q3⟩⟩
    | succ g3 =>
      have hii : (i : Int) < (m : Int) := by omega
      obtain ⟨c, _, hci, hga⟩ := at_c (show i < t.length by rw [HM.out]; omega)
      have HTK := Lib.hid (show s ++ t.take (i + 1) = (s ++ t.take i) ++ [c] by rw [List.take_add_one, hci]; simp)
      have HRN := Lib.hid (show stepZ l (runZ l 0 (s ++ t.take i)) c = runZ l 0 (s ++ t.take (i + 1)) by rw [HTK.out, runZ_snoc])
      have HHZ := Lib.hid (run_hits HST.out (s ++ t.take (i + 1)))
      have HPK := Lib.hid (progK_succ l s t i)
      have HAS := Lib.hid (fun (X : World) (hX : Pure' w0 X) => by
        have := astep_ ag kind l (runZ l 0 (s ++ t.take i)) c X (HA.out.pure hX)
        rw [HRN.out] at this
        exact this)
      obtain ⟨z0, hzz0⟩ : ∃ z, runZ l 0 (s ++ t.take i) = z := ⟨_, rfl⟩
      obtain ⟨z1, hzz1⟩ : ∃ z, runZ l 0 (s ++ t.take (i + 1)) = z := ⟨_, rfl⟩
      rw [hzz0] at HAS HB
      rw [hzz1] at HAS HHZ
      have HZ1 := Lib.hid hzz1
      obtain ⟨hz, hhz⟩ : ∃ q, hitsI l (s ++ t.take (i + 1)) = q := ⟨_, rfl⟩
      rw [hhz] at HPK HHZ
      obtain ⟨hn, hhn⟩ : ∃ q, hz.length = q := ⟨_, rfl⟩
      have hhb : hn ≤ 12 := by
        rw [← hhn, ← hhz]
        unfold hitsI
        rw [List.length_map]
        refine Nat.le_trans (List.length_filter_le _ _) ?_
        rw [List.length_range]
        exact HFW.out
      have HHI := Lib.hid (fun (X : World) (hX : Pure' w0 X) => by
        have := ahits_ ag kind l z1 X (HA.out.pure hX)
        rw [HHZ.out, hhn] at this
        exact this)
      have HHN := Lib.hid hhn
      have hnLb : nL ≤ 12000000 := by have : i * 12 ≤ 1000000 * 12 := Nat.mul_le_mul_right 12 (by omega); omega
      clear hci hzz0 hzz1 hhz hhn
      go_upto_region 7 with fail
      have HC1 := Lib.hid (show wr.cell? ⟨g, 1, none⟩ = some (.int .i64 z0) by rw [HB.out.cell]; rfl)
      refine wp_region_held_drew (S := (fun X => ∃ z, Blk X g 108 #[.pointer (some ⟨ag, 0, none⟩), z, .int .i64 ((sn + i : Nat) : Int), .int .i64 (nh : Int)])) (by kernel_rfl) (⟨.int .i64 z0, HB.out.drew⟩) (fun hHeld => ?_)
      have HH := Lib.hid hHeld
      clear hHeld
      refine wpAnyH_take (i := 0) (oi := ⟨some 16, .move (.tmp 0), _, _, _, _⟩) (v := ?vv1) rfl (by kernel_rfl) (by kernel_rfl) (by kernel_rfl) (fun _ _ _ h => h) (Or.inl ⟨by rfl, ?hy1⟩) HH.out ?rr1
      case hy1 => intro W hSw; go_simp; try with_reducible rfl
      try simp only [Act.put, List.setIfInBounds_toArray, List.set_cons_zero, List.set_cons_succ]
      refine wpAnyH_take (i := 1) (oi := ⟨some 17, .move (.tmp 0), _, _, _, _⟩) (v := ?vv2) rfl (by kernel_rfl) (by kernel_rfl) (by kernel_rfl) (fun _ _ _ h => h) (Or.inl ⟨by rfl, ?hy2⟩) HH.out ?rr2
      case hy2 => intro W hSw; go_simp; try with_reducible rfl
      try simp only [Act.put, List.setIfInBounds_toArray, List.set_cons_zero, List.set_cons_succ]
      refine wpAnyH_take (i := 2) (oi := ⟨some 18, .nilCheck (.tmp 17), _, _, _, _⟩) (v := ?vv3) rfl (by kernel_rfl) (by kernel_rfl) (by kernel_rfl) (fun _ _ _ h => h) (Or.inl ⟨by rfl, ?hy3⟩) HH.out ?rr3
      case hy3 => intro W hSw; go_simp; try with_reducible rfl
      try simp only [Act.put, List.setIfInBounds_toArray, List.set_cons_zero, List.set_cons_succ]
      refine wpAnyH_take (i := 3) (oi := ⟨some 19, .fieldAddr 108 (.tmp 18) 0, _, _, _, _⟩) (v := ?vv4) rfl (by kernel_rfl) (by kernel_rfl) (by kernel_rfl) (fun _ _ _ h => h) (Or.inl ⟨by rfl, ?hy4⟩) HH.out ?rr4
      case hy4 => intro W hSw; go_simp; try with_reducible rfl
      try simp only [Act.put, List.setIfInBounds_toArray, List.set_cons_zero, List.set_cons_succ]
      refine wpAnyH_take (i := 4) (oi := ⟨some 20, .load 104 (.tmp 19), _, _, _, _⟩) (v := ?vv5) rfl (by kernel_rfl) (by kernel_rfl) (by kernel_rfl) (fun _ _ _ h => h) (Or.inl ⟨by rfl, ?hy5⟩) HH.out ?rr5
      case hy5 => intro W hSw; obtain ⟨zz, hbz⟩ := hSw; have y := hbz.cell 0; go_simp; try with_reducible rfl
      try simp only [Act.put, List.setIfInBounds_toArray, List.set_cons_zero, List.set_cons_succ]
      refine wpAnyH_take (i := 5) (oi := ⟨some 21, .move (.tmp 0), _, _, _, _⟩) (v := ?vv6) rfl (by kernel_rfl) (by kernel_rfl) (by kernel_rfl) (fun _ _ _ h => h) (Or.inl ⟨by rfl, ?hy6⟩) HH.out ?rr6
      case hy6 => intro W hSw; go_simp; try with_reducible rfl
      try simp only [Act.put, List.setIfInBounds_toArray, List.set_cons_zero, List.set_cons_succ]
      refine wpAnyH_take (i := 6) (oi := ⟨some 22, .nilCheck (.tmp 21), _, _, _, _⟩) (v := ?vv7) rfl (by kernel_rfl) (by kernel_rfl) (by kernel_rfl) (fun _ _ _ h => h) (Or.inl ⟨by rfl, ?hy7⟩) HH.out ?rr7
      case hy7 => intro W hSw; go_simp; try with_reducible rfl
      try simp only [Act.put, List.setIfInBounds_toArray, List.set_cons_zero, List.set_cons_succ]
      refine wpAnyH_take (i := 7) (oi := ⟨some 23, .fieldAddr 108 (.tmp 22) 1, _, _, _, _⟩) (v := ?vv8) rfl (by kernel_rfl) (by kernel_rfl) (by kernel_rfl) (fun _ _ _ h => h) (Or.inl ⟨by rfl, ?hy8⟩) HH.out ?rr8
      case hy8 => intro W hSw; go_simp; try with_reducible rfl
      try simp only [Act.put, List.setIfInBounds_toArray, List.set_cons_zero, List.set_cons_succ]
      refine wpAnyH_take (i := 9) (oi := ⟨some 25, .move (.tmp 1), _, _, _, _⟩) (v := ?vv9) rfl (by kernel_rfl) (by kernel_rfl) (by kernel_rfl) (fun _ _ _ h => h) (Or.inl ⟨by rfl, ?hy9⟩) HH.out ?rr9
      case hy9 => intro W hSw; go_simp; try with_reducible rfl
      try simp only [Act.put, List.setIfInBounds_toArray, List.set_cons_zero, List.set_cons_succ]
      refine wpAnyH_take (i := 10) (oi := ⟨some 26, .move (.tmp 6), _, _, _, _⟩) (v := ?vv10) rfl (by kernel_rfl) (by kernel_rfl) (by kernel_rfl) (fun _ _ _ h => h) (Or.inl ⟨by rfl, ?hy10⟩) HH.out ?rr10
      case hy10 => intro W hSw; go_simp; try with_reducible rfl
      try simp only [Act.put, List.setIfInBounds_toArray, List.set_cons_zero, List.set_cons_succ]
      refine wpAnyH_take (i := 11) (oi := ⟨some 27, .index 9 (.tmp 25) (.tmp 26), _, _, _, _⟩) (v := ?vv11) rfl (by kernel_rfl) (by kernel_rfl) (by kernel_rfl) (fun _ _ _ h => h) (Or.inl ⟨by rfl, ?hy11⟩) HH.out ?rr11
      case hy11 => intro W hSw; go_simp; try with_reducible rfl
      try simp only [Act.put, List.setIfInBounds_toArray, List.set_cons_zero, List.set_cons_succ]
      refine wpAnyH_ready (rs := [8]) (by kernel_rfl) (by simp) ?_
      refine AllReadyH.cons (o := ⟨some 24, .load 3 (.tmp 23), _, _, _, _⟩) rfl (fun K hK => ?_) AllReadyH.nil
      go_simp
      have y := HC1.out
      go_simp
      refine hK.out _ _ (HH.out) (fun hHeld => ?_)
      have HH := Lib.hid hHeld
      clear hHeld hK K
      try simp only [Act.put, List.setIfInBounds_toArray, List.set_cons_zero, List.set_cons_succ]
      refine wpAnyH_ready (rs := [12]) (by kernel_rfl) (by simp) ?_
      refine AllReadyH.cons (o := ⟨some 28, .call { callee := .value (.func 71), args := #[.tmp 20, .tmp 24, .tmp 27], argTypes := #[104, 3, 5] }, _, _, _, _⟩) rfl (fun K hK => ?_) AllReadyH.nil
      go_simp
      go_at_call 71
      refine (HAS.out _ HPW.out.drew).mono ?_
      rintro e wB ⟨rfl, hkb⟩
      have HKB := Lib.hid ((Keeps.refl (fun _ => False) wr).drew.trans hkb (fun _ _ hf => hf))
      clear hkb
      go_wp2_with fail
      refine hK.out _ _ (⟨.int .i64 z0, HB.out.keep HKB.out (fun hf => hf)⟩) (fun hHeld => ?_)
      have HH := Lib.hid hHeld
      clear hHeld hK K
      try simp only [Act.put, List.setIfInBounds_toArray, List.set_cons_zero, List.set_cons_succ]
      refine wpAnyH_take (i := 13) (oi := ⟨some 29, .nilCheck (.tmp 16), _, _, _, _⟩) (v := ?vv12) rfl (by kernel_rfl) (by kernel_rfl) (by kernel_rfl) (fun _ _ _ h => h) (Or.inl ⟨by rfl, ?hy12⟩) HH.out ?rr12
      case hy12 => intro W hSw; go_simp; try with_reducible rfl
      try simp only [Act.put, List.setIfInBounds_toArray, List.set_cons_zero, List.set_cons_succ]
      refine wpAnyH_take (i := 14) (oi := ⟨some 30, .fieldAddr 108 (.tmp 29) 1, _, _, _, _⟩) (v := ?vv13) rfl (by kernel_rfl) (by kernel_rfl) (by kernel_rfl) (fun _ _ _ h => h) (Or.inl ⟨by rfl, ?hy13⟩) HH.out ?rr13
      case hy13 => intro W hSw; go_simp; try with_reducible rfl
      try simp only [Act.put, List.setIfInBounds_toArray, List.set_cons_zero, List.set_cons_succ]
      refine wpAnyH_ready (rs := [15]) (by kernel_rfl) (by simp) ?_
      refine AllReadyH.cons (o := ⟨none, .store 3 (.tmp 30) (.tmp 28), _, _, _, _⟩) rfl (fun K hK => ?_) AllReadyH.nil
      go_simp
      have y := (HB.out.keep HKB.out (fun hf => hf)).cell 1
      have y2 := (HB.out.keep HKB.out (fun hf => hf)).frozen 1
      go_simp
      refine hK.out _ _ (⟨_, (HB.out.keep HKB.out (fun hf => hf)).set_ 1 _⟩) (fun hHeld => ?_)
      have HH := Lib.hid hHeld
      clear hHeld hK K
      try simp only [Act.put, List.setIfInBounds_toArray, List.set_cons_zero, List.set_cons_succ]
      refine wpAnyH_done (by kernel_rfl) ?_ _
      have HBS := Lib.hid (show Blk (wB.setCell ⟨g, 1, none⟩ (.int .i64 z1)) g 108 (wkC ag z1 (sn + i) nh) from ((HB.out.keep HKB.out (fun hf => hf)).set_ 1 (.int .i64 z1)).to (by unfold wkC; simp))
      have HFS := Lib.hid (show HsG (fun b => b = g) w (wB.setCell ⟨g, 1, none⟩ (.int .i64 z1)) (.slice a5 nL c5) (progK l s t i) from
        ⟨(HF.out.row.keep HKB.out (fun _ _ hf => hf)).off (fun e => HF.out.row.blk_ne HB.out (by decide) e), HF.out.own, (HF.out.keeps.then_ HKB.out).setCell (p := ⟨g, 1, none⟩) (.inl rfl) _⟩)
      generalize wB.setCell ⟨g, 1, none⟩ (.int .i64 z1) = wa at *
      clear HH HC1 HKB
      have x2 := HBS.out.cell 2
      have x3 := HBS.out.frozen 2
      unfold wkC at x2
      have hseen : ((sn + i : Nat) : Int) = (sn : Int) + (i : Int) := by omega
      have HBT := Lib.hid (show Blk (wa.setCell ⟨g, 2, none⟩ (.int .i64 ((sn : Int) + (i : Int) + 1))) g 108 (wkC ag z1 (sn + (i + 1)) nh) from
        (HBS.out.set_ 2 (.int .i64 ((sn : Int) + (i : Int) + 1))).to (by unfold wkC; simp; omega))
      have HFT := Lib.hid (show HsG (fun b => b = g) w (wa.setCell ⟨g, 2, none⟩ (.int .i64 ((sn : Int) + (i : Int) + 1))) (.slice a5 nL c5) (progK l s t i) from
        ⟨HFS.out.row.off (fun e => HFS.out.row.blk_ne HBS.out (by decide) e), HFS.out.own, HFS.out.keeps.setCell (p := ⟨g, 2, none⟩) (.inl rfl) _⟩)
      rw [hseen] at x2
      clear hseen
      go_upto_region 9 with fail
      generalize wa.setCell ⟨g, 2, none⟩ (.int .i64 ((sn : Int) + (i : Int) + 1)) = wb at *
      clear x2 x3 HBS HFS
      have HPB := Lib.hid (show Pure' w0 wb from HP0.out.trans HFT.out.keeps (fun b hb e => by subst e; omega))
      have HCB := Lib.hid (fun (X : World) (hX : Pure' wb X) => show X.cell? ⟨g, 0, none⟩ = some (.pointer (some ⟨ag, 0, none⟩)) ∧ X.cell? ⟨g, 1, none⟩ = some (.int .i64 z1) from by
        have := HBT.out.keep hX (fun hf => hf)
        exact ⟨by rw [this.cell]; rfl, by rw [this.cell]; rfl⟩)
      refine wp_region_held_drew (S := (fun X => Pure' wb X)) (by kernel_rfl) ((Keeps.refl _ wb).drew) (fun hHeld => ?_)
      have HH := Lib.hid hHeld
      clear hHeld
      refine wpAnyH_take (i := 0) (oi := ⟨some 38, .move (.tmp 0), _, _, _, _⟩) (v := ?vv14) rfl (by kernel_rfl) (by kernel_rfl) (by kernel_rfl) (fun _ _ _ h => h) (Or.inl ⟨by rfl, ?hy14⟩) HH.out ?rr14
      case hy14 => intro W hSw; go_simp; try with_reducible rfl
      try simp only [Act.put, List.setIfInBounds_toArray, List.set_cons_zero, List.set_cons_succ]
      refine wpAnyH_take (i := 1) (oi := ⟨some 39, .nilCheck (.tmp 38), _, _, _, _⟩) (v := ?vv15) rfl (by kernel_rfl) (by kernel_rfl) (by kernel_rfl) (fun _ _ _ h => h) (Or.inl ⟨by rfl, ?hy15⟩) HH.out ?rr15
      case hy15 => intro W hSw; go_simp; try with_reducible rfl
      try simp only [Act.put, List.setIfInBounds_toArray, List.set_cons_zero, List.set_cons_succ]
      refine wpAnyH_take (i := 2) (oi := ⟨some 40, .fieldAddr 108 (.tmp 39) 0, _, _, _, _⟩) (v := ?vv16) rfl (by kernel_rfl) (by kernel_rfl) (by kernel_rfl) (fun _ _ _ h => h) (Or.inl ⟨by rfl, ?hy16⟩) HH.out ?rr16
      case hy16 => intro W hSw; go_simp; try with_reducible rfl
      try simp only [Act.put, List.setIfInBounds_toArray, List.set_cons_zero, List.set_cons_succ]
      refine wpAnyH_take (i := 3) (oi := ⟨some 41, .load 104 (.tmp 40), _, _, _, _⟩) (v := ?vv17) rfl (by kernel_rfl) (by kernel_rfl) (by kernel_rfl) (fun _ _ _ h => h) (Or.inl ⟨by rfl, ?hy17⟩) HH.out ?rr17
      case hy17 => intro W hSw; have y := (HCB.out W hSw).1; go_simp; try with_reducible rfl
      try simp only [Act.put, List.setIfInBounds_toArray, List.set_cons_zero, List.set_cons_succ]
      refine wpAnyH_take (i := 4) (oi := ⟨some 42, .move (.tmp 0), _, _, _, _⟩) (v := ?vv18) rfl (by kernel_rfl) (by kernel_rfl) (by kernel_rfl) (fun _ _ _ h => h) (Or.inl ⟨by rfl, ?hy18⟩) HH.out ?rr18
      case hy18 => intro W hSw; go_simp; try with_reducible rfl
      try simp only [Act.put, List.setIfInBounds_toArray, List.set_cons_zero, List.set_cons_succ]
      refine wpAnyH_take (i := 5) (oi := ⟨some 43, .nilCheck (.tmp 42), _, _, _, _⟩) (v := ?vv19) rfl (by kernel_rfl) (by kernel_rfl) (by kernel_rfl) (fun _ _ _ h => h) (Or.inl ⟨by rfl, ?hy19⟩) HH.out ?rr19
      case hy19 => intro W hSw; go_simp; try with_reducible rfl
      try simp only [Act.put, List.setIfInBounds_toArray, List.set_cons_zero, List.set_cons_succ]
      refine wpAnyH_take (i := 6) (oi := ⟨some 44, .fieldAddr 108 (.tmp 43) 1, _, _, _, _⟩) (v := ?vv20) rfl (by kernel_rfl) (by kernel_rfl) (by kernel_rfl) (fun _ _ _ h => h) (Or.inl ⟨by rfl, ?hy20⟩) HH.out ?rr20
      case hy20 => intro W hSw; go_simp; try with_reducible rfl
      try simp only [Act.put, List.setIfInBounds_toArray, List.set_cons_zero, List.set_cons_succ]
      refine wpAnyH_take (i := 7) (oi := ⟨some 45, .load 3 (.tmp 44), _, _, _, _⟩) (v := ?vv21) rfl (by kernel_rfl) (by kernel_rfl) (by kernel_rfl) (fun _ _ _ h => h) (Or.inl ⟨by rfl, ?hy21⟩) HH.out ?rr21
      case hy21 => intro W hSw; have y := (HCB.out W hSw).2; go_simp; try with_reducible rfl
      try simp only [Act.put, List.setIfInBounds_toArray, List.set_cons_zero, List.set_cons_succ]
      refine wpAnyH_take (i := 10) (oi := ⟨some 48, .move (.const (.int .i64 0)), _, _, _, _⟩) (v := ?vv22) rfl (by kernel_rfl) (by kernel_rfl) (by kernel_rfl) (fun _ _ _ h => h) (Or.inl ⟨by rfl, ?hy22⟩) HH.out ?rr22
      case hy22 => intro W hSw; go_simp; try with_reducible rfl
      try simp only [Act.put, List.setIfInBounds_toArray, List.set_cons_zero, List.set_cons_succ]
      refine wpAnyH_ready (rs := [8]) (by kernel_rfl) (by simp) ?_
      refine AllReadyH.cons (o := ⟨some 46, .call { callee := .value (.func 72), args := #[.tmp 41, .tmp 45], argTypes := #[104, 3] }, _, _, _, _⟩) rfl (fun K hK => ?_) AllReadyH.nil
      go_simp
      go_at_call 72
      refine (HHI.out _ (HPB.out.trans HH.out (fun _ _ hf => hf))).mono ?_
      rintro e wC ⟨A46, c46, rfl, hnm⟩
      have HN46 := Lib.hid hnm
      clear hnm
      go_wp2_with fail
      refine hK.out _ _ (HH.out.trans HN46.out.pure (fun _ _ hf => hf)) (fun hHeld => ?_)
      have HH := Lib.hid hHeld
      clear hHeld hK K
      try simp only [Act.put, List.setIfInBounds_toArray, List.set_cons_zero, List.set_cons_succ]
      refine wpAnyH_take (i := 9) (oi := ⟨some 47, .call { callee := .builtin .len, args := #[.tmp 46], argTypes := #[23] }, _, _, _, _⟩) (v := ?vv23) rfl (by kernel_rfl) (by kernel_rfl) (by kernel_rfl) (fun _ _ _ h => h) (Or.inl ⟨by rfl, ?hy23⟩) HH.out ?rr23
      case hy23 => intro W hSw; go_simp; try with_reducible rfl
      try simp only [Act.put, List.setIfInBounds_toArray, List.set_cons_zero, List.set_cons_succ]
      refine wpAnyH_done (by kernel_rfl) ?_ _
      have HBU := Lib.hid (HBT.out.keep HH.out (fun hf => hf))
      have HFU := Lib.hid (HFT.out.then_ HH.out)
      have HRI := Lib.hid (show Row wC 3 1 (.slice A46 hn c46) hn (hz.map (Value.int .i64)) by have := HN46.out.row; rw [HHN.out] at this; exact this)
      have HFU0 := Lib.hid (show HsG (fun b => b = g) w wC (.slice a5 nL c5) (progK l s t i ++ (hz.take 0).map fun k => (sn + i + 1, k)) by rw [List.take_zero, List.map_nil, List.append_nil]; exact HFU.out)
      have HNI0 := Lib.hid (show progK l s t i ++ (hz.take 0).map (fun k => ((sn + i + 1, k) : HitT)) = [] → Value.slice a5 nL c5 = .slice none 0 0 by rw [List.take_zero, List.map_nil, List.append_nil]; exact HNI.out)
      clear HH HCB HN46 HFT HBT HFU HNI
      go_wp2
      go_loopg [5, 48] hn (fun gh v5 v48 wz => ∃ j : Nat, j + gh = hn ∧ v48 = .int .i64 (j : Int) ∧ RowKit.Hid (HsG (fun b => b = g) w wz v5 (progK l s t i ++ (hz.take j).map fun k => (sn + i + 1, k))) ∧ RowKit.Hid (Blk wz g 108 (wkC ag z1 (sn + (i + 1)) nh)) ∧ RowKit.Hid (Row wz 3 1 (.slice A46 hn c46) hn (hz.map (Value.int .i64))) ∧ RowKit.Hid (progK l s t i ++ (hz.take j).map (fun k => ((sn + i + 1, k) : HitT)) = [] → v5 = .slice none 0 0))
      case atStart => exact ⟨0, by omega, rfl, HFU0, HBU, HRI, HNI0⟩
      case round =>
        obtain ⟨j, hjg, rfl, HF, HB, HR, HNI⟩ := hrel
        clear HFU0 HBU HRI HNI0
        obtain ⟨a5, c5, rfl⟩ := HF.out.form
        cases gk with
        | zero =>
          obtain rfl : j = hn := by omega
          have htk : hz.take j = hz := List.take_of_length_le (by rw [HHN.out]; exact Nat.le_refl _)
          have HX := Lib.hid (show progK l s t i ++ (hz.take j).map (fun k => (sn + i + 1, k)) = progK l s t (i + 1) by rw [htk, HPK.out, HSN.out])
          have hl3 : (progK l s t (i + 1)).length ≤ (i + 1) * 12 := by rw [← HX.out, List.length_append, HNL.out, List.length_map, htk, HHN.out, Nat.succ_mul]; omega
          rw [HX.out] at HF HNI ⊢
          have HB1 := Lib.hid (show Blk wr g 108 (wkC ag (runZ l 0 (s ++ t.take (i + 1))) (sn + (i + 1)) nh) by rw [HZ1.out]; exact HB.out)
          clear htk
          go_wp2
          go_roundg g3
          case measure => omega
          case rel => exact ⟨i + 1, by omega, by go_num, hl3, HF, HB1, HNI⟩
        | succ g4 =>
          have hji : (j : Int) < (hn : Int) := by omega
          obtain ⟨ad, z, rfl, hzj, y1⟩ := ints_at HR.out.sees (show j < hn by omega)
          have HTJ := Lib.hid (show (hz.take (j + 1)).map (fun k => ((sn + i + 1, k) : HitT)) = (hz.take j).map (fun k => (sn + i + 1, k)) ++ [(sn + i + 1, z)] by rw [List.take_add_one, hzj]; simp)
          obtain ⟨L, hL⟩ : ∃ L, progK l s t i ++ (hz.take j).map (fun k => ((sn + i + 1, k) : HitT)) = L := ⟨_, rfl⟩
          have HLE := Lib.hid (show progK l s t i ++ (hz.take (j + 1)).map (fun k => ((sn + i + 1, k) : HitT)) = L ++ [(sn + i + 1, z)] by rw [HTJ.out, ← List.append_assoc, hL])
          have hlb : L.length ≤ nL + hn := by rw [← hL, List.length_append, HNL.out, List.length_map, List.length_take]; omega
          rw [hL] at HF ⊢
          obtain ⟨nM, hnM⟩ : ∃ q, L.length = q := ⟨_, rfl⟩
          rw [hnM] at HF hlb ⊢
          have HNM := Lib.hid hnM
          have x2 : wr.cell? ⟨g, 2, none⟩ = some (.int .i64 ((sn : Int) + (i : Int) + 1)) := by
            rw [HB.out.cell, show (sn : Int) + (i : Int) + 1 = ((sn + (i + 1) : Nat) : Int) by omega]; rfl
          clear hzj hL hnM
          go_wp2_with (at_builtin; refine wpl_append _ rfl (.tmp 52) (.tmp 59) 58 rfl 103 i0 (.agg #[.int .i64 0, .int .i64 0]) 2 16 Tryz.underlying58 hi hz0 hz1 hz2 rfl (by decide) (.slice a5 nM c5) nM (htVs L) rfl ?own ⟨wr.heap.size, 0, none⟩ 1 1 [.int .i64 ((sn : Int) + (i : Int) + 1), .int .i64 z] rfl rfl ?news ?one (by decide) ?b1 ?b2 ?kk)
          case own => have := Row.alloc HF.out.row (.cells #[.int .i64 ((sn : Int) + (i : Int) + 1), .int .i64 z] 103); rw [HNM.out] at this; exact this
          case news => exact newsH
          case one => intro u hu; simp at hu; rcases hu with rfl | rfl <;> rfl
          case b1 => unfold maxLen; omega
          case b2 => omega
          case kk =>
            intro b1 cap1 w3 ho1 hg1 hb1 hl1
            have hcast : (((sn + i + 1 : Nat) : Nat) : Int) = (sn : Int) + (i : Int) + 1 := by omega
            have HM3 := Lib.hid (show HsG (fun b => b = g) w w3 (.slice (some ⟨b1, 0, none⟩) (nM + 1) cap1) (L ++ [(sn + i + 1, z)]) from
              HF.out.more (x := (sn + i + 1, z)) HNM.out (by dsimp only; rw [hcast]; exact ho1) (by dsimp only; rw [hcast]; exact hg1) hb1)
            have HB3 := Lib.hid ((HB.out.alloc (.cells #[.int .i64 ((sn : Int) + (i : Int) + 1), .int .i64 z] 103)).grown hg1 (fun e => HF.out.row.blk_ne HB.out (by decide) e))
            have HR3 := Lib.hid ((Row.alloc HR.out (.cells #[.int .i64 ((sn : Int) + (i : Int) + 1), .int .i64 z] 103)).grown_ hg1 (fun b hb e => by
              obtain ⟨cs, hcs⟩ := HR.out.blk hb
              exact HF.out.row.blk_ne hcs (by decide) e))
            have HL3 := Lib.hid (show (L ++ [((sn + i + 1, z) : HitT)]).length = nM + 1 by rw [List.length_append, HNM.out]; rfl)
            clear ho1 hg1 hb1 hcast x2
            go_wp2
            go_roundg g4
            case measure => omega
            case rel => exact ⟨j + 1, by omega, by go_num, by rw [HLE.out]; exact HM3, HB3, HR3, by rw [HLE.out]; exact Lib.hid (fun h => by simp at h)⟩

end Go.Proofs.YtkbdfnmeomkpjaaGreat
