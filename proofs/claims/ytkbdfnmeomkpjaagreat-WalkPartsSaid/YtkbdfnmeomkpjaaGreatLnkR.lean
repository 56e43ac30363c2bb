/- The hits of a state; no condition but the sizes. -/
import Derived.Test.YtkbdfnmeomkpjaaGreatLnkQ
import Derived.Sort.OwnSortedInts
namespace Go.Proofs.YtkbdfnmeomkpjaaGreat
open Go.RowKit Go.Sort
set_option linter.unusedVariables false
set_option linter.unusedSimpArgs false
set_option maxRecDepth 100000

theorem hits_step {l S : List (List UInt8)} (h : Sts l S) (q : List UInt8) :
    hsuf l q = (if q ∈ l then [l.idxOf q] else []) ++ hsuf l q.tail ∧ ((osuf l S q.tail = -1 ∧ hsuf l q.tail = []) ∨ ∃ (k : Nat) (q2 : List UInt8), osuf l S q.tail = (k : Int) ∧ S[k]? = some q2 ∧ hsuf l q.tail = hsuf l q2 ∧ q2.length < q.length) := by
  constructor
  · cases q with
    | nil => rw [if_neg (fun hx => h.pats _ hx rfl)]; rfl
    | cons c q =>
      rw [hsuf]
      split <;> rfl
  · obtain ⟨h1, h2⟩ := hsuf_tail h q.tail
    rcases osuf_spec h q.tail with e | ⟨k, q2, e1, e2, e3, e4⟩
    · exact .inl ⟨e, h1 e⟩
    · refine .inr ⟨k, q2, e1, e2, ?_, ?_⟩
      · rw [h2 k e1, List.getD_eq_getElem?_getD, e2]; rfl
      · cases q with
        | nil => simp [osuf] at e1
        | cons c q => have := e4.length_le; simp at this ⊢; omega
def hitsI (l : List (List UInt8)) (p : List UInt8) : List Int := (hitsL l p).map (fun (i : Nat) => (i : Int))
theorem hits_sorted {l : List (List UInt8)} (hl : l.Pairwise (· < ·)) (hne : ∀ x ∈ l, x ≠ []) (p : List UInt8) : ((hsuf l p).map (fun (i : Nat) => (i : Int))).mergeSort (fun x y => decide (x ≤ y)) = hitsI l p := by
  have hp : (hsuf l p).Perm (hitsL l p) := by
    refine (List.perm_ext_iff_of_nodup (hsuf_nodup hl hne p) ?_).2 fun i => ?_
    · exact (hitsL_sorted l p).imp fun h => Nat.ne_of_lt h
    · rw [hsuf_mem hl hne, hitsL_mem]
  have h1 : (((hsuf l p).map (fun (i : Nat) => (i : Int))).mergeSort (fun x y => decide (x ≤ y))).Perm (hitsI l p) := (List.mergeSort_perm _ _).trans (hp.map _)
  refine h1.eq_of_pairwise (le := fun (x y : Int) => x ≤ y) (fun a b _ _ h1 h2 => Int.le_antisymm h1 h2) ?_ ?_
  · have := List.pairwise_mergeSort (le := fun (x y : Int) => decide (x ≤ y)) (fun a b c h1 h2 => by simp at h1 h2 ⊢; omega) (fun a b => by simp; omega) ((hsuf l p).map (fun (i : Nat) => (i : Int)))
    exact this.imp fun h => by simpa using h
  · unfold hitsI
    rw [List.pairwise_map]
    exact (hitsL_sorted l p).imp fun h => by omega

/-- Numbers of the call's own. -/
structure Nm (w W : World) (v : Value) (zs : List Int) : Prop where
  row : Row W 3 1 v zs.length (zs.map (Value.int .i64))
  own : ∀ b, v.ownBlock = some b → w.heap.size ≤ b
  pure : Pure' w W
theorem Nm.then_ {w W W' : World} {v : Value} {zs : List Int} (h : Nm w W v zs) (hk : Pure' W W') : Nm w W' v zs := ⟨h.row.keep hk (fun _ _ hf => hf), h.own, h.pure.trans hk (fun _ _ hf => hf)⟩
theorem Nm.form {w W : World} {v : Value} {zs : List Int} (h : Nm w W v zs) : ∃ a cp, v = .slice a zs.length cp := by
  obtain ⟨a, cp, e, _⟩ := h.row.form
  exact ⟨a, cp, e⟩

theorem nsort_ (w W : World) (v : Value) (zs : List Int) (h : Nm w W v zs) (hz : zs.length ≤ 1000000) : Calls Tryz.prog 138 #[v] W fun e W' => e = .returned (.tuple #[]) ∧ Nm w W' v (zs.mergeSort fun x y => decide (x ≤ y)) := by
  have hlen : (zs.mergeSort fun x y => decide (x ≤ y)).length = zs.length := List.length_mergeSort zs
  rcases h.row.2 with ⟨e, h2⟩ | ⟨g, cap, cur, e, _, hh, hnc, hm, hz2, ht⟩
  · subst e
    have : zs = [] := by
      first
        | (have := List.map_eq_nil_iff.1 h2; exact this)
        | (simp at h2; exact h2)
    subst this
    refine (Tryz.slices_Sort_int_none none 0 W).mono ?_
    rintro e w1 ⟨rfl, rfl⟩
    exact ⟨rfl, by simpa using h⟩
  · subst e
    have ht' : cur.toList.take zs.length = zs.map (Value.int .i64) := by simpa using ht
    refine (Tryz.slices_Sort_int g 0 cap zs W (holds_of_blockI hh ht') (Array.getElem?_eq_some_iff.1 hh).1 (by omega)).mono ?_
    rintro e w1 ⟨rfl, n, os, rfl⟩
    refine ⟨rfl, ?_, h.own, ?_⟩
    · have := ownsRow_sortedI (n := n) (os := os) (base := 0) hlen (Nat.zero_le g) hh hnc hm hz2
      rw [hlen]
      exact this
    · exact h.pure.grown (grownBy_sortedI _) (fun k hk => .inr (h.own k hk))

set_option maxHeartbeats 2000000 in
theorem hits_ (g tg b cap fb ob : Nat) (l : List (List UInt8)) (S : List TSt) (F O : List Int) (t : Nat) (p : List UInt8) (w : World) (h : LkI w g tg b cap fb ob l S F O) (hp : (statesL l)[t]? = some p) (hpl : p.length ≤ 1000) :
    Calls Tryz.prog 98 #[.pointer (some ⟨g, 0, none⟩), .int .i64 (t : Int)] w fun e w' => ∃ A c, e = .returned (.slice A (hitsI l p).length c) ∧ Nm w w' (.slice A (hitsI l p).length c) (hitsI l p) := by
  have htl := h.at_ hp
  have HI := Lib.hid (lis_ g tg b cap fb ob l S F O (t : Int) w h.lk)
  rw [isB_in htl] at HI
  have HL := Lib.hid h
  have HST := Lib.hid h.lk.ti.sts
  have HSR := Lib.hid h.lk.ti.srt
  have HP := Lib.hid hp
  have HHS := Lib.hid (hits_sorted h.lk.ti.srt h.lk.ti.ne p)
  obtain ⟨i0, hi, hz0, hz1, hz2⟩ := info_parts intInfo
  have hfew := h.lk.ti.few
  obtain ⟨n, hn⟩ : ∃ n, S.length = n := ⟨_, rfl⟩
  have HN := Lib.hid hn
  rw [hn] at hfew htl
  obtain ⟨tot, htot⟩ : ∃ tot, (hsuf l p).map (fun (i : Nat) => (i : Int)) = tot := ⟨_, rfl⟩
  rw [htot] at HHS
  have HTO := Lib.hid htot
  have hfin := HHS.out
  rw [← hfin]
  clear h hp hn htot hfin
  go_enter Tryz.func98, Tryz.ntmps98
  go_wp2_with fail
  refine HI.out.mono ?_
  rintro e w1 ⟨rfl, rfl⟩
  go_wp2
  go_loopg [1, 5, 6, 7] (p.length + 1) (fun gh v1 v5 v6 v7 wr => ∃ (acc : List Int), RowKit.Hid (Nm w1 wr v5 acc) ∧ acc.length + gh ≤ p.length + 1 ∧ ((∃ (t1 : Nat) (q : List UInt8), v1 = .int .i64 (t1 : Int) ∧ t1 < n ∧ RowKit.Hid ((statesL l)[t1]? = some q) ∧ q.length < gh ∧ RowKit.Hid (acc ++ (hsuf l q).map (fun (i : Nat) => (i : Int)) = tot)) ∨ (v1 = .int .i64 (-1) ∧ acc = tot)))
  case atStart => exact ⟨[], Lib.hid ⟨Row.nil _ _ _, fun b hb => by simp [Value.ownBlock] at hb, Keeps.refl _ _⟩, by simp, .inl ⟨t, p, rfl, htl, HP, by omega, Lib.hid (by rw [HTO.out]; rfl)⟩⟩
  case round =>
    obtain ⟨acc, HA, hal, hcase⟩ := hrel
    obtain ⟨a, cp, rfl⟩ := HA.out.form
    rcases hcase with ⟨t1, q, rfl, htn, HQ, hqg, HTT⟩ | ⟨rfl, hacc⟩
    · cases gk with
      | zero => omega
      | succ g3 =>
        obtain ⟨hs1, hs2⟩ := hits_step HST.out q
        have HLw := Lib.hid (HL.out.pure HA.out.pure)
        have HEN := Lib.hid (ends_ tg b cap l S t1 q wr HLw.out.lk.ti HQ.out)
        have HS1 := Lib.hid hs1
        have HS2 := Lib.hid hs2
        have c0 := HLw.out.lk.box.cell 0
        have ht0 : (0 : Int) ≤ (t1 : Int) := by omega
        clear hs1 hs2
        go_wp2_with fail
        refine HEN.out.mono ?_
        rintro e w2 ⟨hcase, rfl⟩
        rcases hcase with ⟨j, rfl, hj⟩ | ⟨rfl, hno⟩
        · have hql : q ∈ l := List.mem_of_getElem? hj
          have hix : l.idxOf q = j := idx_lex HSR.out hj
          have HT2 := Lib.hid (show (acc ++ [(j : Int)]) ++ (hsuf l q.tail).map (fun (i : Nat) => (i : Int)) = tot by
            rw [← HTT.out, HS1.out, if_pos hql, hix]; simp)
          clear hj hql hix
          go_wp2_with (at_builtin; refine wpl_append _ rfl (.tmp 24) (.tmp 26) 23 rfl 3 i0 (.int .i64 0) 1 8 Tryz.underlying23 hi hz0 hz1 hz2 rfl (by decide) (.slice a acc.length cp) acc.length (acc.map (Value.int .i64)) rfl ?own ⟨w2.heap.size, 0, none⟩ 1 1 [.int .i64 (j : Int)] rfl rfl ?news ?one (by decide) ?b1 ?b2 ?k)
          case own => exact Row.alloc HA.out.row _
          case news => exact news1
          case one => intro u hu; simp at hu; subst hu; rfl
          case b1 => unfold maxLen; omega
          case b2 => omega
          case k =>
            intro b1 cap1 w3 ho1 hg1 hb1 hl1
            have HK := Lib.hid ((HA.out.pure.alloc _).grown hg1 (fun k hk => .inr (HA.out.own k hk)))
            have HD : Hid (w1.heap.size ≤ b1) := by
              rcases hb1 with h | h
              · exact Lib.hid (HA.out.own _ h)
              · exact Lib.hid (by rw [h]; have := HA.out.pure.size; simp [World.alloc]; omega)
            have HN3 : Hid (Nm w1 w3 (.slice (some ⟨b1, 0, none⟩) (acc.length + 1) cap1) (acc ++ [(j : Int)])) := Lib.hid ⟨by simpa using ho1, fun b hb => by simp [Value.ownBlock] at hb; rw [← hb]; exact HD.out, HK.out⟩
            clear ho1 hg1 hb1
            have HL3 := Lib.hid (HL.out.pure HN3.out.pure)
            have c2 : w3.cell? ⟨g, 2, none⟩ = some (.slice (some ⟨ob, 0, none⟩) n n) := by rw [HL3.out.lk.box.cell, HN.out]; rfl
            have oc : w3.cell? ⟨ob, t1, none⟩ = some (.int .i64 (osuf l (statesL l) q.tail)) := HL3.out.lk.ocell (HL3.out.ook t1 q (by rw [HN.out]; exact htn) HQ.out)
            clear c0
            rcases HS2.out with ⟨e1, e2⟩ | ⟨k, q2, e1, e2, e3, e4⟩
            · rw [e1] at oc
              have HT3 := Lib.hid (show acc ++ [(j : Int)] = tot by rw [← HT2.out, e2]; simp)
              clear e1 e2
              go_wp2
              go_roundg g3
              case measure => omega
              case rel => exact ⟨acc ++ [(j : Int)], by have := HN3; simpa using this, by simp; omega, .inr ⟨rfl, HT3.out⟩⟩
            · rw [e1] at oc
              have HT3 := Lib.hid (show (acc ++ [(j : Int)]) ++ (hsuf l q2).map (fun (i : Nat) => (i : Int)) = tot by rw [← e3]; exact HT2.out)
              have HQ2 := Lib.hid e2
              have hkn : k < n := by rw [← HN.out, HL.out.len]; exact (List.getElem?_eq_some_iff.1 e2).1
              clear e1 e2 e3
              go_wp2
              go_roundg g3
              case measure => omega
              case rel => exact ⟨acc ++ [(j : Int)], by have := HN3; simpa using this, by simp; omega, .inl ⟨k, q2, rfl, hkn, HQ2, by omega, HT3⟩⟩
        · have HT2 := Lib.hid (show acc ++ (hsuf l q.tail).map (fun (i : Nat) => (i : Int)) = tot by
            rw [← HTT.out, HS1.out, if_neg hno]; simp)
          have c2 : w2.cell? ⟨g, 2, none⟩ = some (.slice (some ⟨ob, 0, none⟩) n n) := by rw [HLw.out.lk.box.cell, HN.out]; rfl
          have oc : w2.cell? ⟨ob, t1, none⟩ = some (.int .i64 (osuf l (statesL l) q.tail)) := HLw.out.lk.ocell (HLw.out.ook t1 q (by rw [HN.out]; exact htn) HQ.out)
          clear c0 hno
          rcases HS2.out with ⟨e1, e2⟩ | ⟨k, q2, e1, e2, e3, e4⟩
          · rw [e1] at oc
            have HT3 := Lib.hid (show acc = tot by rw [← HT2.out, e2]; simp)
            clear e1 e2
            go_wp2
            go_roundg g3
            case measure => omega
            case rel => exact ⟨acc, HA, by omega, .inr ⟨rfl, HT3.out⟩⟩
          · rw [e1] at oc
            have HT3 := Lib.hid (show acc ++ (hsuf l q2).map (fun (i : Nat) => (i : Int)) = tot by rw [← e3]; exact HT2.out)
            have HQ2 := Lib.hid e2
            have hkn : k < n := by rw [← HN.out, HL.out.len]; exact (List.getElem?_eq_some_iff.1 e2).1
            clear e1 e2 e3
            go_wp2
            go_roundg g3
            case measure => omega
            case rel => exact ⟨acc, HA, by omega, .inl ⟨k, q2, rfl, hkn, HQ2, by omega, HT3⟩⟩
    · have HSO := Lib.hid (nsort_ w1 wr (.slice a acc.length cp) acc HA.out (by omega))
      rw [hacc] at HSO
      have hlt : (tot.mergeSort fun x y => decide (x ≤ y)).length = tot.length := List.length_mergeSort tot
      subst hacc
      go_wp2_with fail
      refine HSO.out.mono ?_
      rintro e w2 ⟨rfl, hnm⟩
      have HNM := Lib.hid hnm
      clear hnm
      go_wp2
      go_ret
      exact ⟨a, cp, by rw [hlt]; rfl, by rw [hlt]; exact HNM.out⟩

end Go.Proofs.YtkbdfnmeomkpjaaGreat
