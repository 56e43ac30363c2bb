/- Rows of hits; the hits of a text, by the reference; no condition but the sizes. -/
import Derived.Test.YtkbdfnmeomkpjaaGreatLst
namespace Go.Proofs.YtkbdfnmeomkpjaaGreat.Hg
open Go.RowKit
set_option linter.unusedVariables false
set_option linter.unusedSimpArgs false
set_option maxRecDepth 100000

/-- A hit: its end, and its pattern's number. -/
abbrev HitT := Nat × Int
def htC (x : HitT) : List Value := [.int .i64 (x.1 : Int), .int .i64 x.2]
def htVs (L : List HitT) : List Value := L.flatMap htC
theorem htVs_len (L : List HitT) : (htVs L).length = L.length * 2 := by
  induction L with
  | nil => rfl
  | cons s S ih => rw [show htVs (s :: S) = htC s ++ htVs S from rfl, List.length_append, ih]; simp [htC]; omega
theorem htVs_app (C D : List HitT) : htVs (C ++ D) = htVs C ++ htVs D := by simp [htVs]
theorem htVs_at : ∀ (C : List HitT) (k r : Nat) (x : HitT), C[k]? = some x → r < 2 → (htVs C)[k * 2 + r]? = (htC x)[r]?
  | [], k, r, s, h, _ => by simp at h
  | a :: S, 0, r, s, h, hr => by
    simp at h; subst h
    rw [show htVs (a :: S) = htC a ++ htVs S from rfl, Nat.zero_mul, Nat.zero_add, List.getElem?_append_left (by simpa [htC] using hr)]
  | a :: S, k + 1, r, s, h, hr => by
    have ih := htVs_at S k r s (by simpa using h) hr
    rw [show htVs (a :: S) = htC a ++ htVs S from rfl, show (k + 1) * 2 + r = 2 + (k * 2 + r) by omega, List.getElem?_append_right (by simp [htC])]
    simpa [htC] using ih
/-- Hits of the call's own. -/
structure Hs (w W : World) (v : Value) (L : List HitT) : Prop where
  row : Row W 103 2 v L.length (htVs L)
  own : ∀ b, v.ownBlock = some b → w.heap.size ≤ b
  pure : Pure' w W
theorem Hs.then_ {w W W' : World} {v : Value} {L : List HitT} (h : Hs w W v L) (hk : Pure' W W') : Hs w W' v L := ⟨h.row.keep hk (fun _ _ hf => hf), h.own, h.pure.trans hk (fun _ _ hf => hf)⟩
theorem Hs.form {w W : World} {v : Value} {L : List HitT} (h : Hs w W v L) : ∃ a cp, v = .slice a L.length cp := by
  obtain ⟨a, cp, e, _⟩ := h.row.form
  exact ⟨a, cp, e⟩
theorem Hs.back {w0 w W : World} {v : Value} {L : List HitT} (h : Hs w W v L) (h0 : Pure' w0 w) : Hs w0 W v L := ⟨h.row, fun b hb => by have := h.own b hb; have := h0.size; omega, h0.trans h.pure (fun _ _ hf => hf)⟩
theorem hit_at {W : World} {B : Nat} {A : Option Addr} {n k : Nat} {L : List HitT} (h : Sees W B 2 A n (htVs L)) (hk : k < n) : ∃ (b o : Nat) (x : HitT), A = some ⟨b, o, none⟩ ∧ L[k]? = some x ∧ W.cell? ⟨b, o + k * 2, none⟩ = some (.int .i64 (x.1 : Int)) ∧ W.cell? ⟨b, o + k * 2 + 1, none⟩ = some (.int .i64 x.2) := by
  have hl : L.length = n := by have := h.1; rw [htVs_len] at this; omega
  obtain ⟨ad, hA, _, hc⟩ := h.2 (by omega)
  obtain ⟨x, hx⟩ : ∃ x, L[k]? = some x := ⟨_, List.getElem?_eq_getElem (by omega)⟩
  have q0 := htVs_at L k 0 x hx (by decide)
  rw [Nat.add_zero] at q0
  have c0 := hc _ _ q0
  have c1 := hc _ _ (htVs_at L k 1 x hx (by decide))
  obtain ⟨b, o, sp⟩ := ad
  obtain rfl : sp = none := by
    have hl0 := htVs_len L
    have := World.cell?_spot (hc 0 _ (List.getElem?_eq_getElem (by omega)))
    simpa [Addr.add] using this
  rw [Addr.add_mid] at c0 c1
  exact ⟨b, o, x, hA, hx, c0, c1⟩
theorem htInfo : (Tryz.prog.info? 103).map (fun i => (i.zero, i.size, i.bytes)) = some (some (.agg #[.int .i64 0, .int .i64 0]), 2, 16) := by kernel_rfl
theorem newsH {w : World} {a b : Value} {T : TypeId} : ∀ j x, [a, b][j]? = some x → (w.alloc (.cells #[a, b] T)).cell? ((⟨w.heap.size, 0, none⟩ : Addr).add j) = some x := by
  intro j u hu
  rw [Addr.add_mid, Nat.zero_add, (Blk.new w T #[a, b]).cell]
  simpa using hu
/-- One hit more. -/
theorem Hs.more {w W w3 : World} {a : Option Addr} {n cp b1 cap1 : Nat} {L : List HitT} {x : HitT} (h : Hs w W (.slice a n cp) L) (hn : L.length = n)
    (hr : Row w3 103 2 (.slice (some ⟨b1, 0, none⟩) (n + 1) cap1) (n + 1) (htVs L ++ [.int .i64 (x.1 : Int), .int .i64 x.2]))
    (hg : (W.alloc (.cells #[.int .i64 (x.1 : Int), .int .i64 x.2] 103)).grownBy w3 (Value.slice a n cp).ownBlock)
    (hb : (Value.slice a n cp).ownBlock = some b1 ∨ b1 = W.heap.size + 1) : Hs w w3 (.slice (some ⟨b1, 0, none⟩) (n + 1) cap1) (L ++ [x]) := by
  refine ⟨?_, fun b e => ?_, (h.pure.alloc _).grown hg (fun k hk => .inr (h.own k hk))⟩
  · rw [List.length_append, hn, htVs_app]
    exact hr
  · simp [Value.ownBlock] at e
    subst e
    rcases hb with q | q
    · exact h.own _ q
    · rw [q]
      have := h.pure.size
      omega

/-! ### The reference -/
def standsB (p s : List UInt8) (e : Nat) : Bool := decide (p.length ≤ e ∧ e ≤ s.length ∧ (s.take e).drop (e - p.length) = p)
theorem stands_iff {p s : List UInt8} {e : Nat} (he : e ≤ s.length) : standsB p s e = true ↔ p <:+ s.take e := by
  have hl : (s.take e).length = e := by rw [List.length_take]; omega
  unfold standsB
  rw [decide_eq_true_iff]
  constructor
  · rintro ⟨_, _, h⟩
    rw [← h]
    exact List.drop_suffix _ _
  · intro h
    have h1 := h.length_le
    rw [hl] at h1
    refine ⟨h1, he, ?_⟩
    have := List.suffix_iff_eq_drop.1 h
    rw [hl] at this
    exact this.symm
set_option maxHeartbeats 2000000 in
theorem rstands_ (p s : List UInt8) (e : Nat) (w : World) (hp : p.length ≤ 1000000) (hs : s.length ≤ 1000000) (he : e ≤ 1000000) :
    Calls Tryz.prog 64 #[.string ⟨p.toArray⟩, .string ⟨s.toArray⟩, .int .i64 (e : Int)] w fun en w' => en = .returned (.bool (standsB p s e)) ∧ w' = w := by
  have hbp : (⟨p.toArray⟩ : ByteArray).size = p.length := Lib.size_eq _
  have hbs : (⟨s.toArray⟩ : ByteArray).size = s.length := Lib.size_eq _
  by_cases h1 : p.length ≤ e
  · by_cases h2 : e ≤ s.length
    · obtain ⟨j, hj⟩ : ∃ j, e - p.length = j := ⟨_, rfl⟩
      have hxt : (⟨s.toArray⟩ : ByteArray).extract j e = ⟨((s.take e).drop j).toArray⟩ := bytes_eq (by simp only [ByteArray.extract, ByteArray.copySlice]; simp [List.drop_take, Nat.min_eq_left h2])
      obtain ⟨u, hu⟩ : ∃ u, (s.take e).drop j = u := ⟨_, rfl⟩
      obtain ⟨R, hR⟩ : ∃ R, standsB p s e = R := ⟨_, rfl⟩
      have HR : RowKit.Hid ((u == p) = R) := Lib.hid (by
        rw [← hR]
        unfold standsB
        rw [hj, hu]
        by_cases q : u = p
        · simp [q, h1, h2]
        · simp [q])
      rw [hu] at hxt
      rw [hR]
      obtain ⟨pn, hpn⟩ : ∃ n, p.length = n := ⟨_, rfl⟩
      obtain ⟨sn, hsn⟩ : ∃ n, s.length = n := ⟨_, rfl⟩
      rw [hpn] at hbp h1 hp hj
      rw [hsn] at hbs h2 hs
      have h1i : (pn : Int) ≤ (e : Int) := by omega
      have h2i : (e : Int) ≤ (sn : Int) := by omega
      have hji : (e : Int) - (pn : Int) = (j : Int) := by omega
      have hjl : j ≤ e := by omega
      have hjs : j ≤ sn := by omega
      clear hR hu hpn hsn hj
      cases hb : (u == p) with
      | true =>
        have hr : R = true := by rw [← HR.out]; exact hb
        subst hr
        go_enter Tryz.func64, Tryz.ntmps64
        go_wp2
        go_ret
        exact ⟨rfl, rfl⟩
      | false =>
        have hr : R = false := by rw [← HR.out]; exact hb
        subst hr
        go_enter Tryz.func64, Tryz.ntmps64
        go_wp2
        go_ret
        exact ⟨rfl, rfl⟩
    · have hR : standsB p s e = false := by unfold standsB; simp [h2]
      rw [hR]
      obtain ⟨pn, hpn⟩ : ∃ n, p.length = n := ⟨_, rfl⟩
      obtain ⟨sn, hsn⟩ : ∃ n, s.length = n := ⟨_, rfl⟩
      rw [hpn] at hbp h1
      rw [hsn] at hbs h2
      have h1i : (pn : Int) ≤ (e : Int) := by omega
      have h2i : ¬ (e : Int) ≤ (sn : Int) := by omega
      clear hR hpn hsn
      go_enter Tryz.func64, Tryz.ntmps64
      go_wp2
      go_ret
      exact ⟨rfl, rfl⟩
  · have hR : standsB p s e = false := by unfold standsB; simp [h1]
    rw [hR]
    obtain ⟨pn, hpn⟩ : ∃ n, p.length = n := ⟨_, rfl⟩
    rw [hpn] at hbp h1
    have h1i : ¬ (pn : Int) ≤ (e : Int) := by omega
    clear hR hpn
    go_enter Tryz.func64, Tryz.ntmps64
    go_wp2
    go_ret
    exact ⟨rfl, rfl⟩

def hitsI (l : List (List UInt8)) (p : List UInt8) : List Int := (hitsL l p).map (fun (i : Nat) => (i : Int))
/-- The hits at an end, of the first k patterns. -/
def rowK (l : List (List UInt8)) (s : List UInt8) (e k : Nat) : List HitT := ((List.range k).filter fun i => standsB (l.getD i []) s e).map fun (i : Nat) => (e, (i : Int))
theorem rowK_succ {l : List (List UInt8)} {s x : List UInt8} {e k : Nat} (hx : l[k]? = some x) : rowK l s e (k + 1) = rowK l s e k ++ (if standsB x s e = true then [(e, (k : Int))] else []) := by
  unfold rowK
  rw [List.range_succ, List.filter_append, List.map_append]
  congr 1
  have : l.getD k [] = x := by rw [List.getD_eq_getElem?_getD, hx]; rfl
  cases h : standsB x s e <;> simp [List.getD_eq_getElem?_getD, hx, h]
theorem rowK_len (l : List (List UInt8)) (s : List UInt8) (e k : Nat) : (rowK l s e k).length ≤ k := by
  unfold rowK
  rw [List.length_map]
  refine Nat.le_trans (List.length_filter_le _ _) ?_
  rw [List.length_range]; exact Nat.le_refl _
/-- All hits of ends below e. -/
def allE (l : List (List UInt8)) (s : List UInt8) (e : Nat) : List HitT := (List.range e).flatMap fun e => rowK l s e l.length
theorem allE_succ (l : List (List UInt8)) (s : List UInt8) (e : Nat) : allE l s (e + 1) = allE l s e ++ rowK l s e l.length := by
  unfold allE
  rw [List.range_succ, List.flatMap_append]
  simp
def allL (l : List (List UInt8)) (s : List UInt8) : List HitT := allE l s (s.length + 1)
theorem rowK_hits {l : List (List UInt8)} {s : List UInt8} {e : Nat} (he : e ≤ s.length) : rowK l s e l.length = (hitsI l (s.take e)).map fun i => (e, i) := by
  unfold rowK hitsI hitsL
  rw [List.map_map]
  congr 1
  refine List.filter_congr fun i _ => ?_
  rw [Bool.eq_iff_iff, stands_iff he, List.isSuffixOf_iff_suffix]

set_option maxHeartbeats 4000000 in
theorem rall_ (A : Option Addr) (n c B : Nat) (l : List (List UInt8)) (s : List UInt8) (w : World) (h : Sees w B 1 A n (strVs l)) (hB : B ≤ w.heap.size) (hn : n ≤ 100) (hs : s.length ≤ 100000) (hll : ∀ x ∈ l, x.length ≤ 100000) :
    Calls Tryz.prog 37 #[.slice A n c, .string ⟨s.toArray⟩] w fun e w' => ∃ A' c', e = .returned (.slice A' (allL l s).length c') ∧ Hs w w' (.slice A' (allL l s).length c') (allL l s) := by
  have HL := Lib.hid (show l.length = n by have := h.1; rw [strVs_len] at this; omega)
  have HS := Lib.hid (fun (W : World) (hW : Pure' w W) => h.pure hW hB)
  have HLL := Lib.hid hll
  have HST := Lib.hid (fun (x : List UInt8) (hx : x.length ≤ 100000) (e : Nat) (he : e ≤ 100001) (W : World) => rstands_ x s e W (by omega) (by omega) (by omega))
  obtain ⟨i0, hi, hz0, hz1, hz2⟩ := info_parts htInfo
  have hbs : (⟨s.toArray⟩ : ByteArray).size = s.length := Lib.size_eq _
  have HN0 := Lib.hid (show Hs w (w.alloc (.cells #[] 103)) (.slice (some ⟨w.heap.size, 0, none⟩) 0 0) [] from
    ⟨⟨by simp [htVs], .inr ⟨w.heap.size, 0, _, rfl, Nat.zero_le _, Blk.new w _ _, Nat.le_refl _, by decide, by simp, by simp [htVs]⟩⟩, fun b hb => by simp [Value.ownBlock] at hb; omega, (Keeps.refl _ w).alloc _⟩)
  obtain ⟨m, hm⟩ : ∃ m, s.length = m := ⟨_, rfl⟩
  have HALL := Lib.hid (show allE l s (m + 1) = allL l s by rw [← hm]; rfl)
  rw [← HALL.out]
  have HE := Lib.hid (fun e => allE_succ l s e)
  have HR0 := Lib.hid (fun e => show rowK l s e 0 = [] from rfl)
  rw [hm] at hbs hs
  clear h hll hm
  go_enter Tryz.func37, Tryz.ntmps37
  go_wp2
  generalize hW0 : w.alloc (.cells #[] 103) = W0 at *
  clear hW0
  go_loopg [5, 6, 7] (m + 1) (fun gh v5 v6 v7 wr => ∃ e : Nat, e + gh = m + 1 ∧ v6 = .int .i64 (e : Int) ∧ (allE l s e).length ≤ e * n ∧ RowKit.Hid (Hs w wr v5 (allE l s e)))
  case atStart => exact ⟨0, by omega, rfl, by simp [allE], HN0⟩
  case round =>
    obtain ⟨e, heg, rfl, hlen, HA⟩ := hrel
    obtain ⟨a, cp, rfl⟩ := HA.out.form
    cases gk with
    | zero =>
      obtain rfl : e = m + 1 := by omega
      have hmi : ¬ ((m : Int) + 1) ≤ (m : Int) := by omega
      go_wp2
      go_ret
      exact ⟨a, cp, rfl, HA.out⟩
    | succ g3 =>
      have hem : e ≤ m := by omega
      have hemi : (e : Int) ≤ (m : Int) := by omega
      have henb : e * n ≤ 100000 * 100 := Nat.mul_le_mul (by omega) hn
      go_wp2
      go_loopg [5, 7] n (fun gh v5 v7 wz => ∃ i : Nat, i + gh = n ∧ v7 = .int .i64 (i : Int) ∧ (allE l s e ++ rowK l s e i).length ≤ e * n + i ∧ RowKit.Hid (Hs w wz v5 (allE l s e ++ rowK l s e i)))
      case atStart => exact ⟨0, by omega, rfl, by rw [HR0.out, List.append_nil]; omega, by rw [HR0.out, List.append_nil]; exact HA⟩
      case round =>
        obtain ⟨i, hig, rfl, hlen2, HB⟩ := hrel
        obtain ⟨a2, cp2, rfl⟩ := HB.out.form
        cases gk with
        | zero =>
          obtain rfl : i = n := by omega
          have HX := Lib.hid (show allE l s e ++ rowK l s e i = allE l s (e + 1) by rw [HE.out, HL.out])
          have hl3 : (allE l s (e + 1)).length ≤ (e + 1) * i := by rw [← HX.out, Nat.succ_mul]; omega
          rw [HX.out] at HB ⊢
          clear hlen hlen2
          go_wp2
          go_roundg g3
          case measure => omega
          case rel => exact ⟨e + 1, by omega, by go_num, hl3, HB⟩
        | succ g4 =>
          have hii : (i : Int) < (n : Int) := by omega
          obtain ⟨ad, x, rfl, hx, xc⟩ := word_at (HS.out _ HB.out.pure) (show i < n by omega)
          have HRS := Lib.hid (rowK_succ (s := s) (e := e) hx)
          have HSX := Lib.hid (HST.out x (HLL.out x (List.mem_of_getElem? hx)) e (by omega))
          obtain ⟨L, hL⟩ : ∃ L, allE l s e ++ rowK l s e i = L := ⟨_, rfl⟩
          rw [hL] at HB hlen2 ⊢
          have HLE := Lib.hid hL
          obtain ⟨nL, hnL⟩ : ∃ k, L.length = k := ⟨_, rfl⟩
          rw [hnL] at HB hlen2 ⊢
          have HNL := Lib.hid hnL
          clear hx hL hnL
          cases hsb : standsB x s e with
          | false =>
            have HNX := Lib.hid (show allE l s e ++ rowK l s e (i + 1) = L by rw [HRS.out, hsb, ← HLE.out]; simp)
            rw [hsb] at HSX
            clear hsb
            go_wp2_with fail
            refine (HSX.out _).mono ?_
            rintro en w2 ⟨rfl, rfl⟩
            go_wp2
            go_roundg g4
            case measure => omega
            case rel => exact ⟨i + 1, by omega, by go_num, by rw [HNX.out, HNL.out]; omega, by rw [HNX.out]; exact HB⟩
          | true =>
            have HNX := Lib.hid (show allE l s e ++ rowK l s e (i + 1) = L ++ [(e, (i : Int))] by rw [HRS.out, hsb, ← HLE.out]; simp)
            rw [hsb] at HSX
            clear hsb
            go_wp2_with fail
            refine (HSX.out _).mono ?_
            rintro en w2 ⟨rfl, rfl⟩
            go_wp2_with (at_builtin; refine wpl_append _ rfl (.tmp 28) (.tmp 32) 58 rfl 103 i0 (.agg #[.int .i64 0, .int .i64 0]) 2 16 Tryz.underlying58 hi hz0 hz1 hz2 rfl (by decide) (.slice a2 nL cp2) nL (htVs L) rfl ?own ⟨w2.heap.size, 0, none⟩ 1 1 [.int .i64 (e : Int), .int .i64 (i : Int)] rfl rfl ?news ?one (by decide) ?b1 ?b2 ?kk)
            case own => have := Row.alloc HB.out.row (.cells #[.int .i64 (e : Int), .int .i64 (i : Int)] 103); rw [HNL.out] at this; exact this
            case news => exact newsH
            case one => intro u hu; simp at hu; rcases hu with rfl | rfl <;> rfl
            case b1 => unfold maxLen; omega
            case b2 => omega
            case kk =>
              intro b1 cap1 w3 ho1 hg1 hb1 hl1
              have HM := Lib.hid (HB.out.more (x := (e, (i : Int))) HNL.out ho1 hg1 hb1)
              clear ho1 hg1 hb1
              go_wp2
              go_roundg g4
              case measure => omega
              case rel => exact ⟨i + 1, by omega, by go_num, by rw [HNX.out, List.length_append, HNL.out]; simp; omega, by rw [HNX.out]; exact HM⟩

end Go.Proofs.YtkbdfnmeomkpjaaGreat.Hg
