/- The evidence at an end, by the reference; no condition but the sizes. -/
import Derived.Test.YtkbdfnmeomkpjaaGreatClmF
import Derived.Test.YtkbdfnmeomkpjaaGreatHg
namespace Go.Proofs.YtkbdfnmeomkpjaaGreat
open Go.RowKit
set_option linter.unusedVariables false
set_option linter.unusedSimpArgs false
set_option maxRecDepth 100000

set_option maxHeartbeats 1000000 in
theorem rmost_ (A : Option Addr) (m c B : Nat) (l : List (List UInt8)) (w : World) (h : Sees w B 1 A m (strVs l)) (hm : m ≤ 1000) (hll : ∀ x ∈ l, x.length ≤ 1000) :
    Calls Tryz.prog 79 #[.slice A m c] w fun e w' => (∃ n : Nat, e = .returned (.int .i64 (n : Int)) ∧ n ≤ 1000) ∧ w' = w := by
  have HS := Lib.hid h
  have HLL := Lib.hid hll
  clear h hll
  go_enter Tryz.func79, Tryz.ntmps79
  go_wp2
  go_loopg [3, 4] m (fun gh v3 v4 wr => (∃ i n : Nat, i + gh = m ∧ v4 = .int .i64 (i : Int) ∧ v3 = .int .i64 (n : Int) ∧ n ≤ 1000) ∧ wr = w)
  case atStart => exact ⟨⟨0, 0, by omega, rfl, rfl, Nat.zero_le _⟩, rfl⟩
  case round =>
    obtain ⟨⟨i, n, hig, rfl, rfl, hn⟩, rfl⟩ := hrel
    cases gk with
    | zero =>
      obtain rfl : i = m := by omega
      go_wp2
      go_ret
      exact ⟨⟨n, rfl, hn⟩, rfl⟩
    | succ g3 =>
      have hii : (i : Int) < (m : Int) := by omega
      obtain ⟨ad, x, rfl, hx, xc⟩ := word_at HS.out (show i < m by omega)
      have hbx : (⟨x.toArray⟩ : ByteArray).size = x.length := Lib.size_eq _
      have hxl := HLL.out x (List.mem_of_getElem? hx)
      obtain ⟨xn, hxn⟩ : ∃ q, x.length = q := ⟨_, rfl⟩
      rw [hxn] at hbx hxl
      clear hx hxn
      by_cases hlt : n < xn
      · have hlti : (n : Int) < (xn : Int) := by omega
        go_wp2
        go_roundg g3
        case measure => omega
        case rel => exact ⟨⟨i + 1, xn, by omega, by go_num, rfl, hxl⟩, rfl⟩
      · have hlti : ¬ (n : Int) < (xn : Int) := by omega
        go_wp2
        go_roundg g3
        case measure => omega
        case rel => exact ⟨⟨i + 1, n, by omega, by go_num, rfl, hn⟩, rfl⟩
/-- The patterns among the first k that stand at an end. -/
def atK (l : List (List UInt8)) (s : List UInt8) (e k : Nat) : List Nat := (List.range k).filter (fun j => Hg.standsB (l.getD j []) s e)
theorem atK_succ {l : List (List UInt8)} {s x : List UInt8} {e k : Nat} (h : l[k]? = some x) : atK l s e (k + 1) = atK l s e k ++ (if Hg.standsB x s e = true then [k] else []) := by
  unfold atK
  rw [List.range_succ, List.filter_append]
  congr 1
  rw [List.filter_cons, List.filter_nil, List.getD_eq_getElem?_getD, h]
  rfl
theorem atK_hits {l : List (List UInt8)} {s : List UInt8} {e : Nat} (he : e ≤ s.length) : atK l s e l.length = hitsL l (s.take e) := by
  unfold atK hitsL
  refine List.filter_congr fun i _ => ?_
  rw [Bool.eq_iff_iff, Hg.stands_iff he, List.isSuffixOf_iff_suffix]
set_option maxHeartbeats 4000000 in
theorem rat15_ (A : Option Addr) (m c B : Nat) (l : List (List UInt8)) (s : List UInt8) (e : Nat) (w : World) (h : Sees w B 1 A m (strVs l)) (hB : B ≤ w.heap.size) (hm : m ≤ 1000) (hll : ∀ x ∈ l, x.length ≤ 1000) (hs : s.length ≤ 1000) (he : e ≤ s.length) :
    Calls Tryz.prog 20 #[.slice A m c, .string ⟨s.toArray⟩, .int .i64 (e : Int)] w (IdsPost (hitsL l (s.take e)) w) := by
  obtain ⟨i0, hi, hz0, hz1, hz2⟩ := info_parts intInfoG
  have hL : l.length = m := by have := h.1; rw [strVs_len] at this; omega
  rw [← atK_hits he, hL]
  have HS := Lib.hid (fun (W : World) (hW : Pure' w W) => h.pure hW hB)
  have HLL := Lib.hid hll
  have HST := Lib.hid (fun (x : List UInt8) (hx : x.length ≤ 1000) (W : World) => Hg.rstands_ x s e W (by omega) (by omega) (by omega))
  clear h hll hL hs he
  go_enter Tryz.func20, Tryz.ntmps20
  go_wp2_with fail
  go_loopg [7, 8] m (fun gh v7 v8 wr => ∃ (i : Nat) (a : Option Addr) (cp : Nat) (E : List Nat), i + gh = m ∧ v8 = .int .i64 (i : Int) ∧ v7 = .slice a E.length cp ∧ RowKit.Hid (E = atK l s e i) ∧ E.length ≤ i ∧ RowKit.Hid (Row wr 3 1 (.slice a E.length cp) E.length (idVs E)) ∧ RowKit.Hid (∀ b, (Value.slice a E.length cp).ownBlock = some b → w.heap.size ≤ b) ∧ RowKit.Hid (Pure' w wr))
  case atStart => exact ⟨0, _, _, [], by omega, rfl, rfl, Lib.hid (by simp [atK]), Nat.le_refl _, Lib.hid (Row.newAt (cs := #[]) rfl (by decide) rfl rfl), Lib.hid (fun b hb => by simp [Value.ownBlock] at hb; omega), Lib.hid ((Keeps.refl _ w).alloc _)⟩
  case round =>
    obtain ⟨i, a, cp, E, hig, rfl, rfl, HE, hEl, HR, HO, HK⟩ := hrel
    cases gk with
    | zero =>
      obtain rfl : i = m := by omega
      go_wp2_with fail
      go_ret
      exact ⟨a, cp, by rw [← HE.out]; rfl, by rw [← HE.out]; exact HR.out, by rw [← HE.out]; exact HO.out, HK.out⟩
    | succ g3 =>
      have hii : (i : Int) < (m : Int) := by omega
      obtain ⟨ad, x, rfl, hx, xc⟩ := word_at (HS.out wr HK.out) (show i < m by omega)
      have HSTX := Lib.hid (HST.out x (HLL.out x (List.mem_of_getElem? hx)) wr)
      have HAT := Lib.hid (atK_succ (s := s) (e := e) hx)
      obtain ⟨r, hr⟩ : ∃ r, Hg.standsB x s e = r := ⟨_, rfl⟩
      rw [hr] at HSTX HAT
      obtain ⟨en, hen⟩ : ∃ q, E.length = q := ⟨_, rfl⟩
      have HEN := Lib.hid hen
      rw [hen] at hEl HR HO ⊢
      clear hx hr hen
      go_wp2_with fail
      refine HSTX.out.mono ?_
      rintro e2 w2 ⟨rfl, hw2⟩
      subst w2
      cases r with
      | true =>
        have HE2 := Lib.hid (show E ++ [i] = atK l s e (i + 1) by rw [HAT.out, HE.out]; rfl)
        go_wp2_with (at_builtin; refine wpl_append _ rfl (.tmp 27) (.tmp 29) 23 rfl 3 i0 (.int .i64 0) 1 8 Tryz.underlying23 hi hz0 hz1 hz2 rfl (by decide) (.slice a en cp) en (idVs E) rfl ?own ⟨wr.heap.size, 0, none⟩ 1 1 [.int .i64 (i : Int)] rfl rfl ?news ?one (by decide) ?b1 ?b2 ?kk)
        case own => exact Row.alloc HR.out _
        case news => exact news1
        case one => intro u hu; simp at hu; subst hu; rfl
        case b1 => unfold maxLen; omega
        case b2 => omega
        case kk =>
          intro b1 cap1 w3 ho1 hg1 hb1 hl1
          have hkp := Lib.hid ((HK.out.alloc (.cells #[.int .i64 (i : Int)] 3)).grown hg1 (fun b hb => .inr (HO.out b hb)))
          have HD : RowKit.Hid (w.heap.size ≤ b1) := by
            rcases hb1 with h | h
            · exact Lib.hid (HO.out _ h)
            · exact Lib.hid (by rw [h]; have := HK.out.size; omega)
          have HL2 := Lib.hid (show (E ++ [i]).length = en + 1 by rw [List.length_append, HEN.out]; rfl)
          have HR8 := Lib.hid (show Row w3 3 1 (.slice (some ⟨b1, 0, none⟩) (E ++ [i]).length cap1) (E ++ [i]).length (idVs (E ++ [i])) by
            rw [HL2.out, show idVs (E ++ [i]) = idVs E ++ [.int .i64 (i : Int)] by simp [idVs]]; exact ho1)
          clear ho1 hg1 hb1
          go_wp2_with fail
          go_roundg g3
          case measure => omega
          case rel => exact ⟨i + 1, _, cap1, E ++ [i], by omega, by go_num, by rw [HL2.out], HE2, by rw [HL2.out]; omega, HR8, Lib.hid (fun b hb => by rw [HL2.out] at hb; simp [Value.ownBlock] at hb; rw [← hb]; exact HD.out), hkp⟩
      | false =>
        have HE2 := Lib.hid (show E = atK l s e (i + 1) by rw [HAT.out, HE.out]; simp)
        go_wp2_with fail
        go_roundg g3
        case measure => omega
        case rel => exact ⟨i + 1, a, cp, E, by omega, by go_num, by rw [HEN.out], HE2, by rw [HEN.out]; omega, by rw [HEN.out]; exact HR, by rw [HEN.out]; exact HO, HK⟩
/-- No pattern with the end's byte is there, by a distance. -/
def rmB (l : List (List UInt8)) (u : List UInt8) (d : Nat) : Bool := l.all fun y => decide (y.reverse[0]? ≠ u.reverse[0]?) || (decide (u.length < y.length) || (decide (d < y.length) && decide (y.reverse[d]? ≠ u.reverse[d]?)))
theorem all_some {α : Type} {l : List α} {f : α → Bool} {i : Nat} {x : α} (h : (l.take i).all f = true) (hx : l[i]? = some x) (hf : f x = true) : (l.take (i + 1)).all f = true := by
  rw [List.take_add_one, hx, List.all_append, h]
  simp [hf]
theorem all_none {α : Type} {l : List α} {f : α → Bool} {i : Nat} {x : α} (hx : l[i]? = some x) (hf : f x = false) : l.all f = false := by
  rw [List.all_eq_false]
  exact ⟨x, List.mem_of_getElem? hx, by rw [hf]; decide⟩
theorem take_rev {s : List UInt8} {e d : Nat} (he : e ≤ s.length) (hd : d < e) : (s.take e).reverse[d]? = s[e - 1 - d]? := by
  rw [List.getElem?_reverse (by rw [List.length_take]; omega), List.length_take, Nat.min_eq_left he, List.getElem?_take, if_pos (by omega)]
set_option maxHeartbeats 8000000 in
theorem rmissed_ (A : Option Addr) (m c B : Nat) (l : List (List UInt8)) (s : List UInt8) (e d : Nat) (w : World) (h : Sees w B 1 A m (strVs l)) (hm : m ≤ 1000) (hll : ∀ x ∈ l, x.length ≤ 1000) (hne : ∀ x ∈ l, x ≠ []) (hs : s.length ≤ 1000) (he1 : 1 ≤ e) (he : e ≤ s.length) (hd : d ≤ 9223372036854775807) :
    Calls Tryz.prog 68 #[.slice A m c, .string ⟨s.toArray⟩, .int .i64 (e : Int), .int .i64 (d : Int)] w fun e2 w' => e2 = .returned (.bool (rmB l (s.take e) d)) ∧ ∃ q, w' = w.drewN q := by
  have HL := Lib.hid (show l.length = m by have := h.1; rw [strVs_len] at this; omega)
  have HS := Lib.hid h
  have HLL := Lib.hid hll
  have HNE := Lib.hid hne
  have HA := Lib.hid (show rmB l (s.take e) d = l.all fun y => decide (y.reverse[0]? ≠ (s.take e).reverse[0]?) || (decide ((s.take e).length < y.length) || (decide (d < y.length) && decide (y.reverse[d]? ≠ (s.take e).reverse[d]?))) from rfl)
  generalize rmB l (s.take e) d = r at *
  have hbs : (⟨s.toArray⟩ : ByteArray).size = s.length := Lib.size_eq _
  have HTL := Lib.hid (show (s.take e).length = e by rw [List.length_take]; omega)
  have HTR := Lib.hid (fun d (hd : d < e) => take_rev he hd)
  obtain ⟨u, hu⟩ : ∃ u, s.take e = u := ⟨_, rfl⟩
  rw [hu] at HA HTL HTR
  obtain ⟨sn, hsn⟩ : ∃ n, s.length = n := ⟨_, rfl⟩
  have HSN := Lib.hid hsn
  rw [hsn] at hbs hs he
  clear h hll hne hu hsn
  obtain ⟨f, hf⟩ : ∃ f, f + 1 = e := ⟨e - 1, by omega⟩
  have hwe : IntKind.i64.wrap ((e : Int) - 1) = (f : Int) := by rw [IntKind.wrap_i64]; omega
  have hfs : (f : Int) < (sn : Int) := by omega
  obtain ⟨sb, _, hsb, hgs⟩ := at_c (show f < s.length by rw [HSN.out]; omega)
  have HUB := Lib.hid (show u.reverse[0]? = some sb by rw [HTR.out 0 (by omega), ← hsb]; congr 1; omega)
  have hsbl := sb.toNat_lt
  clear hsb
  have HWE := Lib.hid hwe
  clear hwe
  go_enter Tryz.func68, Tryz.ntmps68
  go_wp2_with fail
  go_loopg [9, 10] m (fun gh v9 v10 wr => ∃ i : Nat, i + gh = m ∧ v9 = .int .i64 (i : Int) ∧ RowKit.Hid ((l.take i).all (fun y => decide (y.reverse[0]? ≠ u.reverse[0]?) || (decide (u.length < y.length) || (decide (d < y.length) && decide (y.reverse[d]? ≠ u.reverse[d]?)))) = true) ∧ ∃ q, wr = w.drewN q)
  case atStart => exact ⟨0, by omega, rfl, Lib.hid (by simp), 0, rfl⟩
  case round =>
    obtain ⟨i, hig, rfl, HN, q, rfl⟩ := hrel
    cases gk with
    | zero =>
      obtain rfl : i = m := by omega
      have HF := Lib.hid (show r = true by rw [HA.out]; have := HN.out; rwa [List.take_of_length_le (by rw [HL.out]; exact Nat.le_refl _)] at this)
      go_wp2_with fail
      go_ret
      exact ⟨by rw [HF.out]; rfl, _, rfl⟩
    | succ g3 =>
      have hii : (i : Int) < (m : Int) := by omega
      obtain ⟨ad, x, rfl, hx, xc⟩ := word_at HS.out (show i < m by omega)
      have hbx : (⟨x.toArray⟩ : ByteArray).size = x.length := Lib.size_eq _
      have hxl := HLL.out x (List.mem_of_getElem? hx)
      have hxne : x.length ≠ 0 := fun e => HNE.out x (List.mem_of_getElem? hx) (List.eq_nil_of_length_eq_zero e)
      have HX := Lib.hid hx
      obtain ⟨xn, hxn⟩ : ∃ q, x.length = q := ⟨_, rfl⟩
      have HXN := Lib.hid hxn
      rw [hxn] at hbx hxl hxne
      clear hx hxn
      obtain ⟨j, hj⟩ : ∃ j, j + 1 = xn := ⟨xn - 1, by omega⟩
      have hjx : (j : Int) < (xn : Int) := by omega
      obtain ⟨xb, _, hxb, hgx⟩ := at_c (show j < x.length by rw [HXN.out]; omega)
      have HXB := Lib.hid (show x.reverse[0]? = some xb by
        rw [List.getElem?_reverse (by rw [HXN.out]; omega), ← hxb]
        congr 1
        rw [HXN.out]; omega)
      have hxbl := xb.toNat_lt
      have HWX := Lib.hid (show IntKind.i64.wrap ((xn : Int) - 1) = (j : Int) by rw [IntKind.wrap_i64]; omega)
      clear hxb hxne
      by_cases hb : xb = sb
      · subst hb
        have hbb : ((xb.toNat : Int) != (xb.toNat : Int)) = false := by simp
        by_cases hxe : e < xn
        · have hxei : (e : Int) < (xn : Int) := by omega
          have hxed : decide (e < xn) = true := decide_eq_true hxe
          have HN2 := Lib.hid (all_some HN.out HX.out (by rw [HTL.out, HXN.out, hxed]; simp))
          have hwe := HWE.out
          have hwx := HWX.out
          go_wp2_with fail
          go_quiet (fail)
          go_wp2_with fail
          go_roundg g3
          case measure => omega
          case rel => exact ⟨i + 1, by omega, by go_num, HN2, _, rfl⟩
        · have hxei : ¬ (e : Int) < (xn : Int) := by omega
          have hxed : decide (e < xn) = false := decide_eq_false hxe
          by_cases hdx : xn ≤ d
          · have hdxi : (xn : Int) ≤ (d : Int) := by omega
            have hdxd : decide (xn ≤ d) = true := decide_eq_true hdx
            have HF := Lib.hid (show r = false by
              rw [HA.out]
              refine all_none HX.out ?_
              rw [HTL.out, HXN.out, HXB.out, HUB.out, hxed, decide_eq_false (show ¬ d < xn by omega)]
              simp)
            have hwe := HWE.out
            have hwx := HWX.out
            go_wp2_with fail
            go_quiet (fail)
            go_wp2_with fail
            go_quiet (fail)
            go_wp2_with fail
            go_ret
            exact ⟨by rw [HF.out]; rfl, _, by first | rfl | exact World.drewN_drewN _ _ _ | (rw [World.drewN_drewN, World.drewN_drewN])⟩
          · have hdxi : ¬ (xn : Int) ≤ (d : Int) := by omega
            have hdxd : decide (xn ≤ d) = false := decide_eq_false hdx
            obtain ⟨j1, hj1⟩ : ∃ j, j + d + 1 = xn := ⟨xn - 1 - d, by omega⟩
            obtain ⟨f1, hf1⟩ : ∃ f, f + d + 1 = e := ⟨e - 1 - d, by omega⟩
            have hj1x : (j1 : Int) < (xn : Int) := by omega
            have hf1s : (f1 : Int) < (sn : Int) := by omega
            obtain ⟨p, _, hpx, hgp⟩ := at_c (show j1 < x.length by rw [HXN.out]; omega)
            obtain ⟨o, _, hos, hgo⟩ := at_c (show f1 < s.length by rw [HSN.out]; omega)
            have HPX := Lib.hid (show x.reverse[d]? = some p by
              rw [List.getElem?_reverse (by rw [HXN.out]; omega), ← hpx]
              congr 1
              rw [HXN.out]; omega)
            have HOS := Lib.hid (show u.reverse[d]? = some o by rw [HTR.out d (by omega), ← hos]; congr 1; omega)
            have hpl := p.toNat_lt
            have hol := o.toNat_lt
            have HW2 := Lib.hid (show IntKind.i64.wrap ((j : Int) - (d : Int)) = (j1 : Int) by rw [IntKind.wrap_i64]; omega)
            have HW3 := Lib.hid (show IntKind.i64.wrap ((f : Int) - (d : Int)) = (f1 : Int) by rw [IntKind.wrap_i64]; omega)
            clear hpx hos
            by_cases hpo : p = o
            · subst hpo
              have HF := Lib.hid (show r = false by
                rw [HA.out]
                refine all_none HX.out ?_
                rw [HTL.out, HXN.out, HXB.out, HUB.out, hxed, HPX.out, HOS.out]
                simp)
              have hwe := HWE.out
              have hwx := HWX.out
              have hw2 := HW2.out
              have hw3 := HW3.out
              go_wp2_with fail
              go_quiet (fail)
              go_wp2_with fail
              go_quiet (fail)
              go_wp2_with fail
              go_ret
              exact ⟨by rw [HF.out]; rfl, _, by first | rfl | exact World.drewN_drewN _ _ _ | (rw [World.drewN_drewN, World.drewN_drewN])⟩
            · have hne2 : ((p.toNat : Int) == (o.toNat : Int)) = false := by
                rw [beq_eq_false_iff_ne]
                intro h
                exact hpo (UInt8.toNat_inj.1 (by omega))
              have HN2 := Lib.hid (all_some HN.out HX.out (by rw [HXN.out, HPX.out, HOS.out, decide_eq_true (show d < xn by omega), decide_eq_true (show some p ≠ some o from fun h => hpo (Option.some.inj h))]; simp))
              clear hpo
              have hwe := HWE.out
              have hwx := HWX.out
              have hw2 := HW2.out
              have hw3 := HW3.out
              go_wp2_with fail
              go_quiet (fail)
              go_wp2_with fail
              go_quiet (fail)
              go_wp2_with fail
              go_roundg g3
              case measure => omega
              case rel => exact ⟨i + 1, by omega, by go_num, HN2, _, rfl⟩
      · have hbb : ((xb.toNat : Int) != (sb.toNat : Int)) = true := by
          rw [bne_iff_ne]
          intro h
          exact hb (UInt8.toNat_inj.1 (by omega))
        have HN2 := Lib.hid (all_some HN.out HX.out (by rw [HXB.out, HUB.out, decide_eq_true (show some xb ≠ some sb from fun h => hb (Option.some.inj h))]; rfl))
        clear hb
        have hwe := HWE.out
        have hwx := HWX.out
        go_wp2_with fail
        go_quiet (fail)
        go_wp2_with fail
        go_roundg g3
        case measure => omega
        case rel => exact ⟨i + 1, by omega, by go_num, HN2, _, rfl⟩
theorem rm_ms {lp : List ByteArray} {u : List UInt8} {d : Nat} (hd : 1 ≤ d) (hu : u ≠ []) (h : rmB (bl lp) u d = true) : msB lp u (d : Int) = true := by
  unfold msB
  cases hc : u.reverse[0]? with
  | none =>
    rw [List.getElem?_eq_none_iff] at hc
    simp at hc
    exact absurd hc hu
  | some c =>
    show (decide (1 ≤ (d : Int)) && _) = true
    rw [decide_eq_true (by omega), Bool.true_and, List.all_eq_true]
    intro i hi
    unfold endK at hi
    obtain ⟨hi1, hi2⟩ := List.mem_filter.1 hi
    have hi1 := List.mem_range.1 hi1
    have hi2 := of_decide_eq_true hi2
    have hg : (bl lp).getD i [] = (bl lp)[i] := by rw [List.getD_eq_getElem?_getD, List.getElem?_eq_getElem hi1]; rfl
    unfold rmB at h
    have h1 := List.all_eq_true.1 h _ (List.getElem_mem hi1)
    unfold refB
    rw [hg] at hi2 ⊢
    rw [Int.toNat_natCast]
    rw [hi2, hc] at h1
    rw [decide_eq_false (by simp), Bool.false_or] at h1
    exact h1
set_option maxHeartbeats 2000000 in
theorem rmiss24_ (A : Option Addr) (m c B : Nat) (l : List (List UInt8)) (s : List UInt8) (e : Nat) (w : World) (h : Sees w B 1 A m (strVs l)) (hm : m ≤ 1000) (hll : ∀ x ∈ l, x.length ≤ 1000) (hne : ∀ x ∈ l, x ≠ []) (hs : s.length ≤ 1000) (he1 : 1 ≤ e) (he : e ≤ s.length) :
    Calls Tryz.prog 48 #[.slice A m c, .string ⟨s.toArray⟩, .int .i64 (e : Int)] w fun e2 w' => (∃ n : Nat, e2 = .returned (.int .i64 (n : Int)) ∧ (n = 0 ∨ rmB l (s.take e) n = true) ∧ n ≤ 2000) ∧ ∃ q, w' = w.drewN q := by
  have HM := Lib.hid (fun (d q : Nat) (hd : d ≤ 100000) => rmissed_ A m c B l s e d (w.drewN q) (h.dn q) hm hll hne hs he1 he (by omega))
  have HMO := Lib.hid (fun (q : Nat) => rmost_ A m c B l (w.drewN q) (h.dn q) hm hll)
  clear h hll hne
  go_enter Tryz.func48, Tryz.ntmps48
  go_wp2_with fail
  go_loopg [7] 2000 (fun gh v7 wr => ∃ d : Nat, d + gh = 2001 ∧ 1 ≤ d ∧ v7 = .int .i64 (d : Int) ∧ ∃ q, wr = w.drewN q)
  case atStart => exact ⟨1, by omega, by omega, rfl, 0, rfl⟩
  case round =>
    obtain ⟨d, hdg, hd1, rfl, q, rfl⟩ := hrel
    by_cases h1 : d = 1
    · subst h1
      go_wp2_with fail
      refine (HM.out 1 q (by decide)).mono ?_
      rintro e2 w1 ⟨rfl, q2, rfl⟩
      obtain ⟨r, hr⟩ : ∃ r, rmB l (s.take e) 1 = r := ⟨_, rfl⟩
      have HR := Lib.hid hr
      rw [hr]
      clear hr
      cases r with
      | true =>
        go_wp2_with fail
        go_ret
        exact ⟨⟨1, rfl, .inr HR.out, by omega⟩, _, rfl⟩
      | false =>
        go_wp2_with fail
        go_roundg 1999
        case measure => omega
        case rel => exact ⟨2, by omega, by omega, by go_num, _, rfl⟩
    · have h1i : ((d : Int) == 1) = false := by rw [beq_eq_false_iff_ne]; omega
      clear h1
      go_wp2_with fail
      refine (HMO.out q).mono ?_
      rintro e2 w1 ⟨⟨n, rfl, hn⟩, rfl⟩
      by_cases hdn : d < n
      · have hdni : (d : Int) < (n : Int) := by omega
        go_wp2_with fail
        refine (HM.out d q (by omega)).mono ?_
        rintro e2 w1 ⟨rfl, q2, rfl⟩
        obtain ⟨r, hr⟩ : ∃ r, rmB l (s.take e) d = r := ⟨_, rfl⟩
        have HR := Lib.hid hr
        rw [hr]
        clear hr
        cases r with
        | true =>
          go_wp2_with fail
          go_ret
          exact ⟨⟨d, rfl, .inr HR.out, by omega⟩, _, rfl⟩
        | false =>
          go_wp2_with fail
          go_roundg (gk - 1)
          case measure => omega
          case rel => exact ⟨d + 1, by omega, by omega, by go_num, _, rfl⟩
      · have hdni : ¬ (d : Int) < (n : Int) := by omega
        go_wp2_with fail
        go_ret
        exact ⟨⟨0, rfl, .inl rfl, by omega⟩, _, rfl⟩
theorem Keeps.ones {w W : World} {b : Nat} {v0 v1 v2 v3 : Value} (h : Pure' w W) (hb : w.heap.size ≤ b) : Pure' w ((((W.setCell ⟨b, 0, none⟩ v0).setCell ⟨b, 1, none⟩ v1).setCell ⟨b, 2, none⟩ v2).setCell ⟨b, 3, none⟩ v3) :=
  (((h.setCell (p := ⟨b, 0, none⟩) (.inr hb) _).setCell (p := ⟨b, 1, none⟩) (.inr hb) _).setCell (p := ⟨b, 2, none⟩) (.inr hb) _).setCell (p := ⟨b, 3, none⟩) (.inr hb) _
/-- What clears several ends, or nothing. -/
def JumpP (lp : List ByteArray) (u : List UInt8) (w : World) (e : Ending) (w' : World) : Prop :=
  (∃ kind n r : Int, e = .returned (.agg #[.int .i64 kind, .int .i64 n, .int .i64 r, .slice none 0 0]) ∧ (kind = 0 ∨ kind ≠ 0 ∧ hoB lp u kind n [] = true)) ∧ Pure' w w'
theorem ho_skip {lp : List ByteArray} {u : List UInt8} {c : UInt8} {n : Nat} (hc : u.reverse[0]? = some c) (hf : FirstP (bl lp) c (minL lp) n) (hn : 1 ≤ n) : hoB lp u 1 (n : Int) [] = true := by
  have hu : u ≠ [] := fun e => by subst e; simp at hc
  unfold hoB
  rw [if_neg hu, if_neg (by simp), if_pos rfl]
  unfold skB
  rw [hc]
  show skipB _ _ _ _ = true
  rw [skip_first hf, decide_eq_true hn, decide_eq_true (Nat.le_refl _)]
  rfl
theorem ho_leap {lp : List ByteArray} {u : List UInt8} {a b : UInt8} {n : Nat} (hb : u.reverse[0]? = some b) (ha : u.reverse[1]? = some a) (hf : NearP (bl lp) a b (minL lp - 1) n) (hn : 1 ≤ n) : hoB lp u 2 (n : Int) [] = true := by
  have hu : u ≠ [] := fun e => by subst e; simp at hb
  unfold hoB
  rw [if_neg hu, if_neg (by simp), if_neg (by decide), if_pos rfl]
  unfold leB
  rw [hb, ha]
  show leapB _ _ _ _ _ = true
  rw [leap_near hf, decide_eq_true hn, decide_eq_true (Nat.le_refl _)]
  rfl
set_option maxHeartbeats 8000000 in
theorem rjump_ (A : Option Addr) (k c B : Nat) (lp : List ByteArray) (s : List UInt8) (e : Nat) (w : World) (h : Sees w B 1 A k (strVs (bl lp))) (hB : B ≤ w.heap.size) (hk : k ≤ 1000) (hll : ∀ x ∈ bl lp, x.length ≤ 1000) (hm2 : minL lp ≤ 1000) (hs : s.length ≤ 1000) (he1 : 1 ≤ e) (he : e ≤ s.length) :
    Calls Tryz.prog 47 #[.slice A k c, .string ⟨s.toArray⟩, .int .i64 (e : Int)] w (JumpP lp (s.take e) w) := by
  have hbs : (⟨s.toArray⟩ : ByteArray).size = s.length := Lib.size_eq _
  obtain ⟨sn, hsn⟩ : ∃ n, s.length = n := ⟨_, rfl⟩
  have HSN := Lib.hid hsn
  have HTR := Lib.hid (fun d (hd : d < e) => take_rev he hd)
  rw [hsn] at hbs hs he
  clear hsn
  obtain ⟨f, hf⟩ : ∃ f, f + 1 = e := ⟨e - 1, by omega⟩
  have hef : (e : Int) - 1 = (f : Int) := by omega
  have HWE := Lib.hid (show IntKind.i64.wrap ((e : Int) - 1) = (f : Int) by rw [IntKind.wrap_i64]; omega)
  have hfs : (f : Int) < (sn : Int) := by omega
  obtain ⟨sb, _, hsb, hgs⟩ := at_c (show f < s.length by rw [HSN.out]; omega)
  have HUB := Lib.hid (show (s.take e).reverse[0]? = some sb by rw [HTR.out 0 (by omega), ← hsb]; congr 1; omega)
  have hsbl := sb.toNat_lt
  clear hsb
  have HFI := Lib.hid (fun (W : World) (hW : Pure' w W) => rfirst_ A k c B (minL lp) sb (bl lp) W (h.pure hW hB) hk hll (fun n h => least_is h) hm2)
  have HNEA := Lib.hid (fun (a : UInt8) (W : World) (hW : Pure' w W) => rnear_ A k c B (minL lp) a sb (bl lp) W (h.pure hW hB) hk hll (fun n h => least_is h) hm2)
  have HK0 := Lib.hid (show Pure' w (w.alloc (.cells #[.int .i64 0, .int .i64 0, .int .i64 0, .slice none 0 0] 25)) from (Keeps.refl _ w).alloc _)
  have HB0 := Lib.hid (show Blk (w.alloc (.cells #[.int .i64 0, .int .i64 0, .int .i64 0, .slice none 0 0] 25)) w.heap.size 25 #[.int .i64 0, .int .i64 0, .int .i64 0, .slice none 0 0] from Blk.newAt rfl)
  generalize s.take e = u at *
  clear h hll
  go_enter Tryz.func47, Tryz.ntmps47
  go_wp2_with fail
  generalize (w.alloc (.cells #[.int .i64 0, .int .i64 0, .int .i64 0, .slice none 0 0] 25)) = W0 at *
  obtain ⟨b6, hb6⟩ : ∃ b, w.heap.size = b := ⟨_, rfl⟩
  have HB6 := Lib.hid hb6
  rw [hb6] at HB0 ⊢
  clear hb6
  refine (HFI.out W0 HK0.out).mono ?_
  rintro e2 w1 ⟨⟨n1, rfl, hf1⟩, q1, rfl⟩
  have HF1 := Lib.hid hf1
  have HP1 := Lib.hid (show Pure' W0 (W0.drewN q1) from (Keeps.refl _ W0).drewN q1)
  clear hf1
  generalize W0.drewN q1 = W1 at *
  by_cases h2 : 2 ≤ e
  · have h2i : (2 : Int) ≤ (e : Int) := by omega
    obtain ⟨f2, hf2⟩ : ∃ f, f + 2 = e := ⟨e - 2, by omega⟩
    have hwe2 : IntKind.i64.wrap ((e : Int) - 2) = (f2 : Int) := by rw [IntKind.wrap_i64]; omega
    have hf2s : (f2 : Int) < (sn : Int) := by omega
    obtain ⟨sa, _, hsa, hga⟩ := at_c (show f2 < s.length by rw [HSN.out]; omega)
    have HUA := Lib.hid (show u.reverse[1]? = some sa by rw [HTR.out 1 (by omega), ← hsa]; congr 1; omega)
    have hsal := sa.toNat_lt
    have HNE := Lib.hid (fun (W : World) (hW : Pure' w W) => HNEA.out sa W hW)
    have hwe := HWE.out
    have hwf : IntKind.i64.wrap (f : Int) = (f : Int) := by rw [IntKind.wrap_i64]; omega
    clear hsa
    go_wp2_with fail
    refine wp_region_held_drew (S := (fun X => Pure' W0 X)) (by kernel_rfl) ((HP1.out).drew) (fun hHeld => ?_)
    have HH := Lib.hid hHeld
    clear hHeld
    refine wpAnyH_take (i := 0) (oi := ⟨some 17, .move (.tmp 0), _, _, _, _⟩) (v := ?vv1) rfl (by kernel_rfl) (by kernel_rfl) (by kernel_rfl) (fun _ _ _ h => h) (Or.inl ⟨by rfl, ?hy1⟩) HH.out ?rr1
    case hy1 => intro W hSw; go_simp; try with_reducible rfl
    try simp only [Act.put, List.setIfInBounds_toArray, List.set_cons_zero, List.set_cons_succ]
    refine wpAnyH_take (i := 1) (oi := ⟨some 18, .move (.tmp 1), _, _, _, _⟩) (v := ?vv2) rfl (by kernel_rfl) (by kernel_rfl) (by kernel_rfl) (fun _ _ _ h => h) (Or.inl ⟨by rfl, ?hy2⟩) HH.out ?rr2
    case hy2 => intro W hSw; go_simp; try with_reducible rfl
    try simp only [Act.put, List.setIfInBounds_toArray, List.set_cons_zero, List.set_cons_succ]
    refine wpAnyH_take (i := 2) (oi := ⟨some 19, .move (.tmp 2), _, _, _, _⟩) (v := ?vv3) rfl (by kernel_rfl) (by kernel_rfl) (by kernel_rfl) (fun _ _ _ h => h) (Or.inl ⟨by rfl, ?hy3⟩) HH.out ?rr3
    case hy3 => intro W hSw; go_simp; try with_reducible rfl
    try simp only [Act.put, List.setIfInBounds_toArray, List.set_cons_zero, List.set_cons_succ]
    refine wpAnyH_take (i := 3) (oi := ⟨some 20, .binOp .sub 3 (.tmp 19) (.const (.int .i64 2)) 3, _, _, _, _⟩) (v := ?vv4) rfl (by kernel_rfl) (by kernel_rfl) (by kernel_rfl) (fun _ _ _ h => h) (Or.inl ⟨by rfl, ?hy4⟩) HH.out ?rr4
    case hy4 => intro W hSw; go_simp; try with_reducible rfl
    try simp only [Act.put, List.setIfInBounds_toArray, List.set_cons_zero, List.set_cons_succ]
    refine wpAnyH_take (i := 4) (oi := ⟨some 21, .index 9 (.tmp 18) (.tmp 20), _, _, _, _⟩) (v := ?vv5) rfl (by kernel_rfl) (by kernel_rfl) (by kernel_rfl) (fun _ _ _ h => h) (Or.inl ⟨by rfl, ?hy5⟩) HH.out ?rr5
    case hy5 => intro W hSw; go_simp; try with_reducible rfl
    try simp only [Act.put, List.setIfInBounds_toArray, List.set_cons_zero, List.set_cons_succ]
    refine wpAnyH_take (i := 5) (oi := ⟨some 22, .move (.tmp 1), _, _, _, _⟩) (v := ?vv6) rfl (by kernel_rfl) (by kernel_rfl) (by kernel_rfl) (fun _ _ _ h => h) (Or.inl ⟨by rfl, ?hy6⟩) HH.out ?rr6
    case hy6 => intro W hSw; go_simp; try with_reducible rfl
    try simp only [Act.put, List.setIfInBounds_toArray, List.set_cons_zero, List.set_cons_succ]
    refine wpAnyH_take (i := 6) (oi := ⟨some 23, .move (.tmp 2), _, _, _, _⟩) (v := ?vv7) rfl (by kernel_rfl) (by kernel_rfl) (by kernel_rfl) (fun _ _ _ h => h) (Or.inl ⟨by rfl, ?hy7⟩) HH.out ?rr7
    case hy7 => intro W hSw; go_simp; try with_reducible rfl
    try simp only [Act.put, List.setIfInBounds_toArray, List.set_cons_zero, List.set_cons_succ]
    refine wpAnyH_take (i := 7) (oi := ⟨some 24, .binOp .sub 3 (.tmp 23) (.const (.int .i64 1)) 3, _, _, _, _⟩) (v := ?vv8) rfl (by kernel_rfl) (by kernel_rfl) (by kernel_rfl) (fun _ _ _ h => h) (Or.inl ⟨by rfl, ?hy8⟩) HH.out ?rr8
    case hy8 => intro W hSw; go_simp; try with_reducible rfl
    try simp only [Act.put, List.setIfInBounds_toArray, List.set_cons_zero, List.set_cons_succ]
    refine wpAnyH_take (i := 8) (oi := ⟨some 25, .index 9 (.tmp 22) (.tmp 24), _, _, _, _⟩) (v := ?vv9) rfl (by kernel_rfl) (by kernel_rfl) (by kernel_rfl) (fun _ _ _ h => h) (Or.inl ⟨by rfl, ?hy9⟩) HH.out ?rr9
    case hy9 => intro W hSw; go_simp; try with_reducible rfl
    try simp only [Act.put, List.setIfInBounds_toArray, List.set_cons_zero, List.set_cons_succ]
    refine wpAnyH_ready (rs := [9]) (by kernel_rfl) (by simp) ?_
    refine AllReadyH.cons (o := ⟨some 26, .call { callee := .value (.func 67), args := #[.tmp 17, .tmp 21, .tmp 25], argTypes := #[22, 5, 5] }, _, _, _, _⟩) rfl (fun K hK => ?_) AllReadyH.nil
    go_simp
    go_at_call 67
    refine (HNE.out _ (HK0.out.trans HH.out (fun _ _ hf => hf))).mono ?_
    rintro e2 wB ⟨⟨n2, rfl, hf2⟩, q2, rfl⟩
    have HF2 := Lib.hid hf2
    have HK2 := Lib.hid (show Pure' W0 (W1.drewN (1 + q2)) by have h := HH.out.drewN q2; rwa [show W1.drew.drewN q2 = W1.drewN (1 + q2) from World.drewN_drewN W1 1 q2] at h)
    clear hf2
    go_wp2_with fail
    refine hK.out _ _ (HK2.out) (fun hHeld => ?_)
    have HH := Lib.hid hHeld
    clear hHeld hK K
    try simp only [Act.put, List.setIfInBounds_toArray, List.set_cons_zero, List.set_cons_succ]
    refine wpAnyH_take (i := 10) (oi := ⟨some 8, .assign (.tmp 26), _, _, _, _⟩) (v := ?vv10) rfl (by kernel_rfl) (by kernel_rfl) (by kernel_rfl) (fun _ _ _ h => h) (Or.inl ⟨by rfl, ?hy10⟩) HH.out ?rr10
    case hy10 => intro W hSw; go_simp; try with_reducible rfl
    try simp only [Act.put, List.setIfInBounds_toArray, List.set_cons_zero, List.set_cons_succ]
    refine wpAnyH_done (by kernel_rfl) ?_ _
    generalize W1.drewN (1 + q2) = W2 at *
    have HB2 := Lib.hid (HB0.out.keep HK2.out (fun hf => hf))
    have hbk : w.heap.size ≤ b6 := by rw [HB6.out]; exact Nat.le_refl _
    have x0 := HB2.out.cell 0
    have f0 := HB2.out.frozen 0
    have x1 := HB2.out.cell 1
    have f1 := HB2.out.frozen 1
    have x2 := HB2.out.cell 2
    have f2 := HB2.out.frozen 2
    have x3 := HB2.out.cell 3
    have f3 := HB2.out.frozen 3
    by_cases hc : n1 < n2
    · have hci : (n1 : Int) < (n2 : Int) := by omega
      go_wp2_with fail
      refine bodyPost_ret (v := .agg #[.int .i64 2, .int .i64 n2, .int .i64 1, .slice none 0 0]) (by simp [results, Tryz.results47, go_sem, x0, x1, x2, x3]) rfl ⟨⟨2, n2, 1, rfl, .inr ⟨by decide, ho_leap HUB.out HUA.out HF2.out (by omega)⟩⟩, ?_⟩
      exact Keeps.ones (HK0.out.trans HK2.out (fun _ _ hf => hf)) hbk
    · have hci : ¬ (n1 : Int) < (n2 : Int) := by omega
      by_cases h1 : 0 < n1
      · have h1i : (0 : Int) < (n1 : Int) := by omega
        go_wp2_with fail
        refine bodyPost_ret (v := .agg #[.int .i64 1, .int .i64 n1, .int .i64 1, .slice none 0 0]) (by simp [results, Tryz.results47, go_sem, x0, x1, x2, x3]) rfl ⟨⟨1, n1, 1, rfl, .inr ⟨by decide, ho_skip HUB.out HF1.out (by omega)⟩⟩, ?_⟩
        exact Keeps.ones (HK0.out.trans HK2.out (fun _ _ hf => hf)) hbk
      · have h1i : ¬ (0 : Int) < (n1 : Int) := by omega
        go_wp2_with fail
        refine bodyPost_ret (v := .agg #[.int .i64 0, .int .i64 0, .int .i64 0, .slice none 0 0]) (by simp [results, Tryz.results47, go_sem, x0, x1, x2, x3]) rfl ⟨⟨0, 0, 0, rfl, .inl rfl⟩, ?_⟩
        exact Keeps.ones (HK0.out.trans HK2.out (fun _ _ hf => hf)) hbk
  · have h2i : ¬ (2 : Int) ≤ (e : Int) := by omega
    have HK2 := HP1
    generalize W1 = W2 at *
    have HB2 := Lib.hid (HB0.out.keep HK2.out (fun hf => hf))
    have hbk : w.heap.size ≤ b6 := by rw [HB6.out]; exact Nat.le_refl _
    have x0 := HB2.out.cell 0
    have f0 := HB2.out.frozen 0
    have x1 := HB2.out.cell 1
    have f1 := HB2.out.frozen 1
    have x2 := HB2.out.cell 2
    have f2 := HB2.out.frozen 2
    have x3 := HB2.out.cell 3
    have f3 := HB2.out.frozen 3
    have hci : ¬ (n1 : Int) < 0 := by omega
    by_cases h1 : 0 < n1
    · have h1i : (0 : Int) < (n1 : Int) := by omega
      go_wp2_with fail
      refine bodyPost_ret (v := .agg #[.int .i64 1, .int .i64 n1, .int .i64 1, .slice none 0 0]) (by simp [results, Tryz.results47, go_sem, x0, x1, x2, x3]) rfl ⟨⟨1, n1, 1, rfl, .inr ⟨by decide, ho_skip HUB.out HF1.out (by omega)⟩⟩, ?_⟩
      exact Keeps.ones (HK0.out.trans HK2.out (fun _ _ hf => hf)) hbk
    · have h1i : ¬ (0 : Int) < (n1 : Int) := by omega
      go_wp2_with fail
      refine bodyPost_ret (v := .agg #[.int .i64 0, .int .i64 0, .int .i64 0, .slice none 0 0]) (by simp [results, Tryz.results47, go_sem, x0, x1, x2, x3]) rfl ⟨⟨0, 0, 0, rfl, .inl rfl⟩, ?_⟩
      exact Keeps.ones (HK0.out.trans HK2.out (fun _ _ hf => hf)) hbk
end Go.Proofs.YtkbdfnmeomkpjaaGreat
