/- Of a list those that are not in another one: by the claim, by the reference; no condition but the sizes. -/
import Derived.Test.YtkbdfnmeomkpjaaGreatClmK
import Derived.Test.YtkbdfnmeomkpjaaGreatShelf
namespace Go.Proofs.YtkbdfnmeomkpjaaGreat
open Go.RowKit
set_option linter.unusedVariables false
set_option linter.unusedSimpArgs false
set_option maxRecDepth 100000

/-- Of a list those that are not in another one. -/
def minusL (xs ys : List Int) : List Int := xs.filter (fun x => !(decide (x ∈ ys)))
theorem minus_succ {xs ys : List Int} {i : Nat} {z : Int} (h : xs[i]? = some z) : minusL (xs.take (i + 1)) ys = minusL (xs.take i) ys ++ (if decide (z ∈ ys) = true then [] else [z]) := by
  unfold minusL
  rw [List.take_add_one, h, List.filter_append]
  congr 1
  show List.filter _ [z] = _
  rw [List.filter_cons, List.filter_nil]
  cases decide (z ∈ ys) <;> rfl
theorem mem_succ {ys : List Int} {k : Nat} {x z : Int} (h : ys[k]? = some z) : decide (x ∈ ys.take (k + 1)) = (decide (x ∈ ys.take k) || decide (x = z)) := by
  rw [Bool.eq_iff_iff]
  simp [List.take_add_one, h]
/-- A row of whole numbers of the call's own. -/
def IntsPost (L : List Int) (w : World) (e : Ending) (w' : World) : Prop := ∃ A cp, e = .returned (.slice A L.length cp) ∧ Row w' 3 1 (.slice A L.length cp) L.length (L.map (Value.int .i64)) ∧ (∀ b, (Value.slice A L.length cp).ownBlock = some b → w.heap.size ≤ b) ∧ Pure' w w'
theorem contI_ (A : Option Addr) (k c B : Nat) (zs : List Int) (x : Int) (w : World) (h : Sees w B 1 A k (zs.map (Value.int .i64))) (hk : k ≤ 1000) :
    Calls Tryz.prog 69 #[.slice A k c, .int .i64 x] w fun e w' => e = .returned (.bool (decide (x ∈ zs))) ∧ w' = w := by
  have hl : zs.length = k := by have := h.1; simpa using this
  by_cases h0 : k = 0
  · subst h0
    obtain rfl : zs = [] := List.eq_nil_of_length_eq_zero hl
    exact (Tryz.slices_Contains_int_empty A c x w).mono fun e w' he => ⟨by rw [he.1]; simp, he.2⟩
  · obtain ⟨ad, u, rfl, hu, hc⟩ := h.at_ (show 0 < k by omega)
    obtain ⟨b, off, sp⟩ := ad
    obtain rfl : sp = none := by
      have := World.cell?_spot hc
      simpa [Addr.add] using this
    refine (Tryz.slices_Contains_int b off k c zs x w (by omega) (by omega) (fun j hj => ?_)).mono fun e w' he => ⟨by rw [he.1, List.take_of_length_le (by omega), List.contains_eq_mem], he.2⟩
    obtain ⟨ad, z, he, hz, hcz⟩ := lst_ints h (show j < k by omega)
    injection he with he
    subst he
    rw [show (⟨b, off + j, none⟩ : Addr) = (⟨b, off, none⟩ : Addr).add j by unfold Addr.add; split <;> simp_all, hcz, List.getD_eq_getElem?_getD, hz]
    rfl
set_option maxHeartbeats 8000000 in
theorem rmis36_ (A A2 : Option Addr) (n n2 c c2 B B2 : Nat) (xs ys : List Int) (w : World) (h1 : Sees w B 1 A n (xs.map (Value.int .i64))) (h2 : Sees w B2 1 A2 n2 (ys.map (Value.int .i64))) (hB : B ≤ w.heap.size) (hB2 : B2 ≤ w.heap.size) (hn : n ≤ 1000) (hn2 : n2 ≤ 1000) :
    Calls Tryz.prog 24 #[.slice A n c, .slice A2 n2 c2] w (IntsPost (minusL xs ys) w) := by
  obtain ⟨i0, hi, hz0, hz1, hz2⟩ := info_parts intInfoG
  have HLX := Lib.hid (show xs.length = n by have := h1.1; simpa using this)
  have HLY := Lib.hid (show ys.length = n2 by have := h2.1; simpa using this)
  have HSX := Lib.hid (fun (W : World) (hW : Pure' w W) => h1.pure hW hB)
  have HSY := Lib.hid (fun (W : World) (hW : Pure' w W) => h2.pure hW hB2)
  clear h1 h2 hB hB2
  go_enter Tryz.func24, Tryz.ntmps24
  go_wp2_with fail
  go_loopg [5, 6, 7, 8] n (fun gh v5 v6 v7 v8 wr => ∃ (i : Nat) (a : Option Addr) (cp : Nat) (F : List Int), i + gh = n ∧ v6 = .int .i64 (i : Int) ∧ v5 = .slice a F.length cp ∧ RowKit.Hid (F = minusL (xs.take i) ys) ∧ F.length ≤ i ∧ RowKit.Hid (Row wr 3 1 (.slice a F.length cp) F.length (F.map (Value.int .i64))) ∧ RowKit.Hid (∀ b, (Value.slice a F.length cp).ownBlock = some b → w.heap.size ≤ b) ∧ RowKit.Hid (Pure' w wr))
  case atStart => exact ⟨0, _, _, [], by omega, rfl, rfl, Lib.hid (by simp [minusL]), Nat.le_refl _, Lib.hid (Row.newAt (cs := #[]) rfl (by decide) rfl rfl), Lib.hid (fun b hb => by simp [Value.ownBlock] at hb; omega), Lib.hid ((Keeps.refl _ w).alloc _)⟩
  case round =>
    obtain ⟨i, a, cp, F, hig, rfl, rfl, HF, hFl, HR, HO, HP⟩ := hrel
    cases gk with
    | zero =>
      obtain rfl : i = n := by omega
      have HFX := Lib.hid (show minusL xs ys = F by rw [HF.out, List.take_of_length_le (by rw [HLX.out]; exact Nat.le_refl _)])
      go_wp2_with fail
      go_ret
      exact ⟨a, cp, by rw [HFX.out]; rfl, by rw [HFX.out]; exact HR.out, by rw [HFX.out]; exact HO.out, HP.out⟩
    | succ g3 =>
      generalize wr = wo at *
      have hii : (i : Int) < (n : Int) := by omega
      obtain ⟨ad, z, rfl, hz, hcz⟩ := lst_ints (HSX.out wo HP.out) (show i < n by omega)
      have HMS := Lib.hid (minus_succ (ys := ys) hz)
      have HCZ := Lib.hid hcz
      have HYW := Lib.hid (HSY.out wo HP.out)
      obtain ⟨fn, hfn⟩ : ∃ q, F.length = q := ⟨_, rfl⟩
      have HFN := Lib.hid hfn
      rw [hfn] at hFl HR HO ⊢
      clear hz hfn hcz
      go_wp2_with fail
      go_loopg [7, 8] n2 (fun gh v7 v8 wz => ∃ k : Nat, k + gh = n2 ∧ v8 = .int .i64 (k : Int) ∧ v7 = .bool (decide (z ∈ ys.take k)) ∧ ∃ q, wz = wo.drewN q)
      case atStart => exact ⟨0, by omega, rfl, by simp, 0, rfl⟩
      case round =>
        obtain ⟨k, hkg, rfl, rfl, q, rfl⟩ := hrel
        cases gk with
        | zero =>
          obtain rfl : k = n2 := by omega
          rw [List.take_of_length_le (by rw [HLY.out]; exact Nat.le_refl _)]
          have HR := Lib.hid (HR.out.drewN q)
          have HP := Lib.hid (HP.out.drewN q)
          have hczq : (wo.drewN q).cell? (ad.add i) = some (.int .i64 z) := HCZ.out
          obtain ⟨r, hr⟩ : ∃ r, decide (z ∈ ys) = r := ⟨_, rfl⟩
          rw [hr] at HMS ⊢
          clear hr
          generalize wo.drewN q = WR at *
          cases r with
          | true =>
            have HF2 := Lib.hid (show F = minusL (xs.take (i + 1)) ys by rw [HMS.out, HF.out]; simp)
            go_wp2_with fail
            go_roundg g3
            case measure => omega
            case rel => exact ⟨i + 1, a, cp, F, by omega, by go_num, by rw [HFN.out], HF2, by rw [HFN.out]; omega, by rw [HFN.out]; exact HR, by rw [HFN.out]; exact HO, HP⟩
          | false =>
            have HF2 := Lib.hid (show F ++ [z] = minusL (xs.take (i + 1)) ys by rw [HMS.out, HF.out]; simp)
            go_wp2_with (at_builtin; refine wpl_append _ rfl (.tmp 36) (.tmp 41) 23 rfl 3 i0 (.int .i64 0) 1 8 Tryz.underlying23 hi hz0 hz1 hz2 rfl (by decide) (.slice a fn cp) fn (F.map (Value.int .i64)) rfl ?own ⟨WR.heap.size, 0, none⟩ 1 1 [.int .i64 z] rfl rfl ?news ?one (by decide) ?b1 ?b2 ?kk)
            case own => exact Row.alloc HR.out _
            case news => exact news1
            case one => intro u hu; simp at hu; subst hu; rfl
            case b1 => unfold maxLen; omega
            case b2 => omega
            case kk =>
              intro b1 cap1 w4 ho1 hg1 hb1 hl1
              have hkp := Lib.hid ((HP.out.alloc (.cells #[.int .i64 z] 3)).grown hg1 (fun b hb => .inr (HO.out b hb)))
              have HD : RowKit.Hid (w.heap.size ≤ b1) := by
                rcases hb1 with h | h
                · exact Lib.hid (HO.out _ h)
                · exact Lib.hid (by rw [h]; have := HP.out.size; omega)
              have HL2 := Lib.hid (show (F ++ [z]).length = fn + 1 by rw [List.length_append, HFN.out]; rfl)
              have HR8 := Lib.hid (show Row w4 3 1 (.slice (some ⟨b1, 0, none⟩) (F ++ [z]).length cap1) (F ++ [z]).length ((F ++ [z]).map (Value.int .i64)) by
                rw [HL2.out, List.map_append]; exact ho1)
              clear ho1 hg1 hb1
              go_wp2_with fail
              go_roundg g3
              case measure => omega
              case rel => exact ⟨i + 1, _, cap1, F ++ [z], by omega, by go_num, by rw [HL2.out], HF2, by rw [HL2.out]; omega, HR8, Lib.hid (fun b hb => by rw [HL2.out] at hb; simp [Value.ownBlock] at hb; rw [← hb]; exact HD.out), hkp⟩
        | succ g4 =>
          have hkk : (k : Int) < (n2 : Int) := by omega
          obtain ⟨ad2, y, rfl, hy, hcy⟩ := lst_ints HYW.out (show k < n2 by omega)
          have hczq := HCZ.out
          have HMC := Lib.hid (mem_succ (x := z) hy)
          obtain ⟨r, hr⟩ : ∃ r, decide (z ∈ ys.take k) = r := ⟨_, rfl⟩
          rw [hr] at HMC ⊢
          clear hr hy
          cases r with
          | true =>
            go_wp2_with fail
            go_quiet (fail)
            go_wp2_with fail
            go_roundg g4
            case measure => omega
            case rel => exact ⟨k + 1, by omega, by go_num, by rw [HMC.out]; rfl, _, by first | rfl | exact World.drewN_drewN _ _ _⟩
          | false =>
            by_cases hyz : y = z
            · have hyzb : (y == z) = true := by simp [hyz]
              have HMD := Lib.hid (show decide (z ∈ ys.take (k + 1)) = true by rw [HMC.out, hyz]; simp)
              clear hyz
              go_wp2_with fail
              go_quiet (fail)
              go_wp2_with fail
              go_roundg g4
              case measure => omega
              case rel => exact ⟨k + 1, by omega, by go_num, by rw [HMD.out], _, by first | rfl | exact World.drewN_drewN _ _ _⟩
            · have hyzb : (y == z) = false := by simp [hyz]
              have HMD := Lib.hid (show decide (z ∈ ys.take (k + 1)) = false by rw [HMC.out, decide_eq_false (fun h => hyz h.symm)]; rfl)
              clear hyz
              go_wp2_with fail
              go_quiet (fail)
              go_wp2_with fail
              go_roundg g4
              case measure => omega
              case rel => exact ⟨k + 1, by omega, by go_num, by rw [HMD.out], _, by first | rfl | exact World.drewN_drewN _ _ _⟩
set_option maxHeartbeats 8000000 in
theorem cmis_ (g p gr size : Nat) (x : Option Addr) (lp : List ByteArray) (s : List UInt8) (A : Option Addr) (k c B : Nat) (zs : List Int) (w : World) (h : SgI w g p gr x lp s size) (hb : SgB lp s size) (hz : Sees w B 1 A k (zs.map (Value.int .i64))) (hB : B ≤ w.heap.size) (hk : k ≤ 1000) :
    Calls Tryz.prog 23 #[sgV g p, .slice A k c] w (IntsPost (minusL ((idB lp s).map (fun (i : Nat) => (i : Int))) zs) w) := by
  obtain ⟨i0, hi, hz0, hz1, hz2⟩ := info_parts intInfoG
  have HID := Lib.hid (fun (W : World) (hW : Pure' w W) => cids_ g p gr size x lp s W (h.pure hW) hb)
  have HZS := Lib.hid (fun (W : World) (hW : Pure' w W) => hz.pure hW hB)
  have HLZ := Lib.hid (show zs.length = k by have := hz.1; simpa using this)
  have HIL := Lib.hid (show (idB lp s).length ≤ 12 by
    rw [idB_hits hb.ne]
    unfold hitsL
    refine Nat.le_trans (List.length_filter_le _ _) ?_
    rw [List.length_range]
    exact hb.bll)
  have HK0 := Lib.hid (show Pure' w (w.alloc (.cells #[.pointer (some ⟨g, 0, none⟩), .pointer (some ⟨p, 0, none⟩)] 34)) from (Keeps.refl _ w).alloc _)
  have HB1 := Lib.hid (show Blk (w.alloc (.cells #[.pointer (some ⟨g, 0, none⟩), .pointer (some ⟨p, 0, none⟩)] 34)) w.heap.size 34 #[.pointer (some ⟨g, 0, none⟩), .pointer (some ⟨p, 0, none⟩)] from Blk.newAt rfl)
  clear h hb hz hB
  unfold sgV
  unfold sgV at HID
  go_enter Tryz.func23, Tryz.ntmps23
  go_upto_region 2 with fail
  generalize (w.alloc (.cells #[.pointer (some ⟨g, 0, none⟩), .pointer (some ⟨p, 0, none⟩)] 34)) = W0 at *
  generalize w.heap.size = bs at *
  have c0 := HB1.out.cell 0
  have c1 := HB1.out.cell 1
  go_wp2_with fail
  refine (HID.out W0 HK0.out).mono ?_
  rintro e w1 ⟨a1, cp1, rfl, hr, _, hk1⟩
  have HK1 := Lib.hid (HK0.out.trans hk1 (fun _ _ hf => hf))
  have hs1 := hr.sees
  rw [show idVs (idB lp s) = ((idB lp s).map (fun (i : Nat) => (i : Int))).map (Value.int .i64) by simp [idVs]] at hs1
  have hLN : ((idB lp s).map (fun (i : Nat) => (i : Int))).length = (idB lp s).length := List.length_map _
  obtain ⟨L, hL⟩ : ∃ L : List Int, (idB lp s).map (fun (i : Nat) => (i : Int)) = L := ⟨_, rfl⟩
  rw [hL] at hs1 hLN
  have HLE := Lib.hid hL
  clear hL hr hk1 c0 c1 HB1
  have hl12 := HIL.out
  generalize (idB lp s).length = n1 at *
  have HLN := Lib.hid hLN
  have HSL := Lib.hid (fun (W : World) (hW : Pure' w1 W) => hs1.pure hW (Nat.le_refl _))
  have HCO := Lib.hid (fun (z : Int) (W : World) (hW : Pure' w1 W) => contI_ A k c B zs z W (HZS.out W (HK1.out.trans hW (fun _ _ hf => hf))) hk)
  clear hs1 hLN HIL HID
  go_wp2_with fail
  go_loopg [5, 7, 11] n1 (fun gh v5 v7 v11 wr => ∃ (i : Nat) (a : Option Addr) (cp : Nat) (F : List Int), i + gh = n1 ∧ v11 = .int .i64 (i : Int) ∧ v5 = .slice a F.length cp ∧ RowKit.Hid (F = minusL (L.take i) zs) ∧ F.length ≤ i ∧ RowKit.Hid (Row wr 3 1 (.slice a F.length cp) F.length (F.map (Value.int .i64))) ∧ RowKit.Hid (∀ b, (Value.slice a F.length cp).ownBlock = some b → w1.heap.size ≤ b) ∧ RowKit.Hid (Pure' w1 wr))
  case atStart => exact ⟨0, none, 0, [], by omega, rfl, rfl, Lib.hid (by simp [minusL]), Nat.le_refl _, Lib.hid (Row.nil _ _ _), Lib.hid (fun b hb => by simp [Value.ownBlock] at hb), Lib.hid (Keeps.refl _ _)⟩
  case round =>
    obtain ⟨i, a, cp, F, hig, rfl, rfl, HF, hFl, HR, HO, HP⟩ := hrel
    cases gk with
    | zero =>
      obtain rfl : i = n1 := by omega
      have HFX := Lib.hid (show minusL ((idB lp s).map (fun (i : Nat) => (i : Int))) zs = F by rw [HLE.out, HF.out, List.take_of_length_le (by rw [HLN.out]; exact Nat.le_refl _)])
      go_wp2_with fail
      go_ret
      exact ⟨a, cp, by rw [HFX.out]; rfl, by rw [HFX.out]; exact HR.out, by rw [HFX.out]; exact fun b hb => by have := HO.out b hb; have := HK1.out.size; omega, HK1.out.trans HP.out (fun _ _ hf => hf)⟩
    | succ g3 =>
      have hii : (i : Int) < (n1 : Int) := by omega
      obtain ⟨ad, z, rfl, hz, hcz⟩ := lst_ints (HSL.out wr HP.out) (show i < n1 by omega)
      have HMS := Lib.hid (minus_succ (ys := zs) hz)
      have HCI := Lib.hid (HCO.out z wr HP.out)
      obtain ⟨r, hr⟩ : ∃ r, decide (z ∈ zs) = r := ⟨_, rfl⟩
      rw [hr] at HMS HCI
      obtain ⟨fn, hfn⟩ : ∃ q, F.length = q := ⟨_, rfl⟩
      have HFN := Lib.hid hfn
      rw [hfn] at hFl HR HO ⊢
      clear hz hfn hr
      go_wp2_with fail
      refine HCI.out.mono ?_
      rintro e w2 ⟨rfl, hw2⟩
      subst w2
      cases r with
      | true =>
        have HF2 := Lib.hid (show F = minusL (L.take (i + 1)) zs by rw [HMS.out, HF.out]; simp)
        go_wp2_with fail
        go_roundg g3
        case measure => omega
        case rel => exact ⟨i + 1, a, cp, F, by omega, by go_num, by rw [HFN.out], HF2, by rw [HFN.out]; omega, by rw [HFN.out]; exact HR, by rw [HFN.out]; exact HO, HP⟩
      | false =>
        have HF2 := Lib.hid (show F ++ [z] = minusL (L.take (i + 1)) zs by rw [HMS.out, HF.out]; simp)
        go_wp2_with (at_builtin; refine wpl_append _ rfl (.tmp 19) (.tmp 21) 23 rfl 3 i0 (.int .i64 0) 1 8 Tryz.underlying23 hi hz0 hz1 hz2 rfl (by decide) (.slice a fn cp) fn (F.map (Value.int .i64)) rfl ?own ⟨wr.heap.size, 0, none⟩ 1 1 [.int .i64 z] rfl rfl ?news ?one (by decide) ?b1 ?b2 ?kk)
        case own => exact Row.alloc HR.out _
        case news => exact news1
        case one => intro u hu; simp at hu; subst hu; rfl
        case b1 => unfold maxLen; omega
        case b2 => omega
        case kk =>
          intro b1 cap1 w4 ho1 hg1 hb1 hl1
          have hkp := Lib.hid ((HP.out.alloc (.cells #[.int .i64 z] 3)).grown hg1 (fun b hb => .inr (HO.out b hb)))
          have HD : RowKit.Hid (w1.heap.size ≤ b1) := by
            rcases hb1 with h | h
            · exact Lib.hid (HO.out _ h)
            · exact Lib.hid (by rw [h]; have := HP.out.size; omega)
          have HL2 := Lib.hid (show (F ++ [z]).length = fn + 1 by rw [List.length_append, HFN.out]; rfl)
          have HR8 := Lib.hid (show Row w4 3 1 (.slice (some ⟨b1, 0, none⟩) (F ++ [z]).length cap1) (F ++ [z]).length ((F ++ [z]).map (Value.int .i64)) by
            rw [HL2.out, List.map_append]; exact ho1)
          clear ho1 hg1 hb1
          go_wp2_with fail
          go_roundg g3
          case measure => omega
          case rel => exact ⟨i + 1, _, cap1, F ++ [z], by omega, by go_num, by rw [HL2.out], HF2, by rw [HL2.out]; omega, HR8, Lib.hid (fun b hb => by rw [HL2.out] at hb; simp [Value.ownBlock] at hb; rw [← hb]; exact HD.out), hkp⟩
set_option maxHeartbeats 8000000 in
theorem cmade_ (g p gr size : Nat) (x : Option Addr) (lp : List ByteArray) (s : List UInt8) (A : Option Addr) (k c B : Nat) (zs : List Int) (w : World) (h : SgI w g p gr x lp s size) (hb : SgB lp s size) (hz : Sees w B 1 A k (zs.map (Value.int .i64))) (hB : B ≤ w.heap.size) (hk : k ≤ 1000) :
    Calls Tryz.prog 25 #[sgV g p, .slice A k c] w (IntsPost (minusL zs ((idB lp s).map (fun (i : Nat) => (i : Int)))) w) := by
  obtain ⟨i0, hi, hz0, hz1, hz2⟩ := info_parts intInfoG
  have HID := Lib.hid (fun (W : World) (hW : Pure' w W) => cids_ g p gr size x lp s W (h.pure hW) hb)
  have HZS := Lib.hid (fun (W : World) (hW : Pure' w W) => hz.pure hW hB)
  have HLZ := Lib.hid (show zs.length = k by have := hz.1; simpa using this)
  have HIL := Lib.hid (show (idB lp s).length ≤ 12 by
    rw [idB_hits hb.ne]
    unfold hitsL
    refine Nat.le_trans (List.length_filter_le _ _) ?_
    rw [List.length_range]
    exact hb.bll)
  have HK0 := Lib.hid (show Pure' w (w.alloc (.cells #[.pointer (some ⟨g, 0, none⟩), .pointer (some ⟨p, 0, none⟩)] 34)) from (Keeps.refl _ w).alloc _)
  have HB1 := Lib.hid (show Blk (w.alloc (.cells #[.pointer (some ⟨g, 0, none⟩), .pointer (some ⟨p, 0, none⟩)] 34)) w.heap.size 34 #[.pointer (some ⟨g, 0, none⟩), .pointer (some ⟨p, 0, none⟩)] from Blk.newAt rfl)
  clear h hb hz hB
  unfold sgV
  unfold sgV at HID
  go_enter Tryz.func25, Tryz.ntmps25
  go_upto_region 2 with fail
  generalize (w.alloc (.cells #[.pointer (some ⟨g, 0, none⟩), .pointer (some ⟨p, 0, none⟩)] 34)) = W0 at *
  generalize w.heap.size = bs at *
  have c0 := HB1.out.cell 0
  have c1 := HB1.out.cell 1
  go_wp2_with fail
  refine (HID.out W0 HK0.out).mono ?_
  rintro e w1 ⟨a1, cp1, rfl, hr, _, hk1⟩
  have HK1 := Lib.hid (HK0.out.trans hk1 (fun _ _ hf => hf))
  have hs1 := hr.sees
  rw [show idVs (idB lp s) = ((idB lp s).map (fun (i : Nat) => (i : Int))).map (Value.int .i64) by simp [idVs]] at hs1
  have hLN : ((idB lp s).map (fun (i : Nat) => (i : Int))).length = (idB lp s).length := List.length_map _
  obtain ⟨L, hL⟩ : ∃ L : List Int, (idB lp s).map (fun (i : Nat) => (i : Int)) = L := ⟨_, rfl⟩
  rw [hL] at hs1 hLN
  have HLE := Lib.hid hL
  clear hL hr hk1 c0 c1 HB1
  have hl12 := HIL.out
  generalize (idB lp s).length = n1 at *
  have HLN := Lib.hid hLN
  have HSL := Lib.hid (fun (W : World) (hW : Pure' w1 W) => hs1.pure hW (Nat.le_refl _))
  have HCO := Lib.hid (fun (z : Int) (W : World) (hW : Pure' w1 W) => contI_ a1 n1 cp1 w1.heap.size L z W (hs1.pure hW (Nat.le_refl _)) (by omega))
  clear hs1 hLN HIL HID
  go_wp2_with fail
  go_loopg [5, 8, 13] k (fun gh v5 v8 v13 wr => ∃ (i : Nat) (a : Option Addr) (cp : Nat) (F : List Int), i + gh = k ∧ v13 = .int .i64 (i : Int) ∧ v5 = .slice a F.length cp ∧ RowKit.Hid (F = minusL (zs.take i) L) ∧ F.length ≤ i ∧ RowKit.Hid (Row wr 3 1 (.slice a F.length cp) F.length (F.map (Value.int .i64))) ∧ RowKit.Hid (∀ b, (Value.slice a F.length cp).ownBlock = some b → w1.heap.size ≤ b) ∧ RowKit.Hid (Pure' w1 wr))
  case atStart => exact ⟨0, none, 0, [], by omega, rfl, rfl, Lib.hid (by simp [minusL]), Nat.le_refl _, Lib.hid (Row.nil _ _ _), Lib.hid (fun b hb => by simp [Value.ownBlock] at hb), Lib.hid (Keeps.refl _ _)⟩
  case round =>
    obtain ⟨i, a, cp, F, hig, rfl, rfl, HF, hFl, HR, HO, HP⟩ := hrel
    cases gk with
    | zero =>
      obtain rfl : i = k := by omega
      have HFX := Lib.hid (show minusL zs ((idB lp s).map (fun (i : Nat) => (i : Int))) = F by rw [HLE.out, HF.out, List.take_of_length_le (by rw [HLZ.out]; exact Nat.le_refl _)])
      go_wp2_with fail
      go_ret
      exact ⟨a, cp, by rw [HFX.out]; rfl, by rw [HFX.out]; exact HR.out, by rw [HFX.out]; exact fun b hb => by have := HO.out b hb; have := HK1.out.size; omega, HK1.out.trans HP.out (fun _ _ hf => hf)⟩
    | succ g3 =>
      have hii : (i : Int) < (k : Int) := by omega
      obtain ⟨ad, z, rfl, hz, hcz⟩ := lst_ints (HZS.out wr (HK1.out.trans HP.out (fun _ _ hf => hf))) (show i < k by omega)
      have HMS := Lib.hid (minus_succ (ys := L) hz)
      have HCI := Lib.hid (HCO.out z wr HP.out)
      obtain ⟨r, hr⟩ : ∃ r, decide (z ∈ L) = r := ⟨_, rfl⟩
      rw [hr] at HMS HCI
      obtain ⟨fn, hfn⟩ : ∃ q, F.length = q := ⟨_, rfl⟩
      have HFN := Lib.hid hfn
      rw [hfn] at hFl HR HO ⊢
      clear hz hfn hr
      go_wp2_with fail
      refine HCI.out.mono ?_
      rintro e w2 ⟨rfl, hw2⟩
      subst w2
      cases r with
      | true =>
        have HF2 := Lib.hid (show F = minusL (zs.take (i + 1)) L by rw [HMS.out, HF.out]; simp)
        go_wp2_with fail
        go_roundg g3
        case measure => omega
        case rel => exact ⟨i + 1, a, cp, F, by omega, by go_num, by rw [HFN.out], HF2, by rw [HFN.out]; omega, by rw [HFN.out]; exact HR, by rw [HFN.out]; exact HO, HP⟩
      | false =>
        have HF2 := Lib.hid (show F ++ [z] = minusL (zs.take (i + 1)) L by rw [HMS.out, HF.out]; simp)
        go_wp2_with (at_builtin; refine wpl_append _ rfl (.tmp 21) (.tmp 23) 23 rfl 3 i0 (.int .i64 0) 1 8 Tryz.underlying23 hi hz0 hz1 hz2 rfl (by decide) (.slice a fn cp) fn (F.map (Value.int .i64)) rfl ?own ⟨wr.heap.size, 0, none⟩ 1 1 [.int .i64 z] rfl rfl ?news ?one (by decide) ?b1 ?b2 ?kk)
        case own => exact Row.alloc HR.out _
        case news => exact news1
        case one => intro u hu; simp at hu; subst hu; rfl
        case b1 => unfold maxLen; omega
        case b2 => omega
        case kk =>
          intro b1 cap1 w4 ho1 hg1 hb1 hl1
          have hkp := Lib.hid ((HP.out.alloc (.cells #[.int .i64 z] 3)).grown hg1 (fun b hb => .inr (HO.out b hb)))
          have HD : RowKit.Hid (w1.heap.size ≤ b1) := by
            rcases hb1 with h | h
            · exact Lib.hid (HO.out _ h)
            · exact Lib.hid (by rw [h]; have := HP.out.size; omega)
          have HL2 := Lib.hid (show (F ++ [z]).length = fn + 1 by rw [List.length_append, HFN.out]; rfl)
          have HR8 := Lib.hid (show Row w4 3 1 (.slice (some ⟨b1, 0, none⟩) (F ++ [z]).length cap1) (F ++ [z]).length ((F ++ [z]).map (Value.int .i64)) by
            rw [HL2.out, List.map_append]; exact ho1)
          clear ho1 hg1 hb1
          go_wp2_with fail
          go_roundg g3
          case measure => omega
          case rel => exact ⟨i + 1, _, cap1, F ++ [z], by omega, by go_num, by rw [HL2.out], HF2, by rw [HL2.out]; omega, HR8, Lib.hid (fun b hb => by rw [HL2.out] at hb; simp [Value.ownBlock] at hb; rw [← hb]; exact HD.out), hkp⟩
end Go.Proofs.YtkbdfnmeomkpjaaGreat
