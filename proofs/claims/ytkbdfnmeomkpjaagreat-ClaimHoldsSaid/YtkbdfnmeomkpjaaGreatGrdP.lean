/- A guard made, walked; no condition but the sizes. -/
import Derived.Test.YtkbdfnmeomkpjaaGreatGrdO
namespace Go.Proofs.YtkbdfnmeomkpjaaGreat
open Go.RowKit
set_option linter.unusedVariables false
set_option linter.unusedSimpArgs false
set_option maxRecDepth 100000
attribute [local go_sem] gmax2 gmin2 gmax_two gmin_two

/-- A guard of a set. -/
def GdI (w : World) (n0 g : Nat) (x : Option Addr) (l : List (List UInt8)) (m : Nat) : Prop :=
  ∃ b1 b2 mb n R A T L G, GdB w n0 g b1 b2 mb m n x R A T L G ∧ gR l R ∧ (∀ d, d < m - 1 → (T d).Pairwise (· < ·) ∧ (T d).length ≤ l.length ∧ ∀ z, z ∈ T d ↔ ∃ y ∈ l, prN y d = z) ∧ gG l l.length G ∧ n ≤ 1000
def NewGuardPost (x : Option Addr) (l : List (List UInt8)) (m : Nat) (w : World) (e : Ending) (w' : World) : Prop :=
  ∃ g, e = .returned (.pointer (some ⟨g, 0, none⟩)) ∧ w.heap.size ≤ g ∧ GdI w' w.heap.size g x l m ∧ Pure' w w'
theorem minL_le {lp : List ByteArray} : ∀ s ∈ lp, minL lp ≤ s.size := by
  have key : ∀ (l : List ByteArray) (a : Nat), l.foldl (fun a s => min a s.size) a ≤ a ∧ ∀ s ∈ l, l.foldl (fun a s => min a s.size) a ≤ s.size := by
    intro l
    induction l with
    | nil => intro a; exact ⟨Nat.le_refl _, by simp⟩
    | cons b l ih =>
      intro a
      obtain ⟨h1, h2⟩ := ih (min a b.size)
      refine ⟨by rw [List.foldl_cons]; omega, fun s hs => ?_⟩
      rw [List.foldl_cons]
      rcases List.mem_cons.1 hs with rfl | hs
      · omega
      · exact h2 s hs
  intro s hs
  cases lp with
  | nil => cases hs
  | cons a l =>
    obtain ⟨h1, h2⟩ := key l a.size
    rcases List.mem_cons.1 hs with rfl | hs
    · exact h1
    · exact h2 s hs
theorem minL_mem {lp : List ByteArray} (h : lp ≠ []) : ∃ s ∈ lp, s.size = minL lp := by
  have key : ∀ (l : List ByteArray) (a : Nat), l.foldl (fun a s => min a s.size) a = a ∨ ∃ s ∈ l, s.size = l.foldl (fun a s => min a s.size) a := by
    intro l
    induction l with
    | nil => intro a; exact .inl rfl
    | cons b l ih =>
      intro a
      rw [List.foldl_cons]
      rcases ih (min a b.size) with h | ⟨s, hs, h⟩
      · rcases Nat.le_total a b.size with q | q
        · left; rw [h]; omega
        · right; exact ⟨b, by simp, by rw [h]; omega⟩
      · right; exact ⟨s, by simp [hs], h⟩
  cases lp with
  | nil => exact absurd rfl h
  | cons a l =>
    rcases key l a.size with h | ⟨s, hs, h⟩
    · exact ⟨a, by simp, h.symm⟩
    · exact ⟨s, by simp [hs], h⟩
def GSok (l : List (List UInt8)) (k : Nat) (Y : List Nat) : Prop := Y.Pairwise (· < ·) ∧ Y.length ≤ l.length ∧ ∀ z, z ∈ Y ↔ ∃ y ∈ l, prN y k = z
def GS (l : List (List UInt8)) (m d : Nat) (T : Nat → List Nat) : Prop := ∀ k, k < m - 1 → (k < d → GSok l k (T k)) ∧ (d ≤ k → T k = l.map (fun y => prN y k))
theorem GS.step {l : List (List UInt8)} {m d : Nat} {T : Nat → List Nat} (h : GS l m d T) {M : List Nat} (hM : GSok l d M) : GS l m (d + 1) (fupd T d M) := by
  intro k hk
  by_cases e : k = d
  · subst e
    rw [fupd_same]
    exact ⟨fun _ => hM, fun h => by omega⟩
  · rw [fupd_other _ _ e]
    exact ⟨fun h2 => (h k hk).1 (by omega), fun h2 => (h k hk).2 (by omega)⟩
theorem fupd_id {α : Type} (f : Nat → α) (d : Nat) : fupd f d (f d) = f := by
  funext k
  by_cases e : k = d
  · subst e; rw [fupd_same]
  · rw [fupd_other _ _ e]
theorem GdB.turnT {w w' : World} {n0 g b1 b2 mb m n : Nat} {x : Option Addr} {R : List GR} {A L : Nat → Value} {T G : Nat → List Nat} (h : GdB w n0 g b1 b2 mb m n x R A T L G) {d : Nat} (hd : d < m - 1) (hk : Keeps (fun k => (A d).ownBlock = some k) w w') {Y : List Nat}
    (hr : Row w' 90 1 (A d) Y.length (u16Vs Y)) : GdB w' n0 g b1 b2 mb m n x R A (fupd T d Y) L G := by
  have hro := h.famT.own d hd
  refine ⟨h.box.keep hk (fun e => hro.blk_ne h.box (by decide) e), h.rl, h.ones.keep hk (fun b e e2 => h.ones.sameBlk hro (by decide) b e e2), h.twos.keep hk (fun b e e2 => h.twos.sameBlk hro (by decide) b e e2), ?_, h.mp.keep hk (h.mp.neRow hro), h.famL.offRow hro (by decide) hk, h.news, h.ok⟩
  have hF := h.famT.turn hd hk (v' := A d) (Y := u16Vs Y) (by rw [u16Vs_len]; exact hr) rfl
  rw [fupd_id, ← u16_turn] at hF
  exact hF
theorem intInfoG : (Tryz.prog.info? 3).map (fun i => (i.zero, i.size, i.bytes)) = some (some (.int .i64 0), 1, 8) := by kernel_rfl
theorem GMp.madeAt {P : Program} {k : TypeId} {w : World} {mb : Nat} (h : mb = w.heap.size) : GMp P k (w.alloc (.map #[] 0)) mb 0 nilS := by subst h; exact GMp.made P k w
theorem GMp.alloc_ {P : Program} {k : TypeId} {w : World} {mb n : Nat} {A : Nat → Value} (h : GMp P k w mb n A) (o : Obj) : GMp P k (w.alloc o) mb n A := h.keep ((Keeps.refl (fun _ => False) w).alloc o) (fun hf => hf)
theorem GMp.drew_ {P : Program} {k : TypeId} {w : World} {mb n : Nat} {A : Nat → Value} (h : GMp P k w mb n A) : GMp P k w.drew mb n A := h.keep ((Keeps.refl (fun _ => False) w).drew) (fun hf => hf)
set_option maxHeartbeats 4000000 in
theorem newGuard_ (x : Option Addr) (lp : List ByteArray) (w : World) (h : SetP w x lp) (hn : lp.length ≤ 12) (hll : ∀ y ∈ bl lp, y.length ≤ 20) (hne : ∀ y ∈ bl lp, y ≠ []) :
    Calls Tryz.prog 18 #[.pointer x] w fun e w' => NewGuardPost x (bl lp) (minL lp) w e w' := by
  have HS := Lib.hid h
  have HLE := Lib.hid (sleast_ x lp w h)
  have HLN := Lib.hid (fun (W : World) (hW : Pure' w W) => slen_ x lp W (h.pure hW))
  have HAT := Lib.hid (fun (k : Nat) (W : World) (hW : Pure' w W) (hk : k < lp.length) => sat_ x lp k W (h.pure hW) hk)
  have hm20 : minL lp ≤ 20 := by
    by_cases e : lp = []
    · subst e; exact Nat.zero_le _
    · obtain ⟨s, hs, e2⟩ := minL_mem e
      have := hll s.data.toList (List.mem_map.2 ⟨s, hs, rfl⟩)
      have h3 : s.data.toList.length = s.size := Array.length_toList
      omega
  have HML := Lib.hid (show ∀ y ∈ bl lp, minL lp ≤ y.length from fun y hy => by
    obtain ⟨s, hs, rfl⟩ := List.mem_map.1 hy
    have := minL_le s hs
    have h3 : s.data.toList.length = s.size := Array.length_toList
    omega)
  have HM1 := Lib.hid (show lp.length ≠ 0 → 1 ≤ minL lp from fun e => by
    obtain ⟨s, hs, e2⟩ := minL_mem (lp := lp) (fun e3 => e (by rw [e3]; rfl))
    have := hne s.data.toList (List.mem_map.2 ⟨s, hs, rfl⟩)
    rw [← e2]
    have h2 : s.data.toList.length ≠ 0 := fun e => this (List.eq_nil_of_length_eq_zero e)
    have h3 : s.data.toList.length = s.size := Array.length_toList
    omega)
  have HM0 := Lib.hid (show lp.length = 0 → minL lp = 0 from fun e => by rw [List.eq_nil_of_length_eq_zero e]; rfl)
  have HLL := Lib.hid hll
  have HBL := Lib.hid (show (bl lp).length = lp.length by simp [bl])
  obtain ⟨m, hm⟩ : ∃ m, minL lp = m := ⟨_, rfl⟩
  obtain ⟨l, hl⟩ : ∃ l, bl lp = l := ⟨_, rfl⟩
  obtain ⟨n, hnn⟩ : ∃ n, lp.length = n := ⟨_, rfl⟩
  simp only [hm, hl, hnn] at *
  clear hm hl hnn h hll hne
  obtain ⟨ZR, hz1, hmk1⟩ := mk_rows m (by omega)
  obtain ⟨ZT, hz2, hmk2⟩ := mk_twos (m - 1) (by omega)
  have HZ1 := Lib.hid hz1
  have HZ2 := Lib.hid hz2
  have hmm := @run_makeMap Tryz.prog
  have hmx : max (0 : Int) (IntKind.i64.wrap ((m : Int) - 1)) = ((m - 1 : Nat) : Int) := by rw [IntKind.wrap_i64]; omega
  have HZL1 := Lib.hid (show ZR.size = m * 4 by rw [← Array.length_toList, hz1, grVs_len, List.length_replicate])
  have HZL2 := Lib.hid (show ZT.size = (m - 1) * 1 by rw [← Array.length_toList, hz2, List.length_map, List.length_range, Nat.mul_one])
  clear hz1 hz2
  go_enter Tryz.func18, Tryz.ntmps18
  go_wp2_with fail
  refine HLE.out.mono ?_
  rintro e w1 ⟨rfl, rfl⟩
  clear HLE
  go_upto_region 2 with fail
  go_cut [4] (fun v4 wx => ∃ (g b1 b2 mb : Nat), v4 = .pointer (some ⟨g, 0, none⟩) ∧ RowKit.Hid (GdB wx w.heap.size g b1 b2 mb m 0 x (List.replicate m gr0) nilS nilL nilS nilL) ∧ RowKit.Hid (Pure' w wx))
  case first =>
    go_region_with (fail)
    all_goals go_wp2_with fail
    all_goals
      go_meet
      refine ⟨_, _, _, _, rfl, Lib.hid (GdB.made (w := w) (Blk.newAt (by simp)).drew ?_ ?_ ?_ (by omega)), Lib.hid (by (repeat (first | exact Keeps.refl _ _ | refine Keeps.drew ?_ | refine Keeps.alloc ?_ _ | refine Keeps.drewN ?_ _)))⟩
      · with_reducible refine Row.drew ?_
        repeat (first | (with_reducible refine Row.newAt ?_ ?_ HZL1.out HZ1.out) | (with_reducible refine Row.alloc ?_ _))
        · simp
        · unfold maxLen; omega
      · with_reducible refine Row.drew ?_
        repeat (first | (with_reducible refine Row.newAt ?_ ?_ HZL2.out HZ2.out) | (with_reducible refine Row.alloc ?_ _))
        · simp
        · unfold maxLen; omega
      · with_reducible refine GMp.drew_ ?_
        repeat (first | (with_reducible refine GMp.madeAt ?_) | (with_reducible refine GMp.alloc_ ?_ _))
        simp
  case rest =>
    obtain ⟨g, b1, b2, mb, rfl, HB, HK⟩ := hcut
    clear hmk1 hmk2 hmm hmx HZ1 HZ2 HZL1 HZL2
    obtain ⟨i1, hi, hz0, hz1, hz2⟩ := info_parts intInfoG
    go_wp2_with fail
    refine (HLN.out _ HK.out).mono ?_
    rintro e w2 ⟨rfl, rfl⟩
    go_wp2_with fail
    go_loopg [5, 6, 7, 8, 24] n (fun gh v5 v6 v7 v8 v24 wr => ∃ (i : Nat) (R : List GR) (A : Nat → Value) (T : Nat → List Nat) (L : Nat → Value) (G : Nat → List Nat), i + gh = n ∧ v24 = .int .i64 (i : Int) ∧ RowKit.Hid (GdB wr w.heap.size g b1 b2 mb m i x R A T L G) ∧ RowKit.Hid (gR (l.take i) R) ∧ RowKit.Hid (gT (l.take i) m T) ∧ RowKit.Hid (gG l i G) ∧ RowKit.Hid (Pure' w wr))
    case atStart => exact ⟨0, _, nilS, nilL, nilS, nilL, by omega, rfl, HB, Lib.hid (by
      intro d r hr c
      rw [List.getElem?_replicate] at hr
      split at hr
      · cases hr; rw [gr0_has]; simp
      · cases hr), Lib.hid (fun d hd => by simp [nilL]), Lib.hid (fun c hc => by simp [nilL, endK]), HK⟩
    case round =>
      obtain ⟨i, R, A, T, L, G, hig, rfl, HB1, HGR, HGT, HGG, HK1⟩ := hrel
      clear HB HK
      cases gk with
      | zero =>
        obtain rfl : i = n := by omega
        rw [List.take_of_length_le (by rw [HBL.out]; exact Nat.le_refl _)] at HGR HGT
        have x2 := HB1.out.box.cell 2
        have HG0 := Lib.hid (show GS l m 0 T from fun k hk => ⟨fun h => by omega, fun _ => HGT.out k hk⟩)
        go_wp2_with fail
        clear x2
        go_loopg [9, 62] (m - 1) (fun gh v9 v62 wz => ∃ (d : Nat) (A : Nat → Value) (T : Nat → List Nat), d + gh = m - 1 ∧ v62 = .int .i64 (d : Int) ∧ RowKit.Hid (GdB wz w.heap.size g b1 b2 mb m i x R A T L G) ∧ RowKit.Hid (GS l m d T) ∧ RowKit.Hid (Pure' w wz))
        case atStart => exact ⟨0, A, T, by omega, rfl, HB1, HG0, HK1⟩
        case round =>
          obtain ⟨d, A, T, hdg, rfl, HB3, HGS, HK3⟩ := hrel
          clear HB1 HK1 HG0
          cases gk with
          | zero =>
            obtain rfl : d = m - 1 := by omega
            go_wp2_with fail
            go_ret
            exact ⟨g, rfl, HB3.out.news.1, ⟨b1, b2, mb, i, R, A, T, L, G, HB3.out, HGR.out, fun k hk => (HGS.out k hk).1 hk, by rw [HBL.out]; exact HGG.out, by omega⟩, HK3.out⟩
          | succ g3 =>
            have hdm1 : d < m - 1 := by omega
            have hii : (d : Int) < ((m - 1 : Nat) : Int) := by omega
            have hn0 : i ≠ 0 := fun e => by have := HM0.out e; omega
            have hTd := (HGS.out d hdm1).2 (Nat.le_refl _)
            obtain ⟨tl, htl⟩ : ∃ tl, T d = tl := ⟨_, rfl⟩
            have HTLE := Lib.hid htl
            rw [htl] at hTd
            have htn : tl.length = i := by rw [hTd, List.length_map]; exact HBL.out
            have HTN := Lib.hid htn
            have HTM := Lib.hid hTd
            have hown := HB3.out.famT.own d hdm1
            simp only [htl] at hown
            rw [u16Vs_len, htn] at hown
            obtain ⟨bb, cp, hta, _, hcap⟩ := hown.some_ (by omega)
            have HTA := Lib.hid hta
            rw [hta] at hown
            have HOW := Lib.hid hown
            have HCAP := Lib.hid hcap
            have x2 := HB3.out.box.cell 2
            have x3 : wr.cell? ⟨b2, d, none⟩ = some (.slice (some ⟨bb, 0, none⟩) i cp) := by rw [← hta]; exact HB3.out.twos.cell (map_at A hdm1)
            have HSO := srt16_ bb cp tl wr (by rw [htn]; exact hown) (by omega)
            rw [htn] at HSO
            have HSO := Lib.hid HSO
            clear hTd htl htn hta hown hcap
            go_wp2_with fail
            refine HSO.out.mono ?_
            rintro e w5 ⟨rfl, L5, hp5, hs5, hr5, hk5⟩
            have hl5 : L5.length = i := by rw [hp5.length_eq]; exact HTN.out
            rw [hl5] at hr5
            have HR5 := Lib.hid hr5
            have HL5 := Lib.hid (And.intro hl5 (And.intro hs5 hp5))
            have HB5 := Lib.hid (HB3.out.turnT hdm1 (Y := L5) (hk5.mono (fun k _ e => by rw [HTA.out, e]; rfl)) (by rw [HTA.out, hl5]; exact hr5))
            have HK5 := Lib.hid (show Pure' w w5 from HK3.out.trans (S := fun _ => False) hk5 (fun b hb e => by
              have := HB3.out.famT.new d hdm1 b (by rw [HTA.out, e]; rfl)
              omega))
            clear hp5 hs5 hr5 hk5 hl5 x2 x3 HSO
            have HCM := Lib.hid (show Calls Tryz.prog 59 #[.slice (some ⟨bb, 0, none⟩) i cp] w5.drew _ from by
              have := cmp16_ bb cp L5 w5.drew (by rw [HL5.out.1]; exact HR5.out.drew) HL5.out.2.1 (by rw [HL5.out.1]; omega) (by rw [HL5.out.1]; exact HCAP.out)
              rw [HL5.out.1] at this
              exact this)
            have HX := Lib.hid (show ∀ W, Keeps (fun k => k = bb ∨ k = b2) w5 W → W.cell? ⟨g, 2, none⟩ = some (.slice (some ⟨b2, 0, none⟩) (m - 1) (m - 1)) from fun W hk =>
              (HB5.out.box.keep hk (fun e => by
                rcases e with e | e
                · exact HR5.out.blk_ne HB5.out.box (by decide) (by rw [e]; rfl)
                · exact HB5.out.b2g e.symm)).cell 2)
            have x3 : w5.drew.cell? ⟨b2, d, none⟩ = some (.slice (some ⟨bb, 0, none⟩) i cp) := by rw [← HTA.out]; exact HB5.out.twos.cell (map_at A hdm1)
            go_wp2_with fail
            -- R15
            refine wp_region_held_drew (S := (fun W => Keeps (fun k => k = bb ∨ k = b2) w5 W)) (by kernel_rfl) ((Keeps.refl _ w5).drew) (fun hHeld => ?_)
            have HH := Lib.hid hHeld
            clear hHeld
            refine wpAnyH_take (i := 0) (oi := ⟨some 73, .move (.tmp 4), _, _, _, _⟩) (v := ?vv12) rfl (by kernel_rfl) (by kernel_rfl) (by kernel_rfl) (fun _ _ _ h => h) (Or.inl ⟨by rfl, ?hy12⟩) HH.out ?rr12
            case hy12 => intro W hSw; go_simp; try with_reducible rfl
            try simp only [Act.put, List.setIfInBounds_toArray, List.set_cons_zero, List.set_cons_succ]
            refine wpAnyH_take (i := 1) (oi := ⟨some 74, .nilCheck (.tmp 73), _, _, _, _⟩) (v := ?vv13) rfl (by kernel_rfl) (by kernel_rfl) (by kernel_rfl) (fun _ _ _ h => h) (Or.inl ⟨by rfl, ?hy13⟩) HH.out ?rr13
            case hy13 => intro W hSw; go_simp; try with_reducible rfl
            try simp only [Act.put, List.setIfInBounds_toArray, List.set_cons_zero, List.set_cons_succ]
            refine wpAnyH_take (i := 2) (oi := ⟨some 75, .fieldAddr 84 (.tmp 74) 2, _, _, _, _⟩) (v := ?vv14) rfl (by kernel_rfl) (by kernel_rfl) (by kernel_rfl) (fun _ _ _ h => h) (Or.inl ⟨by rfl, ?hy14⟩) HH.out ?rr14
            case hy14 => intro W hSw; go_simp; try with_reducible rfl
            try simp only [Act.put, List.setIfInBounds_toArray, List.set_cons_zero, List.set_cons_succ]
            refine wpAnyH_take (i := 3) (oi := ⟨some 76, .load 81 (.tmp 75), _, _, _, _⟩) (v := ?vv15) rfl (by kernel_rfl) (by kernel_rfl) (by kernel_rfl) (fun _ _ _ h => h) (Or.inl ⟨by rfl, ?hy15⟩) HH.out ?rr15
            case hy15 => intro W hSw; have y := HX.out W hSw; go_simp; try with_reducible rfl
            try simp only [Act.put, List.setIfInBounds_toArray, List.set_cons_zero, List.set_cons_succ]
            refine wpAnyH_take (i := 4) (oi := ⟨some 77, .move (.tmp 9), _, _, _, _⟩) (v := ?vv16) rfl (by kernel_rfl) (by kernel_rfl) (by kernel_rfl) (fun _ _ _ h => h) (Or.inl ⟨by rfl, ?hy16⟩) HH.out ?rr16
            case hy16 => intro W hSw; go_simp; try with_reducible rfl
            try simp only [Act.put, List.setIfInBounds_toArray, List.set_cons_zero, List.set_cons_succ]
            refine wpAnyH_take (i := 5) (oi := ⟨some 78, .move (.tmp 4), _, _, _, _⟩) (v := ?vv17) rfl (by kernel_rfl) (by kernel_rfl) (by kernel_rfl) (fun _ _ _ h => h) (Or.inl ⟨by rfl, ?hy17⟩) HH.out ?rr17
            case hy17 => intro W hSw; go_simp; try with_reducible rfl
            try simp only [Act.put, List.setIfInBounds_toArray, List.set_cons_zero, List.set_cons_succ]
            refine wpAnyH_take (i := 6) (oi := ⟨some 79, .nilCheck (.tmp 78), _, _, _, _⟩) (v := ?vv18) rfl (by kernel_rfl) (by kernel_rfl) (by kernel_rfl) (fun _ _ _ h => h) (Or.inl ⟨by rfl, ?hy18⟩) HH.out ?rr18
            case hy18 => intro W hSw; go_simp; try with_reducible rfl
            try simp only [Act.put, List.setIfInBounds_toArray, List.set_cons_zero, List.set_cons_succ]
            refine wpAnyH_take (i := 7) (oi := ⟨some 80, .fieldAddr 84 (.tmp 79) 2, _, _, _, _⟩) (v := ?vv19) rfl (by kernel_rfl) (by kernel_rfl) (by kernel_rfl) (fun _ _ _ h => h) (Or.inl ⟨by rfl, ?hy19⟩) HH.out ?rr19
            case hy19 => intro W hSw; go_simp; try with_reducible rfl
            try simp only [Act.put, List.setIfInBounds_toArray, List.set_cons_zero, List.set_cons_succ]
            refine wpAnyH_take (i := 8) (oi := ⟨some 81, .load 81 (.tmp 80), _, _, _, _⟩) (v := ?vv20) rfl (by kernel_rfl) (by kernel_rfl) (by kernel_rfl) (fun _ _ _ h => h) (Or.inl ⟨by rfl, ?hy20⟩) HH.out ?rr20
            case hy20 => intro W hSw; have y := HX.out W hSw; go_simp; try with_reducible rfl
            try simp only [Act.put, List.setIfInBounds_toArray, List.set_cons_zero, List.set_cons_succ]
            refine wpAnyH_take (i := 9) (oi := ⟨some 82, .move (.tmp 9), _, _, _, _⟩) (v := ?vv21) rfl (by kernel_rfl) (by kernel_rfl) (by kernel_rfl) (fun _ _ _ h => h) (Or.inl ⟨by rfl, ?hy21⟩) HH.out ?rr21
            case hy21 => intro W hSw; go_simp; try with_reducible rfl
            try simp only [Act.put, List.setIfInBounds_toArray, List.set_cons_zero, List.set_cons_succ]
            refine wpAnyH_take (i := 10) (oi := ⟨some 83, .indexAddr 81 (.tmp 81) (.tmp 82), _, _, _, _⟩) (v := ?vv22) rfl (by kernel_rfl) (by kernel_rfl) (by kernel_rfl) (fun _ _ _ h => h) (Or.inl ⟨by rfl, ?hy22⟩) HH.out ?rr22
            case hy22 => intro W hSw; go_simp; try with_reducible rfl
            try simp only [Act.put, List.setIfInBounds_toArray, List.set_cons_zero, List.set_cons_succ]
            refine wpAnyH_ready (rs := [11]) (by kernel_rfl) (by simp) ?_
            refine AllReadyH.cons (o := ⟨some 84, .load 89 (.tmp 83), _, _, _, _⟩) rfl (fun K hK => ?_) AllReadyH.nil
            go_simp
            refine hK.out _ _ (HH.out) (fun hHeld => ?_)
            have HH := Lib.hid hHeld
            clear hHeld hK K
            try simp only [Act.put, List.setIfInBounds_toArray, List.set_cons_zero, List.set_cons_succ]
            refine wpAnyH_ready (rs := [12]) (by kernel_rfl) (by simp) ?_
            refine AllReadyH.cons (o := ⟨some 85, .call { callee := .value (.func 59), args := #[.tmp 84], argTypes := #[89] }, _, _, _, _⟩) rfl (fun K hK => ?_) AllReadyH.nil
            go_simp
            go_at_call 59
            refine HCM.out.mono ?_
            rintro e w6 ⟨M, rfl, hm1, hm2, hm3, hm4, hm5⟩
            have HM6 := Lib.hid (And.intro hm1 (And.intro (And.intro hm2 hm3) (And.intro hm4 hm5)))
            have z3 : w6.cell? ⟨b2, d, none⟩ = some (.slice (some ⟨bb, 0, none⟩) i cp) := by
              rw [← HTA.out]; exact (HB5.out.twos.keep ((Keeps.refl _ w5).drew.trans hm5 (fun _ _ e => e)) (fun b e e2 => HB5.out.twos.sameBlk HR5.out (by decide) b e (by rw [e2]; rfl))).cell (map_at A hdm1)
            have z4 : w6.frozen? ⟨b2, d, none⟩ = false := (HB5.out.twos.keep ((Keeps.refl _ w5).drew.trans hm5 (fun _ _ e => e)) (fun b e e2 => HB5.out.twos.sameBlk HR5.out (by decide) b e (by rw [e2]; rfl))).free
            clear hm1 hm2 hm3 hm4 hm5 HCM
            go_wp2_with fail
            refine hK.out _ _ (HH.out.trans HM6.out.2.2.2 (fun _ _ e => .inl e)) (fun hHeld => ?_)
            have HH := Lib.hid hHeld
            clear hHeld hK K
            try simp only [Act.put, List.setIfInBounds_toArray, List.set_cons_zero, List.set_cons_succ]
            refine wpAnyH_take (i := 13) (oi := ⟨some 86, .indexAddr 81 (.tmp 76) (.tmp 77), _, _, _, _⟩) (v := ?vv23) rfl (by kernel_rfl) (by kernel_rfl) (by kernel_rfl) (fun _ _ _ h => h) (Or.inl ⟨by rfl, ?hy23⟩) HH.out ?rr23
            case hy23 => intro W hSw; go_simp; try with_reducible rfl
            try simp only [Act.put, List.setIfInBounds_toArray, List.set_cons_zero, List.set_cons_succ]
            refine wpAnyH_ready (rs := [14]) (by kernel_rfl) (by simp) ?_
            refine AllReadyH.cons (o := ⟨none, .store 89 (.tmp 86) (.tmp 85), _, _, _, _⟩) rfl (fun K hK => ?_) AllReadyH.nil
            go_simp
            refine hK.out _ _ (HH.out.setCell (p := ⟨b2, d, none⟩) (.inl (.inr rfl)) _) (fun hHeld => ?_)
            have HH := Lib.hid hHeld
            clear hHeld hK K
            try simp only [Act.put, List.setIfInBounds_toArray, List.set_cons_zero, List.set_cons_succ]
            have HK7 := Lib.hid (show Pure' w _ from HK5.out.trans (S := fun _ => False) HH.out (fun b hb e => by
              rcases e with e | e
              · have := HB5.out.famT.new d hdm1 b (by rw [HTA.out, e]; rfl); omega
              · have := HB5.out.news.2.2.1; omega))
            refine wpAnyH_done (by kernel_rfl) ?_ _
            -- R15END
            have HB7 := Lib.hid (show GdB (w6.setCell ⟨b2, d, none⟩ (.slice (some ⟨bb, 0, none⟩) M.length cp)) w.heap.size g b1 b2 mb m i x R (fupd A d (.slice (some ⟨bb, 0, none⟩) M.length cp)) (fupd (fupd T d L5) d M) L G by
              have hk6 := ((Keeps.refl (fun k => (A d).ownBlock = some k) w5).drew).trans HM6.out.2.2.2 (fun k _ e => by rw [HTA.out, e]; rfl)
              refine HB5.out.two hdm1 hk6 ?_
              rw [u16_turn]
              exact (HB5.out.famT).turn hdm1 hk6 (by rw [u16Vs_len]; exact HM6.out.2.2.1) (by rw [HTA.out]; rfl))
            have HG7 := Lib.hid (show GS l m (d + 1) (fupd (fupd T d L5) d M) by
              have e : fupd (fupd T d L5) d M = fupd T d M := by
                funext k
                by_cases e : k = d
                · subst e; rw [fupd_same, fupd_same]
                · rw [fupd_other _ _ e, fupd_other _ _ e, fupd_other _ _ e]
              rw [e]
              refine HGS.out.step ⟨HM6.out.1, ?_, fun z => ?_⟩
              · rw [HBL.out]; exact HM6.out.2.1.2
              · rw [HM6.out.2.1.1, HL5.out.2.2.mem_iff, HTM.out, List.mem_map])
            go_wp2_with fail
            go_roundg g3
            case measure => omega
            case rel => exact ⟨d + 1, _, _, by omega, by go_num, HB7, HG7, HK7⟩
      | succ g3 =>
        have hii : (i : Int) < (n : Int) := by omega
        have hin : i < n := by omega
        have hm1 := HM1.out (by omega)
        go_wp2_with fail
        refine (HAT.out i wr HK1.out hin).mono ?_
        rintro e w3 ⟨⟨y, rfl, hy⟩, rfl⟩
        have hym := HML.out y (List.mem_of_getElem? hy)
        have hyl := HLL.out y (List.mem_of_getElem? hy)
        have HY := Lib.hid hy
        have HNO := Lib.hid (notes_ w.heap.size g b1 b2 mb m i x y R A T L G wr HB1.out HK1.out.size hym hm1 (by omega) (fun d hd => by rw [HGT.out d hd, List.length_map, List.length_take]; omega))
        have hbs : (⟨y.toArray⟩ : ByteArray).size = y.length := Lib.size_eq _
        obtain ⟨yn, hyn⟩ : ∃ q, y.length = q := ⟨_, rfl⟩
        have HYN := Lib.hid hyn
        rw [hyn] at hbs hym hyl
        clear hy hyn
        go_wp2_with fail
        refine HNO.out.mono ?_
        rintro e w4 ⟨rfl, R2, A2, T2, hB2, hNR, hNT, hk⟩
        have HB2 := Lib.hid hB2
        have HTK := Lib.hid (show l.take (i + 1) = l.take i ++ [y] by rw [List.take_add_one, HY.out]; rfl)
        have HGR2 := Lib.hid (show gR (l.take (i + 1)) R2 by rw [HTK.out]; exact HGR.out.step hNR HB1.out.rl hB2.rl)
        have HGT2 := Lib.hid (show gT (l.take (i + 1)) m T2 by rw [HTK.out]; exact HGT.out.step hNT)
        have HK2 := Lib.hid (show Pure' w w4 from (HK1.out.trans (S := fun _ => False) hk (fun b hb e => by omega)))
        clear hB2 hNR hNT hk HB1 HK1 HNO
        obtain ⟨yj, hyj⟩ : ∃ yj, yj + 1 = yn := ⟨yn - 1, by omega⟩
        have hyji : (yn : Int) - 1 = (yj : Int) := by omega
        have hyjl : (yj : Int) < (yn : Int) := by omega
        obtain ⟨c, _, hcj, hga⟩ := at_c (show yj < y.length by rw [HYN.out]; omega)
        have HC := Lib.hid (show y.reverse[0]? = some c by
          rw [List.getElem?_reverse (by rw [HYN.out]; omega), ← hcj]
          congr 1
          rw [HYN.out]; omega)
        have hcl := c.toNat_lt
        clear hcj
        have hown := HB2.out.famL.own c.toNat (by omega)
        obtain ⟨ta, cp, hta, _⟩ := hown.form
        have htl : (G c.toNat).length ≤ 12 := by
          rw [HGG.out c.toNat (by omega)]
          have := endK_len l c.toNat i
          omega
        obtain ⟨tl, htl2⟩ : ∃ tl, G c.toNat = tl := ⟨_, rfl⟩
        have HTLE := Lib.hid htl2
        rw [htl2] at htl
        simp only [htl2] at hown hta
        obtain ⟨tn, htn⟩ : ∃ tn, tl.length = tn := ⟨_, rfl⟩
        have HTN := Lib.hid htn
        rw [idVs_len, htn] at hown hta
        rw [htn] at htl
        have HTA := Lib.hid hta
        rw [hta] at hown
        have HOW := Lib.hid hown
        have HAF := Lib.hid (fun (W W2 : World) (v' : Value) (hr : Row W 3 1 v' (tn + 1) (idVs tl ++ [.int .i64 (i : Int)])) (hg : (w4.drew.alloc (.cells #[.int .i64 (i : Int)] 3)).grownBy W (Value.slice ta tn cp).ownBlock) (hv : v'.ownBlock = (Value.slice ta tn cp).ownBlock ∨ ∃ b, v'.ownBlock = some b ∧ w4.heap.size ≤ b) (hM : GMp Tryz.prog 5 W2 mb (i + 1) (fupd L c.toNat v')) (hg2 : W.grownBy W2 (some mb)) =>
          (show GdB W2 w.heap.size g b1 b2 mb m (i + 1) x R2 A2 T2 (fupd L c.toNat v') (fupd G c.toNat (G c.toNat ++ [i])) by
            rw [← HTA.out] at hg hv
            have hF := Fam.app (W := w4.drew) (HB2.out.famL.pure (Keeps.refl _ w4).drew) (show c.toNat < 256 by omega) (by have : w.heap.size ≤ w4.drew.heap.size := HK2.out.size; omega) (o := .cells #[.int .i64 (i : Int)] 3) (W' := W) (v' := v') (x := .int .i64 (i : Int)) hg (by rw [HTLE.out, idVs_len, HTN.out]; exact hr) hv
            refine HB2.out.last (show c.toNat < 256 by omega) (((Keeps.refl _ w4).drew.alloc _).grown hg (fun k e => .inl e)) ?_ hM hg2
            rw [id_fupd]
            exact hF))
        have HMK := Lib.hid (fun (W : World) (hg : (w4.drew.alloc (.cells #[.int .i64 (i : Int)] 3)).grownBy W (Value.slice ta tn cp).ownBlock) =>
          (show GMp Tryz.prog 5 W mb i L from HB2.out.mp.keep (((Keeps.refl (fun k => (Value.slice ta tn cp).ownBlock = some k) w4).drew.alloc _).grown hg (fun k e => .inl e)) (by
            have ho := HB2.out.famL.own c.toNat (by omega)
            rw [HTA.out] at ho
            exact HB2.out.mp.neRow ho)))
        have HNB := Lib.hid (show ∀ k, (Value.slice ta tn cp).ownBlock = some k → w.heap.size ≤ k from fun k e => HB2.out.famL.new c.toNat (by omega) k (by rw [HTA.out]; exact e))
        have HX := Lib.hid (show ∀ W, Keeps (fun k => (Value.slice ta tn cp).ownBlock = some k ∨ k = mb) w4 W → W.cell? ⟨g, 3, none⟩ = some (.map (some mb)) from fun W hk =>
          (HB2.out.box.keep hk (fun e => by
            rcases e with e | e
            · have ho := HB2.out.famL.own c.toNat (by omega)
              rw [HTA.out] at ho
              exact ho.blk_ne HB2.out.box (by decide) e
            · exact HB2.out.bmg e.symm)).cell 3)
        have HGG2 := Lib.hid (HGG.out.step HY.out HC.out)
        have HLK := Lib.hid (fun (W : World) (hM : GMp Tryz.prog 5 W mb i L) => (hM.look (t := 82) (e := 23) Tryz.underlying5 Tryz.underlying82 (Tryz.zeroValue23 W) (show c.toNat < 256 by omega)).trans (by rw [HTA.out]))
        clear hta hown htl2 htn
        go_wp2_with fail
        -- R9
        refine wp_region_held_drew (S := (fun W => Keeps (fun k => (Value.slice ta tn cp).ownBlock = some k ∨ k = mb) w4 W)) (by kernel_rfl) ((Keeps.refl _ w4).drew) (fun hHeld => ?_)
        have HH := Lib.hid hHeld
        clear hHeld
        refine wpAnyH_take (i := 0) (oi := ⟨some 42, .move (.tmp 4), _, _, _, _⟩) (v := ?vv1) rfl (by kernel_rfl) (by kernel_rfl) (by kernel_rfl) (fun _ _ _ h => h) (Or.inl ⟨by rfl, ?hy1⟩) HH.out ?rr1
        case hy1 => intro W hSw; go_simp; try with_reducible rfl
        try simp only [Act.put, List.setIfInBounds_toArray, List.set_cons_zero, List.set_cons_succ]
        refine wpAnyH_take (i := 1) (oi := ⟨some 43, .nilCheck (.tmp 42), _, _, _, _⟩) (v := ?vv2) rfl (by kernel_rfl) (by kernel_rfl) (by kernel_rfl) (fun _ _ _ h => h) (Or.inl ⟨by rfl, ?hy2⟩) HH.out ?rr2
        case hy2 => intro W hSw; go_simp; try with_reducible rfl
        try simp only [Act.put, List.setIfInBounds_toArray, List.set_cons_zero, List.set_cons_succ]
        refine wpAnyH_take (i := 2) (oi := ⟨some 44, .fieldAddr 84 (.tmp 43) 3, _, _, _, _⟩) (v := ?vv3) rfl (by kernel_rfl) (by kernel_rfl) (by kernel_rfl) (fun _ _ _ h => h) (Or.inl ⟨by rfl, ?hy3⟩) HH.out ?rr3
        case hy3 => intro W hSw; go_simp; try with_reducible rfl
        try simp only [Act.put, List.setIfInBounds_toArray, List.set_cons_zero, List.set_cons_succ]
        refine wpAnyH_take (i := 3) (oi := ⟨some 45, .load 82 (.tmp 44), _, _, _, _⟩) (v := ?vv4) rfl (by kernel_rfl) (by kernel_rfl) (by kernel_rfl) (fun _ _ _ h => h) (Or.inl ⟨by rfl, ?hy4⟩) HH.out ?rr4
        case hy4 => intro W hSw; have y := HX.out W hSw; go_simp; try with_reducible rfl
        try simp only [Act.put, List.setIfInBounds_toArray, List.set_cons_zero, List.set_cons_succ]
        refine wpAnyH_take (i := 4) (oi := ⟨some 46, .move (.tmp 8), _, _, _, _⟩) (v := ?vv5) rfl (by kernel_rfl) (by kernel_rfl) (by kernel_rfl) (fun _ _ _ h => h) (Or.inl ⟨by rfl, ?hy5⟩) HH.out ?rr5
        case hy5 => intro W hSw; go_simp; try with_reducible rfl
        try simp only [Act.put, List.setIfInBounds_toArray, List.set_cons_zero, List.set_cons_succ]
        refine wpAnyH_take (i := 5) (oi := ⟨some 47, .move (.tmp 4), _, _, _, _⟩) (v := ?vv6) rfl (by kernel_rfl) (by kernel_rfl) (by kernel_rfl) (fun _ _ _ h => h) (Or.inl ⟨by rfl, ?hy6⟩) HH.out ?rr6
        case hy6 => intro W hSw; go_simp; try with_reducible rfl
        try simp only [Act.put, List.setIfInBounds_toArray, List.set_cons_zero, List.set_cons_succ]
        refine wpAnyH_take (i := 6) (oi := ⟨some 48, .nilCheck (.tmp 47), _, _, _, _⟩) (v := ?vv7) rfl (by kernel_rfl) (by kernel_rfl) (by kernel_rfl) (fun _ _ _ h => h) (Or.inl ⟨by rfl, ?hy7⟩) HH.out ?rr7
        case hy7 => intro W hSw; go_simp; try with_reducible rfl
        try simp only [Act.put, List.setIfInBounds_toArray, List.set_cons_zero, List.set_cons_succ]
        refine wpAnyH_take (i := 7) (oi := ⟨some 49, .fieldAddr 84 (.tmp 48) 3, _, _, _, _⟩) (v := ?vv8) rfl (by kernel_rfl) (by kernel_rfl) (by kernel_rfl) (fun _ _ _ h => h) (Or.inl ⟨by rfl, ?hy8⟩) HH.out ?rr8
        case hy8 => intro W hSw; go_simp; try with_reducible rfl
        try simp only [Act.put, List.setIfInBounds_toArray, List.set_cons_zero, List.set_cons_succ]
        refine wpAnyH_take (i := 8) (oi := ⟨some 50, .load 82 (.tmp 49), _, _, _, _⟩) (v := ?vv9) rfl (by kernel_rfl) (by kernel_rfl) (by kernel_rfl) (fun _ _ _ h => h) (Or.inl ⟨by rfl, ?hy9⟩) HH.out ?rr9
        case hy9 => intro W hSw; have y := HX.out W hSw; go_simp; try with_reducible rfl
        try simp only [Act.put, List.setIfInBounds_toArray, List.set_cons_zero, List.set_cons_succ]
        refine wpAnyH_take (i := 9) (oi := ⟨some 51, .move (.tmp 8), _, _, _, _⟩) (v := ?vv10) rfl (by kernel_rfl) (by kernel_rfl) (by kernel_rfl) (fun _ _ _ h => h) (Or.inl ⟨by rfl, ?hy10⟩) HH.out ?rr10
        case hy10 => intro W hSw; go_simp; try with_reducible rfl
        try simp only [Act.put, List.setIfInBounds_toArray, List.set_cons_zero, List.set_cons_succ]
        refine wpAnyH_take (i := 11) (oi := ⟨some 53, .move (.tmp 5), _, _, _, _⟩) (v := ?vv11) rfl (by kernel_rfl) (by kernel_rfl) (by kernel_rfl) (fun _ _ _ h => h) (Or.inl ⟨by rfl, ?hy11⟩) HH.out ?rr11
        case hy11 => intro W hSw; go_simp; try with_reducible rfl
        try simp only [Act.put, List.setIfInBounds_toArray, List.set_cons_zero, List.set_cons_succ]
        have y5 := HLK.out w4.drew (HB2.out.mp.drew_)
        refine wpAnyH_ready (rs := [10, 12]) (by kernel_rfl) (by simp) ?_
        refine AllReadyH.cons (o := ⟨some 52, .lookup 82 (.tmp 50) (.tmp 51) false, _, _, _, _⟩) rfl (fun K hK => ?_) (AllReadyH.cons (o := ⟨some 54, .buildSlice 23 1 #[(0, .tmp 53)], _, _, _, _⟩) rfl (fun K hK => ?_) AllReadyH.nil)
        · go_simp
          refine hK.out _ _ HH.out (fun hHeld => ?_)
          clear hHeld hK K y5
          try simp only [Act.put, List.setIfInBounds_toArray, List.set_cons_zero, List.set_cons_succ]
          refine wpAnyH_ready (rs := [12]) (by kernel_rfl) (by simp) ?_
          refine AllReadyH.cons (o := ⟨some 54, .buildSlice 23 1 #[(0, .tmp 53)], _, _, _, _⟩) rfl (fun K hK => ?_) AllReadyH.nil
          go_simp
          refine hK.out _ _ (HH.out.alloc _) (fun hHeld => ?_)
          have HH := Lib.hid hHeld
          clear hHeld hK K
          try simp only [Act.put, List.setIfInBounds_toArray, List.set_cons_zero, List.set_cons_succ]
          refine wpAnyH_ready (rs := [13]) (by kernel_rfl) (by simp) ?_
          refine AllReadyH.cons (o := ⟨some 55, .call { callee := .builtin .append, args := #[.tmp 52, .tmp 54], argTypes := #[23, 23] }, _, _, _, _⟩) rfl (fun K hK => ?_) AllReadyH.nil
          refine step_append_lies _ rfl (.tmp 52) (.tmp 54) 23 rfl 0 3 i1 (.int .i64 0) 1 8 Tryz.underlying23 hi hz0 hz1 hz2 rfl (by decide) (.slice ta tn cp) tn (idVs tl) rfl (Row.alloc HOW.out.drew _) ⟨w4.heap.size, 0, none⟩ 1 1 [.int .i64 (i : Int)] rfl rfl (news1 (w := w4.drew)) (fun u hu => by simp at hu; subst hu; rfl) (by decide) (by unfold maxLen; omega) (by omega) (Nat.zero_le _) (w4.heap.size + 1) (by simp) ?_
          intro g6 cap6 w6 hr6 hg6 hw6 hl6
          have HG6 := Lib.hid hg6
          have HR6 := Lib.hid hr6
          have HV6 := Lib.hid (show (Value.slice (some ⟨g6, 0, none⟩) (tn + 1) cap6).ownBlock = (Value.slice ta tn cp).ownBlock ∨ ∃ b, (Value.slice (some ⟨g6, 0, none⟩) (tn + 1) cap6).ownBlock = some b ∧ w4.heap.size ≤ b by
            rcases hw6 with q | q
            · left; rw [q]; rfl
            · right; exact ⟨g6, rfl, by omega⟩)
          obtain ⟨w7, hrun7, hM7, hg7⟩ := (HMK.out w6 hg6).store (t := 82) (e := 23) Tryz.underlying5 Tryz.underlying82 (by unfold maxLen; omega) (show c.toNat < 256 by omega) (v := .slice (some ⟨g6, 0, none⟩) (tn + 1) cap6) rfl
          have HG7 := Lib.hid hg7
          have HZ7 := Lib.hid (HAF.out w6 w7 (.slice (some ⟨g6, 0, none⟩) (tn + 1) cap6) hr6 hg6 HV6.out hM7 hg7)
          clear hr6 hg6 hw6 hM7 hg7
          refine hK.out _ _ ((HH.out).grown HG6.out (fun b hb => .inl (.inl hb))) (fun hHeld => ?_)
          have HH := Lib.hid hHeld
          clear hHeld hK K
          try simp only [Act.put, List.setIfInBounds_toArray, List.set_cons_zero, List.set_cons_succ]
          refine wpAnyH_ready (rs := [14]) (by kernel_rfl) (by simp) ?_
          refine AllReadyH.cons (o := ⟨none, .mapUpdate 82 (.tmp 45) (.tmp 46) (.tmp 55), _, _, _, _⟩) rfl (fun K hK => ?_) AllReadyH.nil
          go_simp
          refine hK.out _ _ (HH.out.grown HG7.out (fun b hb => .inl (.inr (by injection hb with hb; exact hb.symm)))) (fun hHeld => ?_)
          have HH := Lib.hid hHeld
          clear hHeld hK K
          try simp only [Act.put, List.setIfInBounds_toArray, List.set_cons_zero, List.set_cons_succ]
          have HK7 := Lib.hid (show Pure' w w7 from HK2.out.trans (S := fun _ => False) HH.out (fun b hb e => by
            rcases e with e | e
            · have := HNB.out b e; omega
            · have := HB2.out.news.2.2.2; omega))
          refine wpAnyH_done (by kernel_rfl) ?_ _
          clear hrun7
          go_wp2_with fail
          go_roundg g3
          case measure => omega
          case rel => exact ⟨i + 1, R2, A2, T2, _, _, by omega, by go_num, HZ7, HGR2, HGT2, HGG2, HK7⟩
        · clear y5
          go_simp
          refine hK.out _ _ (HH.out.alloc _) (fun hHeld => ?_)
          have HH := Lib.hid hHeld
          clear hHeld hK K
          try simp only [Act.put, List.setIfInBounds_toArray, List.set_cons_zero, List.set_cons_succ]
          have y6 := HLK.out ((w4.alloc (.cells #[.int .i64 (i : Int)] 3)).drew) ((HB2.out.mp.alloc_ _).drew_)
          refine wpAnyH_ready (rs := [10]) (by kernel_rfl) (by simp) ?_
          refine AllReadyH.cons (o := ⟨some 52, .lookup 82 (.tmp 50) (.tmp 51) false, _, _, _, _⟩) rfl (fun K hK => ?_) AllReadyH.nil
          go_simp
          refine hK.out _ _ (HH.out) (fun hHeld => ?_)
          have HH := Lib.hid hHeld
          clear hHeld hK K
          try simp only [Act.put, List.setIfInBounds_toArray, List.set_cons_zero, List.set_cons_succ]
          clear y6
          refine wpAnyH_ready (rs := [13]) (by kernel_rfl) (by simp) ?_
          refine AllReadyH.cons (o := ⟨some 55, .call { callee := .builtin .append, args := #[.tmp 52, .tmp 54], argTypes := #[23, 23] }, _, _, _, _⟩) rfl (fun K hK => ?_) AllReadyH.nil
          refine step_append_lies _ rfl (.tmp 52) (.tmp 54) 23 rfl 0 3 i1 (.int .i64 0) 1 8 Tryz.underlying23 hi hz0 hz1 hz2 rfl (by decide) (.slice ta tn cp) tn (idVs tl) rfl (Row.alloc HOW.out.drew _) ⟨w4.heap.size, 0, none⟩ 1 1 [.int .i64 (i : Int)] rfl rfl (news1 (w := w4.drew)) (fun u hu => by simp at hu; subst hu; rfl) (by decide) (by unfold maxLen; omega) (by omega) (Nat.zero_le _) (w4.heap.size + 1) (by simp) ?_
          intro g6 cap6 w6 hr6 hg6 hw6 hl6
          have HG6 := Lib.hid hg6
          have HR6 := Lib.hid hr6
          have HV6 := Lib.hid (show (Value.slice (some ⟨g6, 0, none⟩) (tn + 1) cap6).ownBlock = (Value.slice ta tn cp).ownBlock ∨ ∃ b, (Value.slice (some ⟨g6, 0, none⟩) (tn + 1) cap6).ownBlock = some b ∧ w4.heap.size ≤ b by
            rcases hw6 with q | q
            · left; rw [q]; rfl
            · right; exact ⟨g6, rfl, by omega⟩)
          obtain ⟨w7, hrun7, hM7, hg7⟩ := (HMK.out w6 hg6).store (t := 82) (e := 23) Tryz.underlying5 Tryz.underlying82 (by unfold maxLen; omega) (show c.toNat < 256 by omega) (v := .slice (some ⟨g6, 0, none⟩) (tn + 1) cap6) rfl
          have HG7 := Lib.hid hg7
          have HZ7 := Lib.hid (HAF.out w6 w7 (.slice (some ⟨g6, 0, none⟩) (tn + 1) cap6) hr6 hg6 HV6.out hM7 hg7)
          clear hr6 hg6 hw6 hM7 hg7
          refine hK.out _ _ ((HH.out).grown HG6.out (fun b hb => .inl (.inl hb))) (fun hHeld => ?_)
          have HH := Lib.hid hHeld
          clear hHeld hK K
          try simp only [Act.put, List.setIfInBounds_toArray, List.set_cons_zero, List.set_cons_succ]
          refine wpAnyH_ready (rs := [14]) (by kernel_rfl) (by simp) ?_
          refine AllReadyH.cons (o := ⟨none, .mapUpdate 82 (.tmp 45) (.tmp 46) (.tmp 55), _, _, _, _⟩) rfl (fun K hK => ?_) AllReadyH.nil
          go_simp
          refine hK.out _ _ (HH.out.grown HG7.out (fun b hb => .inl (.inr (by injection hb with hb; exact hb.symm)))) (fun hHeld => ?_)
          have HH := Lib.hid hHeld
          clear hHeld hK K
          try simp only [Act.put, List.setIfInBounds_toArray, List.set_cons_zero, List.set_cons_succ]
          have HK7 := Lib.hid (show Pure' w w7 from HK2.out.trans (S := fun _ => False) HH.out (fun b hb e => by
            rcases e with e | e
            · have := HNB.out b e; omega
            · have := HB2.out.news.2.2.2; omega))
          refine wpAnyH_done (by kernel_rfl) ?_ _
          clear hrun7
          go_wp2_with fail
          go_roundg g3
          case measure => omega
          case rel => exact ⟨i + 1, R2, A2, T2, _, _, by omega, by go_num, HZ7, HGR2, HGT2, HGG2, HK7⟩
        -- R9END
end Go.Proofs.YtkbdfnmeomkpjaaGreat
