/- A sparse table made; no condition but the sizes. -/
import Derived.Test.YtkbdfnmeomkpjaaGreatSprC
namespace Go.Proofs.YtkbdfnmeomkpjaaGreat
open Go.RowKit
set_option linter.unusedVariables false
set_option linter.unusedSimpArgs false
set_option maxRecDepth 100000

/-- A sparse table in the making. -/
structure SpS (w : World) (H g bb fb n : Nat) (C : List SCell) (A : Option Addr) (cc : Nat) (bf ff : Nat → Nat) : Prop where
  sc : ScA w g C A cc (.slice (some ⟨bb, 0, none⟩) n n) (.slice (some ⟨fb, 0, none⟩) n n)
  own : SOwn H g A C.length cc
  ba : Blk w bb 3 (numV bf n)
  fa : Blk w fb 3 (numV ff n)
  ne : bb ≠ fb
  hb : H ≤ bb
  hf : H ≤ fb
theorem SpS.pure {w w' : World} {H g bb fb n : Nat} {C : List SCell} {A : Option Addr} {cc : Nat} {bf ff : Nat → Nat} (h : SpS w H g bb fb n C A cc bf ff) (hk : Pure' w w') : SpS w' H g bb fb n C A cc bf ff :=
  ⟨h.sc.pure hk, h.own, h.ba.keep hk (fun hf => hf), h.fa.keep hk (fun hf => hf), h.ne, h.hb, h.hf⟩
theorem ScA.off {w : World} {g : Nat} {C : List SCell} {A : Option Addr} {cc : Nat} {bv fv : Value} (h : ScA w g C A cc bv fv) {k : Nat} {cs : Array Value} (hk : Blk w k 3 cs) (i : Nat) (u : Value) : ScA (w.setCell ⟨k, i, none⟩ u) g C A cc bv fv :=
  ⟨h.box.off (h.box.differ hk (by decide)), h.row.off (fun e => h.row.blk_ne hk (by decide) e)⟩
theorem SpS.setB {w : World} {H g bb fb n : Nat} {C : List SCell} {A : Option Addr} {cc : Nat} {bf ff : Nat → Nat} (h : SpS w H g bb fb n C A cc bf ff) {i : Nat} (hi : i < n) (x : Nat) : SpS (w.setCell ⟨bb, i, none⟩ (.int .i64 (x : Int))) H g bb fb n C A cc (updN bf i x) ff := by
  have hb := h.ba.set_ i (.int .i64 (x : Int))
  rw [numV_set bf n i x hi] at hb
  exact ⟨h.sc.off h.ba i _, h.own, hb, h.fa.off (Ne.symm h.ne), h.ne, h.hb, h.hf⟩
theorem SpS.setF {w : World} {H g bb fb n : Nat} {C : List SCell} {A : Option Addr} {cc : Nat} {bf ff : Nat → Nat} (h : SpS w H g bb fb n C A cc bf ff) {i : Nat} (hi : i < n) (x : Nat) : SpS (w.setCell ⟨fb, i, none⟩ (.int .i64 (x : Int))) H g bb fb n C A cc bf (updN ff i x) := by
  have hb := h.fa.set_ i (.int .i64 (x : Int))
  rw [numV_set ff n i x hi] at hb
  exact ⟨h.sc.off h.fa i _, h.own, h.ba.off h.ne, hb, h.ne, h.hb, h.hf⟩
/-- A sparse table of a set. -/
structure SpI (w : World) (g : Nat) (l : List (List UInt8)) : Prop where
  ex : ∃ (H bb fb : Nat) (C : List SCell) (A : Option Addr) (cc : Nat) (bf ff : Nat → Nat), SpS w H g bb fb (statesL l).length C A cc bf ff ∧ SInv l (statesL l).length C bf ∧ FfOk l (statesL l).length ff ∧ (∀ i, i < (statesL l).length → bf i ≤ 100000)
  sts : Sts l (statesL l)
  few : (statesL l).length ≤ 241
theorem SpI.pure {w w' : World} {g : Nat} {l : List (List UInt8)} (h : SpI w g l) (hk : Pure' w w') : SpI w' g l := by
  obtain ⟨H, bb, fb, C, A, cc, bf, ff, h1, h2⟩ := h.ex
  exact ⟨⟨H, bb, fb, C, A, cc, bf, ff, h1.pure hk, h2⟩, h.sts, h.few⟩
def NewSprPost (l : List (List UInt8)) (w : World) (e : Ending) (w' : World) : Prop := ∃ g : Nat, e = .returned (.pointer (some ⟨g, 0, none⟩)) ∧ SpI w' g l ∧ w.heap.size ≤ g ∧ Pure' w w'
theorem SpS.made {w : World} {n bb fb : Nat} {ZS : Array Value} (hZ : numV (fun _ => 0) n = ZS) (h : (bb = w.heap.size ∧ fb = w.heap.size + 1) ∨ (bb = w.heap.size + 1 ∧ fb = w.heap.size)) :
    SpS (((w.alloc (.cells ZS 3)).alloc (.cells ZS 3)).alloc (.cells #[.slice none 0 0, .slice (some ⟨bb, 0, none⟩) n n, .slice (some ⟨fb, 0, none⟩) n n] 176)).drew w.heap.size (w.heap.size + 1 + 1) bb fb n [] none 0 (fun _ => 0) (fun _ => 0) := by
  subst hZ
  refine ⟨⟨(Blk.newAt (by simp)).drew, Row.nil _ _ _⟩, ⟨by omega, fun b hb => by simp [Value.ownBlock] at hb⟩, ?_, ?_, by omega, by omega, by omega⟩
  · rcases h with ⟨e, _⟩ | ⟨e, _⟩
    · subst e; exact (((Blk.new w _ _).alloc _).alloc _).drew
    · subst e; exact ((Blk.newAt (by simp)).alloc _).drew
  · rcases h with ⟨_, e⟩ | ⟨_, e⟩
    · subst e; exact ((Blk.newAt (by simp)).alloc _).drew
    · subst e; exact (((Blk.new w _ _).alloc _).alloc _).drew
theorem empty_is {ks : List UInt8} (h : ks ≠ []) : ks.isEmpty = false := by
  cases ks with
  | nil => exact absurd rfl h
  | cons a r => rfl

set_option maxHeartbeats 8000000 in
theorem newSpr_ (x : Option Addr) (lp : List ByteArray) (w : World) (h : SetP w x lp) (hn : lp.length ≤ 12) (hll : ∀ y ∈ bl lp, y.length ≤ 20) (hl : (bl lp).Pairwise (· < ·)) (hne : ∀ y ∈ bl lp, y ≠ []) :
    Calls Tryz.prog 94 #[.pointer x] w fun e w' => NewSprPost (bl lp) w e w' := by
  have HLK := Lib.hid (newLink_ x lp w h hn hll hl hne)
  clear h hl hne
  obtain ⟨l, hbl⟩ : ∃ l, bl lp = l := ⟨_, rfl⟩
  rw [hbl] at HLK hll ⊢
  clear hbl hn hll
  go_enter Tryz.func94, Tryz.ntmps94
  go_wp2_with fail
  refine HLK.out.mono ?_
  rintro e w2 ⟨lg, tg, b, cap, fb0, ob, S, F, O, rfl, hlk, hf, ho, hlg, hk⟩
  have HLI := Lib.hid (show LkI w2 lg tg b cap fb0 ob l S F O from ⟨hlk, hf, ho⟩)
  have HK2 := Lib.hid hk
  have HST := Lib.hid hlk.ti.sts
  have hfew := hlk.ti.few
  have hnl := HLI.out.len
  clear hlk hf ho hk HLK hlg
  obtain ⟨n, hn⟩ : ∃ n, S.length = n := ⟨_, rfl⟩
  have HN := Lib.hid hn
  rw [hn] at hfew hnl
  have HNL := Lib.hid hnl
  clear hn hnl
  have HTR := Lib.hid (fun (X : World) (hX : Pure' w2 X) => ltrie_ lg tg b cap fb0 ob l S F O X (HLI.out.pure hX).lk)
  have HLEN := Lib.hid (fun (X : World) (hX : Pure' w2 X) => tlen_ tg b cap S.length X (HLI.out.pure hX).lk.ti.tr.box)
  rw [HN.out] at HLEN
  go_wp2_with fail
  refine (HTR.out _ (Keeps.refl _ _)).mono ?_
  rintro e w4 ⟨rfl, rfl⟩
  go_wp2_with fail
  refine (HLEN.out _ (Keeps.refl _ _)).mono ?_
  rintro e w5 ⟨rfl, rfl⟩
  have hmk := made_ n (by omega)
  rw [numV_zero] at hmk
  generalize hT0 : numV (fun _ => 0) n = T0 at hmk
  have HT0 := Lib.hid hT0
  clear hT0
  have hsz : w5.heap.size = w5.heap.size := rfl
  go_upto_region 3 with fail
  go_cut [5] (fun v5 wx => ∃ (g bb fb : Nat), v5 = .pointer (some ⟨g, 0, none⟩) ∧ w5.heap.size ≤ g ∧ RowKit.Hid (SpS wx w5.heap.size g bb fb n [] none 0 (fun _ => 0) (fun _ => 0)) ∧ RowKit.Hid (Pure' w5 wx))
  case first =>
    go_region
    all_goals
      go_wp2_with fail
      go_meet
      first
        | exact ⟨_, _, _, rfl, by omega, Lib.hid (SpS.made HT0.out (.inl ⟨rfl, rfl⟩)), Lib.hid (by (repeat (first | exact Keeps.refl _ _ | refine Keeps.drew ?_ | refine Keeps.alloc ?_ _ | refine Keeps.drewN ?_ _)))⟩
        | exact ⟨_, _, _, rfl, by omega, Lib.hid (SpS.made HT0.out (.inr ⟨rfl, rfl⟩)), Lib.hid (by (repeat (first | exact Keeps.refl _ _ | refine Keeps.drew ?_ | refine Keeps.alloc ?_ _ | refine Keeps.drewN ?_ _)))⟩
  case rest =>
    obtain ⟨g, bb, fb, rfl, hgH, HS0, HK0⟩ := hcut
    obtain ⟨H, hH⟩ : ∃ H, w5.heap.size = H := ⟨_, rfl⟩
    have HHH := Lib.hid hH
    rw [hH] at HS0 hgH
    clear hmk HT0 hsz hH
    go_wp2
    go_loopg [6, 24] n (fun gh v6 v24 wr => ∃ (s fr : Nat) (C : List SCell) (A : Option Addr) (cc : Nat) (bf ff : Nat → Nat), s + gh = n ∧ v24 = .int .i64 (s : Int) ∧ v6 = .int .i64 (fr : Int) ∧ fr ≤ C.length ∧ RowKit.Hid (SpS wr H g bb fb n C A cc bf ff) ∧ RowKit.Hid (SInv l s C bf) ∧ RowKit.Hid (FfOk l s ff) ∧ RowKit.Hid (∀ i, bf i ≤ 100000) ∧ RowKit.Hid (Pure' w5 wr))
    case atStart => exact ⟨0, 0, [], none, 0, _, _, by omega, rfl, rfl, Nat.le_refl _, HS0, Lib.hid (SInv.start l _), Lib.hid (fun s p hs => by omega), Lib.hid (fun _ => Nat.zero_le _), HK0⟩
    case round =>
      obtain ⟨s, fr, C, A, cc, bf, ff, hsg, rfl, rfl, hfr, HSP, HSI, HFF, HBB, HKW⟩ := hrel
      clear HS0 HK0
      cases gk with
      | zero =>
        obtain rfl : s = n := by omega
        go_wp2
        go_ret
        refine ⟨g, rfl, ⟨⟨H, bb, fb, C, A, cc, bf, ff, by rw [← HNL.out]; exact HSP.out, by rw [← HNL.out]; exact HSI.out, by rw [← HNL.out]; exact HFF.out, fun i _ => HBB.out i⟩, HST.out, by rw [← HNL.out]; exact hfew⟩, by have := HHH.out; have := HK2.out.size; omega, HK2.out.trans HKW.out (fun _ _ hf => hf)⟩
      | succ g3 =>
        have hsn : s < n := by omega
        have hsi : (s : Int) < (n : Int) := by omega
        obtain ⟨p, hp⟩ : ∃ p, (statesL l)[s]? = some p := ⟨_, List.getElem?_eq_getElem (by rw [← HNL.out]; exact hsn)⟩
        have HP := Lib.hid hp
        obtain ⟨fl, hfl⟩ : ∃ fl, lsuf (statesL l) p.tail = fl := ⟨_, rfl⟩
        have hfa := fun (X : World) (hX : Pure' w5 X) => fail_ lg tg b cap fb0 ob l S F O s p X (HLI.out.pure hX) hp
        rw [hfl] at hfa
        have HFA := Lib.hid hfa
        have HFF1 := Lib.hid (show FfOk l (s + 1) (updN ff s fl) by rw [← hfl]; exact HFF.out.step hp)
        clear hp hfa hfl
        have HC2 := Lib.hid (fun (X : World) (hX : Keeps (fun b => b = fb) wr X) => show X.cell? ⟨g, 2, none⟩ = some (.slice (some ⟨fb, 0, none⟩) n n) by
          rw [(HSP.out.sc.box.keep hX (HSP.out.sc.box.differ HSP.out.fa (by decide))).cell]; rfl)
        have HCF := Lib.hid (fun (X : World) (hX : Pure' wr X) => show X.cell? ⟨fb, s, none⟩ = some (.int .i64 (ff s : Int)) by rw [(HSP.out.fa.keep hX (fun hf => hf)).cell, numV_at ff hsn])
        have HFZ := Lib.hid (fun (X : World) (hX : Pure' wr X) => (HSP.out.fa.keep hX (fun hf => hf)).frozen s)
        go_upto_region 8 with fail
        refine wp_region_held_drew (S := (fun X => Keeps (fun b => b = fb) wr X)) (by kernel_rfl) ((Keeps.refl _ wr).drew) (fun hHeld => ?_)
        have HH := Lib.hid hHeld
        clear hHeld
        have HHP := Lib.hid ((Keeps.refl (fun _ => False) wr).drew)
        refine wpAnyH_take (i := 0) (oi := ⟨some 27, .move (.tmp 5), _, _, _, _⟩) (v := ?vv1) rfl (by kernel_rfl) (by kernel_rfl) (by kernel_rfl) (fun _ _ _ h => h) (Or.inl ⟨by rfl, ?hy1⟩) HH.out ?rr1
        case hy1 => intro W hSw; go_simp; try with_reducible rfl
        try simp only [Act.put, List.setIfInBounds_toArray, List.set_cons_zero, List.set_cons_succ]
        refine wpAnyH_take (i := 1) (oi := ⟨some 28, .nilCheck (.tmp 27), _, _, _, _⟩) (v := ?vv2) rfl (by kernel_rfl) (by kernel_rfl) (by kernel_rfl) (fun _ _ _ h => h) (Or.inl ⟨by rfl, ?hy2⟩) HH.out ?rr2
        case hy2 => intro W hSw; go_simp; try with_reducible rfl
        try simp only [Act.put, List.setIfInBounds_toArray, List.set_cons_zero, List.set_cons_succ]
        refine wpAnyH_take (i := 2) (oi := ⟨some 29, .fieldAddr 176 (.tmp 28) 2, _, _, _, _⟩) (v := ?vv3) rfl (by kernel_rfl) (by kernel_rfl) (by kernel_rfl) (fun _ _ _ h => h) (Or.inl ⟨by rfl, ?hy3⟩) HH.out ?rr3
        case hy3 => intro W hSw; go_simp; try with_reducible rfl
        try simp only [Act.put, List.setIfInBounds_toArray, List.set_cons_zero, List.set_cons_succ]
        refine wpAnyH_take (i := 3) (oi := ⟨some 30, .load 23 (.tmp 29), _, _, _, _⟩) (v := ?vv4) rfl (by kernel_rfl) (by kernel_rfl) (by kernel_rfl) (fun _ _ _ h => h) (Or.inl ⟨by rfl, ?hy4⟩) HH.out ?rr4
        case hy4 => intro W hSw; have y := HC2.out W hSw; go_simp; try with_reducible rfl
        try simp only [Act.put, List.setIfInBounds_toArray, List.set_cons_zero, List.set_cons_succ]
        refine wpAnyH_take (i := 4) (oi := ⟨some 31, .move (.tmp 7), _, _, _, _⟩) (v := ?vv5) rfl (by kernel_rfl) (by kernel_rfl) (by kernel_rfl) (fun _ _ _ h => h) (Or.inl ⟨by rfl, ?hy5⟩) HH.out ?rr5
        case hy5 => intro W hSw; go_simp; try with_reducible rfl
        try simp only [Act.put, List.setIfInBounds_toArray, List.set_cons_zero, List.set_cons_succ]
        refine wpAnyH_take (i := 5) (oi := ⟨some 32, .move (.tmp 3), _, _, _, _⟩) (v := ?vv6) rfl (by kernel_rfl) (by kernel_rfl) (by kernel_rfl) (fun _ _ _ h => h) (Or.inl ⟨by rfl, ?hy6⟩) HH.out ?rr6
        case hy6 => intro W hSw; go_simp; try with_reducible rfl
        try simp only [Act.put, List.setIfInBounds_toArray, List.set_cons_zero, List.set_cons_succ]
        refine wpAnyH_take (i := 6) (oi := ⟨some 33, .move (.tmp 7), _, _, _, _⟩) (v := ?vv7) rfl (by kernel_rfl) (by kernel_rfl) (by kernel_rfl) (fun _ _ _ h => h) (Or.inl ⟨by rfl, ?hy7⟩) HH.out ?rr7
        case hy7 => intro W hSw; go_simp; try with_reducible rfl
        try simp only [Act.put, List.setIfInBounds_toArray, List.set_cons_zero, List.set_cons_succ]
        refine wpAnyH_ready (rs := [7]) (by kernel_rfl) (by simp) ?_
        refine AllReadyH.cons (o := ⟨some 34, .call { callee := .value (.func 128), args := #[.tmp 32, .tmp 33], argTypes := #[131, 3] }, _, _, _, _⟩) rfl (fun K hK => ?_) AllReadyH.nil
        go_simp
        go_at_call 128
        refine (HFA.out _ (HKW.out.trans HHP.out (fun _ _ hf => hf))).mono ?_
        rintro e wB ⟨rfl, rfl⟩
        go_wp2_with fail
        refine hK.out _ _ (HH.out) (fun hHeld => ?_)
        have HH := Lib.hid hHeld
        clear hHeld hK K
        try simp only [Act.put, List.setIfInBounds_toArray, List.set_cons_zero, List.set_cons_succ]
        refine wpAnyH_take (i := 8) (oi := ⟨some 35, .indexAddr 23 (.tmp 30) (.tmp 31), _, _, _, _⟩) (v := ?vv8) rfl (by kernel_rfl) (by kernel_rfl) (by kernel_rfl) (fun _ _ _ h => h) (Or.inl ⟨by rfl, ?hy8⟩) HH.out ?rr8
        case hy8 => intro W hSw; go_simp; try with_reducible rfl
        try simp only [Act.put, List.setIfInBounds_toArray, List.set_cons_zero, List.set_cons_succ]
        refine wpAnyH_ready (rs := [9]) (by kernel_rfl) (by simp) ?_
        refine AllReadyH.cons (o := ⟨none, .store 3 (.tmp 35) (.tmp 34), _, _, _, _⟩) rfl (fun K hK => ?_) AllReadyH.nil
        go_simp
        have y := HCF.out _ (Keeps.refl _ wr)
        have y2 := HFZ.out _ (Keeps.refl _ wr)
        go_simp
        refine hK.out _ _ (HH.out.setCell (p := ⟨fb, s, none⟩) (.inl rfl) _) (fun hHeld => ?_)
        have HH := Lib.hid hHeld
        clear hHeld hK K
        try simp only [Act.put, List.setIfInBounds_toArray, List.set_cons_zero, List.set_cons_succ]
        refine wpAnyH_done (by kernel_rfl) ?_ _
        have HSP2 := Lib.hid (show SpS ((wr.setCell ⟨fb, s, none⟩ (.int .i64 (fl : Int))).drew) H g bb fb n C A cc bf (updN ff s fl) from (HSP.out.setF hsn fl).pure ((Keeps.refl (fun _ => False) _).drew))
        have HKX := Lib.hid (show Pure' w5 ((wr.setCell ⟨fb, s, none⟩ (.int .i64 (fl : Int))).drew) from (HKW.out.setCell (p := ⟨fb, s, none⟩) (.inr (by have := HHH.out; have := HSP.out.hf; show w5.heap.size ≤ fb; omega)) (.int .i64 (fl : Int))).drew)
        clear HH HHP HC2 HCF HFZ
        generalize (wr.setCell ⟨fb, s, none⟩ (.int .i64 (fl : Int))).drew = wa at *
        go_wp2_with fail
        refine (HTR.out _ HKX.out).mono ?_
        rintro e wb ⟨rfl, rfl⟩
        go_wp2_with fail
        refine (tbytes_ tg b cap l S s p _ (HLI.out.pure HKX.out).lk.ti HP.out).mono ?_
        rintro e wc ⟨ks, rfl, hk1, hk2, hk3, hkp⟩
        have HK1 := Lib.hid hk1
        have HND := Lib.hid hk2
        have HKc := Lib.hid (HKX.out.trans hkp (fun _ _ hf => hf))
        have HSPc := Lib.hid (HSP2.out.pure hkp)
        clear hk1 hk2 hkp
        by_cases hke : ks = []
        · subst hke
          have HSI1 := Lib.hid (HSI.out.skip HP.out (fun c hc => by have := (HK1.out c).2 hc; simp at this))
          go_wp2
          go_roundg g3
          case measure => omega
          case rel => exact ⟨s + 1, fr, C, A, cc, bf, _, by omega, by go_num, rfl, hfr, HSPc, HSI1, HFF1, HBB, HKc⟩
        have hem := empty_is hke
        have hClen : C.length ≤ s * 256 := HSI.out.len
        have hCb : C.length ≤ 61696 := by omega
        have HFI := Lib.hid (fun (X : World) (hX : Pure' wc X) => sfits_ g C A cc (.slice (some ⟨bb, 0, none⟩) n n) (.slice (some ⟨fb, 0, none⟩) n n) ks fr X (HSPc.out.pure hX).sc hke (by omega) hfr (by omega) (fun x hx => by have := HSI.out.le x hx; omega))
        have HC1 := Lib.hid (fun (X : World) (hX : Keeps (fun b => b = bb) wc X) => show X.cell? ⟨g, 1, none⟩ = some (.slice (some ⟨bb, 0, none⟩) n n) by
          rw [(HSPc.out.sc.box.keep hX (HSPc.out.sc.box.differ HSPc.out.ba (by decide))).cell]; rfl)
        have HCB := Lib.hid (fun (X : World) (hX : Pure' wc X) => show X.cell? ⟨bb, s, none⟩ = some (.int .i64 (bf s : Int)) by rw [(HSPc.out.ba.keep hX (fun hf => hf)).cell, numV_at bf hsn])
        have HBZ := Lib.hid (fun (X : World) (hX : Pure' wc X) => (HSPc.out.ba.keep hX (fun hf => hf)).frozen s)
        go_upto_region 11 with fail
        clear hem
        have HKE := Lib.hid hke
        clear hke
        refine wp_region_held_drew (S := (fun X => Keeps (fun b => b = bb) wc X)) (by kernel_rfl) ((Keeps.refl _ wc).drew) (fun hHeld => ?_)
        have HH := Lib.hid hHeld
        clear hHeld
        have HHP := Lib.hid ((Keeps.refl (fun _ => False) wc).drew)
        refine wpAnyH_take (i := 0) (oi := ⟨some 42, .move (.tmp 5), _, _, _, _⟩) (v := ?vv9) rfl (by kernel_rfl) (by kernel_rfl) (by kernel_rfl) (fun _ _ _ h => h) (Or.inl ⟨by rfl, ?hy9⟩) HH.out ?rr9
        case hy9 => intro W hSw; go_simp; try with_reducible rfl
        try simp only [Act.put, List.setIfInBounds_toArray, List.set_cons_zero, List.set_cons_succ]
        refine wpAnyH_take (i := 1) (oi := ⟨some 43, .nilCheck (.tmp 42), _, _, _, _⟩) (v := ?vv10) rfl (by kernel_rfl) (by kernel_rfl) (by kernel_rfl) (fun _ _ _ h => h) (Or.inl ⟨by rfl, ?hy10⟩) HH.out ?rr10
        case hy10 => intro W hSw; go_simp; try with_reducible rfl
        try simp only [Act.put, List.setIfInBounds_toArray, List.set_cons_zero, List.set_cons_succ]
        refine wpAnyH_take (i := 2) (oi := ⟨some 44, .fieldAddr 176 (.tmp 43) 1, _, _, _, _⟩) (v := ?vv11) rfl (by kernel_rfl) (by kernel_rfl) (by kernel_rfl) (fun _ _ _ h => h) (Or.inl ⟨by rfl, ?hy11⟩) HH.out ?rr11
        case hy11 => intro W hSw; go_simp; try with_reducible rfl
        try simp only [Act.put, List.setIfInBounds_toArray, List.set_cons_zero, List.set_cons_succ]
        refine wpAnyH_take (i := 3) (oi := ⟨some 45, .load 23 (.tmp 44), _, _, _, _⟩) (v := ?vv12) rfl (by kernel_rfl) (by kernel_rfl) (by kernel_rfl) (fun _ _ _ h => h) (Or.inl ⟨by rfl, ?hy12⟩) HH.out ?rr12
        case hy12 => intro W hSw; have y := HC1.out W hSw; go_simp; try with_reducible rfl
        try simp only [Act.put, List.setIfInBounds_toArray, List.set_cons_zero, List.set_cons_succ]
        refine wpAnyH_take (i := 4) (oi := ⟨some 46, .move (.tmp 7), _, _, _, _⟩) (v := ?vv13) rfl (by kernel_rfl) (by kernel_rfl) (by kernel_rfl) (fun _ _ _ h => h) (Or.inl ⟨by rfl, ?hy13⟩) HH.out ?rr13
        case hy13 => intro W hSw; go_simp; try with_reducible rfl
        try simp only [Act.put, List.setIfInBounds_toArray, List.set_cons_zero, List.set_cons_succ]
        refine wpAnyH_take (i := 5) (oi := ⟨some 47, .move (.tmp 5), _, _, _, _⟩) (v := ?vv14) rfl (by kernel_rfl) (by kernel_rfl) (by kernel_rfl) (fun _ _ _ h => h) (Or.inl ⟨by rfl, ?hy14⟩) HH.out ?rr14
        case hy14 => intro W hSw; go_simp; try with_reducible rfl
        try simp only [Act.put, List.setIfInBounds_toArray, List.set_cons_zero, List.set_cons_succ]
        refine wpAnyH_take (i := 6) (oi := ⟨some 48, .move (.tmp 8), _, _, _, _⟩) (v := ?vv15) rfl (by kernel_rfl) (by kernel_rfl) (by kernel_rfl) (fun _ _ _ h => h) (Or.inl ⟨by rfl, ?hy15⟩) HH.out ?rr15
        case hy15 => intro W hSw; go_simp; try with_reducible rfl
        try simp only [Act.put, List.setIfInBounds_toArray, List.set_cons_zero, List.set_cons_succ]
        refine wpAnyH_take (i := 7) (oi := ⟨some 49, .move (.tmp 6), _, _, _, _⟩) (v := ?vv16) rfl (by kernel_rfl) (by kernel_rfl) (by kernel_rfl) (fun _ _ _ h => h) (Or.inl ⟨by rfl, ?hy16⟩) HH.out ?rr16
        case hy16 => intro W hSw; go_simp; try with_reducible rfl
        try simp only [Act.put, List.setIfInBounds_toArray, List.set_cons_zero, List.set_cons_succ]
        refine wpAnyH_ready (rs := [8]) (by kernel_rfl) (by simp) ?_
        refine AllReadyH.cons (o := ⟨some 50, .call { callee := .value (.func 132), args := #[.tmp 47, .tmp 48, .tmp 49], argTypes := #[134, 9, 3] }, _, _, _, _⟩) rfl (fun K hK => ?_) AllReadyH.nil
        go_simp
        go_at_call 132
        refine (HFI.out _ HHP.out).mono ?_
        rintro e wB ⟨⟨a, rfl, han, hfree⟩, rfl⟩
        have HFREE := Lib.hid hfree
        clear hfree
        go_wp2_with fail
        refine hK.out _ _ (HH.out) (fun hHeld => ?_)
        have HH := Lib.hid hHeld
        clear hHeld hK K
        try simp only [Act.put, List.setIfInBounds_toArray, List.set_cons_zero, List.set_cons_succ]
        refine wpAnyH_take (i := 9) (oi := ⟨some 51, .indexAddr 23 (.tmp 45) (.tmp 46), _, _, _, _⟩) (v := ?vv17) rfl (by kernel_rfl) (by kernel_rfl) (by kernel_rfl) (fun _ _ _ h => h) (Or.inl ⟨by rfl, ?hy17⟩) HH.out ?rr17
        case hy17 => intro W hSw; go_simp; try with_reducible rfl
        try simp only [Act.put, List.setIfInBounds_toArray, List.set_cons_zero, List.set_cons_succ]
        refine wpAnyH_ready (rs := [10]) (by kernel_rfl) (by simp) ?_
        refine AllReadyH.cons (o := ⟨none, .store 3 (.tmp 51) (.tmp 50), _, _, _, _⟩) rfl (fun K hK => ?_) AllReadyH.nil
        go_simp
        have y := HCB.out _ (Keeps.refl _ wc)
        have y2 := HBZ.out _ (Keeps.refl _ wc)
        go_simp
        refine hK.out _ _ (HH.out.setCell (p := ⟨bb, s, none⟩) (.inl rfl) _) (fun hHeld => ?_)
        have HH := Lib.hid hHeld
        clear hHeld hK K
        try simp only [Act.put, List.setIfInBounds_toArray, List.set_cons_zero, List.set_cons_succ]
        refine wpAnyH_done (by kernel_rfl) ?_ _
        have HSP3 := Lib.hid (show SpS ((wc.setCell ⟨bb, s, none⟩ (.int .i64 (a : Int))).drew) H g bb fb n C A cc (updN bf s a) (updN ff s fl) from (HSPc.out.setB hsn a).pure ((Keeps.refl (fun _ => False) _).drew))
        have HKY := Lib.hid (show Pure' w5 ((wc.setCell ⟨bb, s, none⟩ (.int .i64 (a : Int))).drew) from (HKc.out.setCell (p := ⟨bb, s, none⟩) (.inr (by have := HHH.out; have := HSPc.out.hb; show w5.heap.size ≤ bb; omega)) (.int .i64 (a : Int))).drew)
        have HMI := Lib.hid (HSI.out.mid p HFREE.out han)
        clear HH HHP HC1 HCB HBZ HFREE HFI HSPc HKc
        generalize (wc.setCell ⟨bb, s, none⟩ (.int .i64 (a : Int))).drew = wd at *
        have hbk : (⟨ks.toArray⟩ : ByteArray).size = ks.length := Lib.size_eq _
        obtain ⟨m, hm⟩ : ∃ m, ks.length = m := ⟨_, rfl⟩
        have HM := Lib.hid hm
        rw [hm] at hk3 hbk
        clear hm
        go_wp2
        go_loopg [54] m (fun gh v54 wz => ∃ (i : Nat) (C : List SCell) (A : Option Addr) (cc : Nat), i + gh = m ∧ v54 = .int .i64 (i : Int) ∧ fr ≤ C.length ∧ RowKit.Hid (SpS wz H g bb fb n C A cc (updN bf s a) (updN ff s fl)) ∧ RowKit.Hid (SMid l s C bf p a ks (ks.take i)) ∧ RowKit.Hid (Pure' w5 wz))
        case atStart => exact ⟨0, C, A, cc, by omega, rfl, hfr, HSP3, by rw [List.take_zero]; exact HMI, HKY⟩
        case round =>
          obtain ⟨i, C, A, cc, hig, rfl, hfr, HSP, HMI, HKZ⟩ := hrel
          cases gk with
          | zero =>
            obtain rfl : i = m := by omega
            have HSI1 := Lib.hid (show SInv l (s + 1) C (updN bf s a) from (show SMid l s C bf p a ks ks by have := HMI.out; rwa [List.take_of_length_le (by rw [HM.out]; exact Nat.le_refl _)] at this).done HP.out HK1.out)
            have HBB1 := Lib.hid (show ∀ j, updN bf s a j ≤ 100000 from fun j => by unfold updN; split; omega; exact HBB.out j)
            have hCl := HSI1.out.len
            obtain ⟨nC, hnC⟩ : ∃ n, C.length = n := ⟨_, rfl⟩
            have HNC := Lib.hid hnC
            have hnCb : nC ≤ 100000 := by omega
            have x0 := HSP.out.sc.box.cell 0
            rw [hnC] at hfr x0
            clear hnC hCl
            have HCE := Lib.hid (fun (k : Nat) (hk : k < nC) => show ∃ (b : Nat) (y : SCell), A = some ⟨b, 0, none⟩ ∧ C[k]? = some y ∧ wr.cell? ⟨b, k * 2 + 0, none⟩ = some (.int .i32 (y.1 : Int)) from by
              obtain ⟨y, hy⟩ : ∃ y, C[k]? = some y := ⟨_, List.getElem?_eq_getElem (by rw [HNC.out]; exact hk)⟩
              obtain ⟨b, cap2, hA2, _, _⟩ := HSP.out.sc.row.some_ (by rw [HNC.out]; omega)
              obtain ⟨rfl, rfl⟩ : A = some ⟨b, 0, none⟩ ∧ cc = cap2 := by injection hA2 with q1 q2 q3; exact ⟨q1, q3⟩
              exact ⟨b, y, rfl, hy, by rw [HSP.out.sc.cell hy 0 (by decide)]; rfl⟩)
            go_wp2
            go_loopg [6] (nC - fr) (fun gh v6 wy => (∃ f1 : Nat, f1 + gh = nC ∧ v6 = .int .i64 (f1 : Int)) ∧ wy = wr)
            case atStart => exact ⟨⟨fr, by omega, rfl⟩, rfl⟩
            case round =>
              obtain ⟨⟨f1, hf1, rfl⟩, rfl⟩ := hrel
              cases gk with
              | zero =>
                obtain rfl : f1 = nC := by omega
                have hlt : ¬ (f1 : Int) < (f1 : Int) := by omega
                go_wp2
                go_roundg g3
                case measure => omega
                case rel => exact ⟨s + 1, f1, C, A, cc, _, _, by omega, by go_num, rfl, by rw [HNC.out]; omega, HSP, HSI1, HFF1, HBB1, HKZ⟩
              | succ g5 =>
                have hlt : (f1 : Int) < (nC : Int) := by omega
                obtain ⟨b, y, rfl, _, z0⟩ := HCE.out f1 (by omega)
                rw [Nat.add_zero] at z0
                rcases Nat.eq_zero_or_pos y.1 with hy | hy
                · rw [hy] at z0
                  go_wp2
                  go_roundg g3
                  case measure => omega
                  case rel => exact ⟨s + 1, f1, C, _, cc, _, _, by omega, by go_num, rfl, by rw [HNC.out]; omega, HSP, HSI1, HFF1, HBB1, HKZ⟩
                · have hyi : (0 : Int) < (y.1 : Int) := by omega
                  go_wp2
                  go_roundg g5
                  case measure => omega
                  case rel => exact ⟨⟨f1 + 1, by omega, by go_num⟩, rfl⟩
          | succ g4 =>
            have hii : (i : Int) < (m : Int) := by omega
            obtain ⟨c, hcd, hci, hga⟩ := at_c (show i < ks.length by rw [HM.out]; omega)
            have hcl := c.toNat_lt
            have hcm : p ++ [c] ∈ statesL l := (HK1.out c).1 (List.mem_of_getElem? hci)
            have hcn : c ∉ ks.take i := fun hc => by
              obtain ⟨j, hj⟩ := List.mem_iff_getElem?.1 hc
              have hjl := (List.getElem?_eq_some_iff.1 hj).1
              rw [List.length_take] at hjl
              rw [List.getElem?_take_of_lt (by omega)] at hj
              have := (List.getElem?_inj (by have := (List.getElem?_eq_some_iff.1 hci).1; omega : j < ks.length) HND.out).1 (hj.trans hci.symm)
              omega
            have htk : ks.take (i + 1) = ks.take i ++ [c] := by rw [List.take_add_one, hci]; rfl
            have HSTEP := Lib.hid (fun (tn : Nat) (ht : (statesL l)[tn]? = some (p ++ [c])) => show SMid l s (putL C (a + c.toNat) (s + 1, tn)) bf p a ks (ks.take (i + 1)) from by
              rw [htk]; exact HMI.out.step (List.mem_of_getElem? hci) hcn (HST.out.idx ht).symm)
            have HNM := Lib.hid hcm
            have HNX := Lib.hid (fun (X : World) (hX : Pure' w5 X) => next_ tg b cap l S s p c X (HLI.out.pure hX).lk.ti HP.out)
            have hCl := HMI.out.len
            have hab := HMI.out.at_
            have hab2 : a ≤ 61696 := by omega
            have hCl2 : C.length ≤ 100000 := by omega
            clear hcd hci hcm hcn htk hab hCl
            go_upto_region 15 with fail
            refine wp_region_held_drew (S := (fun X => Pure' wr X)) (by kernel_rfl) ((Keeps.refl _ wr).drew) (fun hHeld => ?_)
            have HH := Lib.hid hHeld
            clear hHeld
            refine wpAnyH_take (i := 0) (oi := ⟨some 58, .move (.tmp 3), _, _, _, _⟩) (v := ?vv18) rfl (by kernel_rfl) (by kernel_rfl) (by kernel_rfl) (fun _ _ _ h => h) (Or.inl ⟨by rfl, ?hy18⟩) HH.out ?rr18
            case hy18 => intro W hSw; go_simp; try with_reducible rfl
            try simp only [Act.put, List.setIfInBounds_toArray, List.set_cons_zero, List.set_cons_succ]
            refine wpAnyH_take (i := 2) (oi := ⟨some 60, .move (.tmp 7), _, _, _, _⟩) (v := ?vv19) rfl (by kernel_rfl) (by kernel_rfl) (by kernel_rfl) (fun _ _ _ h => h) (Or.inl ⟨by rfl, ?hy19⟩) HH.out ?rr19
            case hy19 => intro W hSw; go_simp; try with_reducible rfl
            try simp only [Act.put, List.setIfInBounds_toArray, List.set_cons_zero, List.set_cons_succ]
            refine wpAnyH_take (i := 3) (oi := ⟨some 61, .move (.tmp 8), _, _, _, _⟩) (v := ?vv20) rfl (by kernel_rfl) (by kernel_rfl) (by kernel_rfl) (fun _ _ _ h => h) (Or.inl ⟨by rfl, ?hy20⟩) HH.out ?rr20
            case hy20 => intro W hSw; go_simp; try with_reducible rfl
            try simp only [Act.put, List.setIfInBounds_toArray, List.set_cons_zero, List.set_cons_succ]
            refine wpAnyH_take (i := 4) (oi := ⟨some 62, .move (.tmp 9), _, _, _, _⟩) (v := ?vv21) rfl (by kernel_rfl) (by kernel_rfl) (by kernel_rfl) (fun _ _ _ h => h) (Or.inl ⟨by rfl, ?hy21⟩) HH.out ?rr21
            case hy21 => intro W hSw; go_simp; try with_reducible rfl
            try simp only [Act.put, List.setIfInBounds_toArray, List.set_cons_zero, List.set_cons_succ]
            refine wpAnyH_take (i := 5) (oi := ⟨some 63, .index 9 (.tmp 61) (.tmp 62), _, _, _, _⟩) (v := ?vv22) rfl (by kernel_rfl) (by kernel_rfl) (by kernel_rfl) (fun _ _ _ h => h) (Or.inl ⟨by rfl, ?hy22⟩) HH.out ?rr22
            case hy22 => intro W hSw; go_simp; try with_reducible rfl
            try simp only [Act.put, List.setIfInBounds_toArray, List.set_cons_zero, List.set_cons_succ]
            refine wpAnyH_ready (rs := [1]) (by kernel_rfl) (by simp) ?_
            refine AllReadyH.cons (o := ⟨some 59, .call { callee := .value (.func 99), args := #[.tmp 58], argTypes := #[131] }, _, _, _, _⟩) rfl (fun K hK => ?_) AllReadyH.nil
            go_simp
            go_at_call 99
            refine (HTR.out _ (HKZ.out.trans HH.out (fun _ _ hf => hf))).mono ?_
            rintro e wB ⟨rfl, rfl⟩
            go_wp2_with fail
            refine hK.out _ _ (HH.out) (fun hHeld => ?_)
            have HH := Lib.hid hHeld
            clear hHeld hK K
            try simp only [Act.put, List.setIfInBounds_toArray, List.set_cons_zero, List.set_cons_succ]
            refine wpAnyH_ready (rs := [6]) (by kernel_rfl) (by simp) ?_
            refine AllReadyH.cons (o := ⟨some 64, .call { callee := .value (.func 130), args := #[.tmp 59, .tmp 60, .tmp 63], argTypes := #[139, 3, 5] }, _, _, _, _⟩) rfl (fun K hK => ?_) AllReadyH.nil
            go_simp
            go_at_call 130
            refine (HNX.out _ (HKZ.out.trans HH.out (fun _ _ hf => hf))).mono ?_
            rintro e wB ⟨hcase, hkn⟩
            have HKN0 := Lib.hid (drewn_pure hkn)
            obtain ⟨tn, rfl, htn0⟩ : ∃ tn : Nat, e = .returned (.tuple #[.int .i64 (tn : Int), .bool true]) ∧ (statesL l)[tn]? = some (p ++ [c]) := by
              rcases hcase with ⟨m, e1, e2⟩ | ⟨_, hno⟩
              · exact ⟨m, e1, e2⟩
              · exact absurd HNM.out hno
            have HT := Lib.hid htn0
            clear hcase hkn htn0
            go_wp2_with fail
            refine hK.out _ _ (HH.out.trans HKN0.out (fun _ _ hf => hf)) (fun hHeld => ?_)
            have HH := Lib.hid hHeld
            clear hHeld hK K
            try simp only [Act.put, List.setIfInBounds_toArray, List.set_cons_zero, List.set_cons_succ]
            refine wpAnyH_take (i := 7) (oi := ⟨some 57, .move (.tmp 64), _, _, _, _⟩) (v := ?vv23) rfl (by kernel_rfl) (by kernel_rfl) (by kernel_rfl) (fun _ _ _ h => h) (Or.inl ⟨by rfl, ?hy23⟩) HH.out ?rr23
            case hy23 => intro W hSw; go_simp; try with_reducible rfl
            try simp only [Act.put, List.setIfInBounds_toArray, List.set_cons_zero, List.set_cons_succ]
            refine wpAnyH_take (i := 8) (oi := ⟨some 65, .extract (.tmp 57) 0, _, _, _, _⟩) (v := ?vv24) rfl (by kernel_rfl) (by kernel_rfl) (by kernel_rfl) (fun _ _ _ h => h) (Or.inl ⟨by rfl, ?hy24⟩) HH.out ?rr24
            case hy24 => intro W hSw; go_simp; try with_reducible rfl
            try simp only [Act.put, List.setIfInBounds_toArray, List.set_cons_zero, List.set_cons_succ]
            refine wpAnyH_take (i := 9) (oi := ⟨some 66, .extract (.tmp 57) 1, _, _, _, _⟩) (v := ?vv25) rfl (by kernel_rfl) (by kernel_rfl) (by kernel_rfl) (fun _ _ _ h => h) (Or.inl ⟨by rfl, ?hy25⟩) HH.out ?rr25
            case hy25 => intro W hSw; go_simp; try with_reducible rfl
            try simp only [Act.put, List.setIfInBounds_toArray, List.set_cons_zero, List.set_cons_succ]
            refine wpAnyH_take (i := 10) (oi := ⟨some 10, .assign (.tmp 65), _, _, _, _⟩) (v := ?vv26) rfl (by kernel_rfl) (by kernel_rfl) (by kernel_rfl) (fun _ _ _ h => h) (Or.inl ⟨by rfl, ?hy26⟩) HH.out ?rr26
            case hy26 => intro W hSw; go_simp; try with_reducible rfl
            try simp only [Act.put, List.setIfInBounds_toArray, List.set_cons_zero, List.set_cons_succ]
            refine wpAnyH_take (i := 11) (oi := ⟨some 11, .assign (.tmp 66), _, _, _, _⟩) (v := ?vv27) rfl (by kernel_rfl) (by kernel_rfl) (by kernel_rfl) (fun _ _ _ h => h) (Or.inl ⟨by rfl, ?hy27⟩) HH.out ?rr27
            case hy27 => intro W hSw; go_simp; try with_reducible rfl
            try simp only [Act.put, List.setIfInBounds_toArray, List.set_cons_zero, List.set_cons_succ]
            refine wpAnyH_done (by kernel_rfl) ?_ _
            have HKN := Lib.hid (HKZ.out.trans HH.out (fun _ _ hf => hf))
            have HSPn := Lib.hid (HSP.out.pure HH.out)
            have htn : tn < n := by rw [HNL.out]; exact (List.getElem?_eq_some_iff.1 HT.out).1
            rename World => wt
            clear HH
            go_upto_region 16 with fail
            have HC1 := Lib.hid (fun (X : World) (hX : Pure' wt X) => show X.cell? ⟨g, 1, none⟩ = some (.slice (some ⟨bb, 0, none⟩) n n) by rw [((HSPn.out.pure hX).sc.box).cell]; rfl)
            have HCB := Lib.hid (fun (X : World) (hX : Pure' wt X) => show X.cell? ⟨bb, s, none⟩ = some (.int .i64 (a : Int)) by rw [((HSPn.out.pure hX).ba).cell, numV_at _ hsn, updN_self])
            have HPU := Lib.hid (fun (X : World) (hX : Pure' wt X) => show Calls Tryz.prog 133 #[.pointer (some ⟨g, 0, none⟩), .int .i64 ((a : Int) + (c.toNat : Int)), .agg #[.int .i32 ((s : Int) + 1), .int .i32 (tn : Int)]] X fun e w' => PutPost H g C (a + c.toNat) (s + 1, tn) (.slice (some ⟨bb, 0, none⟩) n n) (.slice (some ⟨fb, 0, none⟩) n n) X e w' ∧ Keeps (fun b => H ≤ b) X w' from by
              have := sput_ H g C A cc (.slice (some ⟨bb, 0, none⟩) n n) (.slice (some ⟨fb, 0, none⟩) n n) (a + c.toNat) (s + 1, tn) X (HSPn.out.pure hX).sc HSPn.out.own (by have := HHH.out; have := HKN.out.size; have := hX.size; omega) (by omega) hCl2
              dsimp only at this
              rw [show ((a + c.toNat : Nat) : Int) = (a : Int) + (c.toNat : Int) by omega, show ((s + 1 : Nat) : Int) = (s : Int) + 1 by omega] at this
              exact this)
            have E1 := Lib.hid (show IntKind.i64.wrap ((a : Int) + (c.toNat : Int)) = (a : Int) + (c.toNat : Int) by rw [IntKind.wrap_i64]; omega)
            have E2 := Lib.hid (show IntKind.i32.wrap (s : Int) = (s : Int) by rw [IntKind.wrap_i32]; omega)
            have E3 := Lib.hid (show IntKind.i32.wrap ((s : Int) + 1) = (s : Int) + 1 by rw [IntKind.wrap_i32]; omega)
            have E4 := Lib.hid (show IntKind.i32.wrap (tn : Int) = (tn : Int) by rw [IntKind.wrap_i32]; omega)
            have E0 := Lib.hid (show IntKind.i64.wrap (c.toNat : Int) = (c.toNat : Int) by rw [IntKind.wrap_i64]; omega)
            have e0 := E0.out
            have e1 := E1.out
            have e2 := E2.out
            have e3 := E3.out
            have e4 := E4.out
            refine wp_region_held_drew (S := (fun X => X.cell? ⟨g, 1, none⟩ = some (.slice (some ⟨bb, 0, none⟩) n n) ∧ X.cell? ⟨bb, s, none⟩ = some (.int .i64 (a : Int)))) (by kernel_rfl) (⟨HC1.out _ (Keeps.refl _ wt).drew, HCB.out _ (Keeps.refl _ wt).drew⟩) (fun hHeld => ?_)
            have HH := Lib.hid hHeld
            clear hHeld
            have HHP := Lib.hid ((Keeps.refl (fun _ => False) wt).drew)
            refine wpAnyH_take (i := 0) (oi := ⟨some 67, .move (.tmp 5), _, _, _, _⟩) (v := ?vv28) rfl (by kernel_rfl) (by kernel_rfl) (by kernel_rfl) (fun _ _ _ h => h) (Or.inl ⟨by rfl, ?hy28⟩) HH.out ?rr28
            case hy28 => intro W hSw; go_simp; try with_reducible rfl
            try simp only [Act.put, List.setIfInBounds_toArray, List.set_cons_zero, List.set_cons_succ]
            refine wpAnyH_take (i := 1) (oi := ⟨some 68, .move (.tmp 5), _, _, _, _⟩) (v := ?vv29) rfl (by kernel_rfl) (by kernel_rfl) (by kernel_rfl) (fun _ _ _ h => h) (Or.inl ⟨by rfl, ?hy29⟩) HH.out ?rr29
            case hy29 => intro W hSw; go_simp; try with_reducible rfl
            try simp only [Act.put, List.setIfInBounds_toArray, List.set_cons_zero, List.set_cons_succ]
            refine wpAnyH_take (i := 2) (oi := ⟨some 69, .nilCheck (.tmp 68), _, _, _, _⟩) (v := ?vv30) rfl (by kernel_rfl) (by kernel_rfl) (by kernel_rfl) (fun _ _ _ h => h) (Or.inl ⟨by rfl, ?hy30⟩) HH.out ?rr30
            case hy30 => intro W hSw; go_simp; try with_reducible rfl
            try simp only [Act.put, List.setIfInBounds_toArray, List.set_cons_zero, List.set_cons_succ]
            refine wpAnyH_take (i := 3) (oi := ⟨some 70, .fieldAddr 176 (.tmp 69) 1, _, _, _, _⟩) (v := ?vv31) rfl (by kernel_rfl) (by kernel_rfl) (by kernel_rfl) (fun _ _ _ h => h) (Or.inl ⟨by rfl, ?hy31⟩) HH.out ?rr31
            case hy31 => intro W hSw; go_simp; try with_reducible rfl
            try simp only [Act.put, List.setIfInBounds_toArray, List.set_cons_zero, List.set_cons_succ]
            refine wpAnyH_take (i := 4) (oi := ⟨some 71, .load 23 (.tmp 70), _, _, _, _⟩) (v := ?vv32) rfl (by kernel_rfl) (by kernel_rfl) (by kernel_rfl) (fun _ _ _ h => h) (Or.inl ⟨by rfl, ?hy32⟩) HH.out ?rr32
            case hy32 => intro W hSw; have y := hSw.1; go_simp; try with_reducible rfl
            try simp only [Act.put, List.setIfInBounds_toArray, List.set_cons_zero, List.set_cons_succ]
            refine wpAnyH_take (i := 5) (oi := ⟨some 72, .move (.tmp 7), _, _, _, _⟩) (v := ?vv33) rfl (by kernel_rfl) (by kernel_rfl) (by kernel_rfl) (fun _ _ _ h => h) (Or.inl ⟨by rfl, ?hy33⟩) HH.out ?rr33
            case hy33 => intro W hSw; go_simp; try with_reducible rfl
            try simp only [Act.put, List.setIfInBounds_toArray, List.set_cons_zero, List.set_cons_succ]
            refine wpAnyH_take (i := 6) (oi := ⟨some 73, .indexAddr 23 (.tmp 71) (.tmp 72), _, _, _, _⟩) (v := ?vv34) rfl (by kernel_rfl) (by kernel_rfl) (by kernel_rfl) (fun _ _ _ h => h) (Or.inl ⟨by rfl, ?hy34⟩) HH.out ?rr34
            case hy34 => intro W hSw; go_simp; try with_reducible rfl
            try simp only [Act.put, List.setIfInBounds_toArray, List.set_cons_zero, List.set_cons_succ]
            refine wpAnyH_take (i := 7) (oi := ⟨some 74, .load 3 (.tmp 73), _, _, _, _⟩) (v := ?vv35) rfl (by kernel_rfl) (by kernel_rfl) (by kernel_rfl) (fun _ _ _ h => h) (Or.inl ⟨by rfl, ?hy35⟩) HH.out ?rr35
            case hy35 => intro W hSw; have y := hSw.2; go_simp; try with_reducible rfl
            try simp only [Act.put, List.setIfInBounds_toArray, List.set_cons_zero, List.set_cons_succ]
            refine wpAnyH_take (i := 8) (oi := ⟨some 75, .move (.tmp 8), _, _, _, _⟩) (v := ?vv36) rfl (by kernel_rfl) (by kernel_rfl) (by kernel_rfl) (fun _ _ _ h => h) (Or.inl ⟨by rfl, ?hy36⟩) HH.out ?rr36
            case hy36 => intro W hSw; go_simp; try with_reducible rfl
            try simp only [Act.put, List.setIfInBounds_toArray, List.set_cons_zero, List.set_cons_succ]
            refine wpAnyH_take (i := 9) (oi := ⟨some 76, .move (.tmp 9), _, _, _, _⟩) (v := ?vv37) rfl (by kernel_rfl) (by kernel_rfl) (by kernel_rfl) (fun _ _ _ h => h) (Or.inl ⟨by rfl, ?hy37⟩) HH.out ?rr37
            case hy37 => intro W hSw; go_simp; try with_reducible rfl
            try simp only [Act.put, List.setIfInBounds_toArray, List.set_cons_zero, List.set_cons_succ]
            refine wpAnyH_take (i := 10) (oi := ⟨some 77, .index 9 (.tmp 75) (.tmp 76), _, _, _, _⟩) (v := ?vv38) rfl (by kernel_rfl) (by kernel_rfl) (by kernel_rfl) (fun _ _ _ h => h) (Or.inl ⟨by rfl, ?hy38⟩) HH.out ?rr38
            case hy38 => intro W hSw; go_simp; try with_reducible rfl
            try simp only [Act.put, List.setIfInBounds_toArray, List.set_cons_zero, List.set_cons_succ]
            refine wpAnyH_take (i := 11) (oi := ⟨some 78, .convert 5 3 (.tmp 77), _, _, _, _⟩) (v := ?vv39) rfl (by kernel_rfl) (by kernel_rfl) (by kernel_rfl) (fun _ _ _ h => h) (Or.inl ⟨by rfl, ?hy39⟩) HH.out ?rr39
            case hy39 => intro W hSw; go_simp; try with_reducible rfl
            try simp only [Act.put, List.setIfInBounds_toArray, List.set_cons_zero, List.set_cons_succ]
            refine wpAnyH_take (i := 12) (oi := ⟨some 79, .binOp .add 3 (.tmp 74) (.tmp 78) 3, _, _, _, _⟩) (v := ?vv40) rfl (by kernel_rfl) (by kernel_rfl) (by kernel_rfl) (fun _ _ _ h => h) (Or.inl ⟨by rfl, ?hy40⟩) HH.out ?rr40
            case hy40 => intro W hSw; go_simp; try with_reducible rfl
            try simp only [Act.put, List.setIfInBounds_toArray, List.set_cons_zero, List.set_cons_succ]
            refine wpAnyH_take (i := 13) (oi := ⟨some 80, .move (.tmp 7), _, _, _, _⟩) (v := ?vv41) rfl (by kernel_rfl) (by kernel_rfl) (by kernel_rfl) (fun _ _ _ h => h) (Or.inl ⟨by rfl, ?hy41⟩) HH.out ?rr41
            case hy41 => intro W hSw; go_simp; try with_reducible rfl
            try simp only [Act.put, List.setIfInBounds_toArray, List.set_cons_zero, List.set_cons_succ]
            refine wpAnyH_take (i := 14) (oi := ⟨some 81, .convert 3 21 (.tmp 80), _, _, _, _⟩) (v := ?vv42) rfl (by kernel_rfl) (by kernel_rfl) (by kernel_rfl) (fun _ _ _ h => h) (Or.inl ⟨by rfl, ?hy42⟩) HH.out ?rr42
            case hy42 => intro W hSw; go_simp; try with_reducible rfl
            try simp only [Act.put, List.setIfInBounds_toArray, List.set_cons_zero, List.set_cons_succ]
            refine wpAnyH_take (i := 15) (oi := ⟨some 82, .binOp .add 21 (.tmp 81) (.const (.int .i32 1)) 21, _, _, _, _⟩) (v := ?vv43) rfl (by kernel_rfl) (by kernel_rfl) (by kernel_rfl) (fun _ _ _ h => h) (Or.inl ⟨by rfl, ?hy43⟩) HH.out ?rr43
            case hy43 => intro W hSw; go_simp; try with_reducible rfl
            try simp only [Act.put, List.setIfInBounds_toArray, List.set_cons_zero, List.set_cons_succ]
            refine wpAnyH_take (i := 16) (oi := ⟨some 83, .move (.tmp 10), _, _, _, _⟩) (v := ?vv44) rfl (by kernel_rfl) (by kernel_rfl) (by kernel_rfl) (fun _ _ _ h => h) (Or.inl ⟨by rfl, ?hy44⟩) HH.out ?rr44
            case hy44 => intro W hSw; go_simp; try with_reducible rfl
            try simp only [Act.put, List.setIfInBounds_toArray, List.set_cons_zero, List.set_cons_succ]
            refine wpAnyH_take (i := 17) (oi := ⟨some 84, .convert 3 21 (.tmp 83), _, _, _, _⟩) (v := ?vv45) rfl (by kernel_rfl) (by kernel_rfl) (by kernel_rfl) (fun _ _ _ h => h) (Or.inl ⟨by rfl, ?hy45⟩) HH.out ?rr45
            case hy45 => intro W hSw; go_simp; try with_reducible rfl
            try simp only [Act.put, List.setIfInBounds_toArray, List.set_cons_zero, List.set_cons_succ]
            refine wpAnyH_take (i := 18) (oi := ⟨some 85, .build 180 #[(0, .tmp 82), (1, .tmp 84)], _, _, _, _⟩) (v := ?vv46) rfl (by kernel_rfl) (by kernel_rfl) (by kernel_rfl) (fun _ _ _ h => h) (Or.inl ⟨by rfl, ?hy46⟩) HH.out ?rr46
            case hy46 => intro W hSw; go_simp; try with_reducible rfl
            try simp only [Act.put, List.setIfInBounds_toArray, List.set_cons_zero, List.set_cons_succ]
            refine wpAnyH_ready (rs := [19]) (by kernel_rfl) (by simp) ?_
            refine AllReadyH.cons (o := ⟨some 86, .call { callee := .value (.func 133), args := #[.tmp 67, .tmp 79, .tmp 85], argTypes := #[134, 3, 180] }, _, _, _, _⟩) rfl (fun K hK => ?_) AllReadyH.nil
            go_simp
            go_at_call 133
            refine (HPU.out _ HHP.out).mono ?_
            rintro e wz2 ⟨⟨A2, cc2, rfl, hp1, hp2, hp3⟩, hkp⟩
            have HPP := Lib.hid (And.intro hp1 (And.intro hp2 hp3))
            have HKP := Lib.hid hkp
            clear hp1 hp2 hp3 hkp
            go_wp2_with fail
            refine hK.out _ _ (⟨by rw [HPP.out.1.box.cell]; rfl, by rw [(HPP.out.2.2 _ _ _ (by decide) (by decide) (HSPn.out.pure HHP.out).ba).cell, numV_at _ hsn, updN_self]⟩) (fun hHeld => ?_)
            have HH := Lib.hid hHeld
            clear hHeld hK K
            try simp only [Act.put, List.setIfInBounds_toArray, List.set_cons_zero, List.set_cons_succ]
            refine wpAnyH_done (by kernel_rfl) ?_ _
            have HSPz := Lib.hid (show SpS wz2 H g bb fb n (putL C (a + c.toNat) (s + 1, tn)) A2 cc2 (updN bf s a) (updN ff s fl) from
              ⟨HPP.out.1, HPP.out.2.1, HPP.out.2.2 _ _ _ (by decide) (by decide) (HSPn.out.pure HHP.out).ba, HPP.out.2.2 _ _ _ (by decide) (by decide) (HSPn.out.pure HHP.out).fa, HSPn.out.ne, HSPn.out.hb, HSPn.out.hf⟩)
            have HKz := Lib.hid (show Pure' w5 wz2 from (HKN.out.trans HHP.out (fun _ _ hf => hf)).trans (HKP.out.mono (S' := fun b => H ≤ b) (fun _ _ h => h)) (fun b hb h => by have := HHH.out; have h : H ≤ b := h; omega))
            have HSM := Lib.hid (HSTEP.out tn HT.out)
            have hfr2 : fr ≤ (putL C (a + c.toNat) (s + 1, tn)).length := by rw [putL_len]; omega
            clear e0 e1 e2 e3 e4
            go_wp2
            go_roundg g4
            case measure => omega
            case rel => exact ⟨i + 1, _, A2, cc2, by omega, by go_num, hfr2, HSPz, HSM, HKz⟩

end Go.Proofs.YtkbdfnmeomkpjaaGreat
