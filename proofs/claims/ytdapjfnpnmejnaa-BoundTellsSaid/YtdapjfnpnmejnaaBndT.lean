/- The law BoundTells, walked whole; its conditions: what came in is what it says it is. -/
import Derived.Test.YtdapjfnpnmejnaaBndS
namespace Go.Proofs.Ytdapjfnpnmejnaa
open Go.RowKit
set_option linter.unusedVariables false
set_option linter.unusedSimpArgs false
set_option maxRecDepth 100000

abbrev I64 (z : Int) : Prop := -9223372036854775808 ≤ z ∧ z ≤ 9223372036854775807
theorem certR_form (f e h v : Int) : ∃ a b : Int, certR f e h v = .tuple #[.int .i64 a, .int .i64 b] := by
  unfold certR
  split
  · exact ⟨_, _, rfl⟩
  · exact guardR_form _ _
theorem foreignR_form (f e v : Int) : ∃ a b : Int, foreignR f e v = .tuple #[.int .i64 a, .int .i64 b] := by
  unfold foreignR
  split
  · exact ⟨_, _, rfl⟩
  · exact guardR_form _ _
theorem blk_at {w : World} {g g' : Nat} {t : TypeId} {cs : Array Value} (h : Blk w g t cs) (e : g = g') : Blk w g' t cs := e ▸ h
/-- A set and the reference's texts of it. -/
theorem set_of {l : List ByteArray} {w : World} {x : Option Addr} {l' : List ByteArray} (hm : l.length ≤ 12)
    (h1 : (OkL l ∧ SetIs w x l.length (minL l) (maxL l)) ∨ (¬ OkL l ∧ SetIs w x 0 0 0)) (h2 : (OkL l ∧ l'.Perm l) ∨ (¬ OkL l ∧ l' = [])) : SetIs w x l'.length (minL l') (maxL l') ∧ l'.length ≤ 12 := by
  rcases h1 with ⟨ho, h1⟩ | ⟨ho, h1⟩ <;> rcases h2 with ⟨ho2, h2⟩ | ⟨ho2, h2⟩
  · rw [h2.length_eq, minL_perm h2, maxL_perm h2]; exact ⟨h1, hm⟩
  · exact absurd ho ho2
  · exact absurd ho2 ho
  · subst h2; exact ⟨h1, by simp⟩
theorem few_sizes {l l' : List ByteArray} (hf : FewL l) (h2 : (OkL l ∧ l'.Perm l) ∨ (¬ OkL l ∧ l' = [])) : ∀ s ∈ l', s.size ≤ 20 := by
  rcases h2 with ⟨_, h2⟩ | ⟨_, h2⟩
  · intro s hs; exact hf.2 s (h2.mem_iff.1 hs)
  · subst h2; intro s hs; cases hs

set_option maxHeartbeats 4000000 in
theorem bound_tells (w : World) (n0 n1 n2 n3 : Int) (A : Option Addr) (m c : Nat) (l : List ByteArray) (kind n r : Int) (Ai : Option Addr) (mi ci : Nat) (ids : List Int)
    (h0 : I64 n0) (h1 : I64 n1) (h2 : I64 n2) (h3 : I64 n3) (hs : m ≤ maxLen ∧ Sees w w.heap.size 1 A m (l.map Value.string) ∧ ∀ s ∈ l, s.size ≤ maxLen) (hkn : I64 kind) (hn : I64 n) (hr : I64 r)
    (hi : mi ≤ maxLen ∧ Sees w w.heap.size 1 Ai mi (ids.map (Value.int .i64)) ∧ ∀ z ∈ ids, I64 z) :
    Calls Try.prog 4 #[.agg #[.int .i64 n0, .int .i64 n1, .int .i64 n2, .int .i64 n3], .slice A m c, recV kind n r Ai mi ci] w fun e w' => e = .returned (.bool true) ∧ Pure' w w' := by
  obtain ⟨hm, hs, hl⟩ := hs
  obtain ⟨hmi, hi, hids⟩ := hi
  have hll : l.length = m := by have := hs.1; simpa using this
  have hpa := (Keeps.refl (fun _ => False) w).alloc (.cells #[.int .i64 n0, .int .i64 n1, .int .i64 n2, .int .i64 n3] 35)
  have hpb := hpa.alloc (.cells #[.int .i64 kind, .int .i64 n, .int .i64 r, .slice Ai mi ci] 33)
  have hba := (Blk.new w 35 #[.int .i64 n0, .int .i64 n1, .int .i64 n2, .int .i64 n3]).alloc (.cells #[.int .i64 kind, .int .i64 n, .int .i64 r, .slice Ai mi ci] 33)
  have hbr := Blk.new (w.alloc (.cells #[.int .i64 n0, .int .i64 n1, .int .i64 n2, .int .i64 n3] 35)) 33 #[.int .i64 kind, .int .i64 n, .int .i64 r, .slice Ai mi ci]
  have HP := Lib.hid hpb
  have HA := Lib.hid hba
  have HR := Lib.hid hbr
  have HSX := Lib.hid (fun wx (hp : Pure' w wx) => hs.pure hp (Nat.le_refl _))
  have HIX := Lib.hid (fun wx (hp : Pure' w wx) => hi.pure hp (Nat.le_refl _))
  have HWX := Lib.hid (fun wx (hp : Pure' w wx) => (hp.size : w.heap.size ≤ wx.heap.size))
  have HL := Lib.hid hl
  have HM := Lib.hid hm
  have HN := Lib.hid hll
  have HID := Lib.hid hids
  have HK := Lib.hid (And.intro hkn (And.intro hn hr))
  have H4 := Lib.hid (And.intro h0 (And.intro h1 (And.intro h2 h3)))
  have HAW := Lib.hid awake_
  clear hpa hpb hba hbr hs hi hl hll hids hkn hn hr h0 h1 h2 h3
  unfold maxLen at hm hmi
  unfold recV
  have a0 := HA.out.cell 0
  have a1 := HA.out.cell 1
  have a2 := HA.out.cell 2
  have a3 := HA.out.cell 3
  have r0 := HR.out.cell 0
  have r1 := HR.out.cell 1
  have r2 := HR.out.cell 2
  have r3 := HR.out.cell 3
  go_enter Try.func4, Try.ntmps4
  go_wp2_with fail
  refine (few_ A m c _ l _ (HSX.out _ HP.out) HM.out HL.out).mono ?_
  rintro e w1 ⟨⟨b, rfl, hb⟩, rfl⟩
  cases b with
  | false =>
    go_wp2_with fail
    refine (HAW.out _).mono ?_
    rintro e w2 ⟨rfl, hk2⟩
    have HP2 := Lib.hid (HP.out.then_ hk2)
    clear hk2
    go_wp2
    go_ret
    exact ⟨rfl, HP2.out⟩
  | true =>
    have HF := Lib.hid (hb.1 rfl)
    clear hb
    by_cases h50 : 50 < mi
    · go_wp2_with fail
      refine (HAW.out _).mono ?_
      rintro e w2 ⟨rfl, hk2⟩
      have HP2 := Lib.hid (HP.out.then_ hk2)
      clear hk2
      go_wp2
      go_ret
      exact ⟨rfl, HP2.out⟩
    · have hF1 := HF.out.1
      have hm12 : m ≤ 12 := by rw [← HN.out]; exact hF1
      have HR1 := Lib.hid (blk_at HR.out (alloc_size _ _))
      go_wp2_with fail
      refine (new_ A m c _ l _ (HSX.out _ HP.out) (HWX.out _ HP.out) hm12 HF.out.2).mono ?_
      rintro e w3 ⟨x, er, rfl, hset, hk3⟩
      have HSET := Lib.hid hset
      have HP3 := Lib.hid (HP.out.then_ hk3)
      have HA3 := Lib.hid (HA.out.keep hk3 fun hf => hf)
      have HR3 := Lib.hid (HR1.out.keep hk3 fun hf => hf)
      clear hset hk3 a0 a1 a2 a3 r0 r1 r2 r3 HR HA HR1
      go_wp2_with fail
      refine (rnew_ A m c _ l _ (HSX.out _ HP3.out) (HWX.out _ HP3.out) hm12 HF.out.2).mono ?_
      rintro e w4 ⟨A2, c2, l', er2, rfl, hl', hs', hk4⟩
      obtain ⟨hset4, hl12⟩ := set_of hF1 HSET.out hl'
      have HX4 := Lib.hid (hset4.pure hk4)
      have HF4 := Lib.hid (few_sizes HF.out hl')
      have HS4 := Lib.hid (fun wx (hp : Pure' w4 wx) => hs'.pure hp (Nat.le_refl _))
      have HP4 := Lib.hid (HP3.out.then_ hk4)
      have HA4 := Lib.hid (HA3.out.keep hk4 fun hf => hf)
      have HR4 := Lib.hid (HR3.out.keep hk4 fun hf => hf)
      have HQ4 := Lib.hid (Keeps.refl (fun _ => False) w4)
      clear hset4 hk4 hl' hs' HSET HP3 HA3 HR3
      have a0 := HA4.out.cell 0
      have a1 := HA4.out.cell 1
      have a2 := HA4.out.cell 2
      have a3 := HA4.out.cell 3
      obtain ⟨ca, ce, hce⟩ := certR_form n0 n1 n2 n3
      obtain ⟨fa, fe, hfe⟩ := foreignR_form n0 n1 n3
      have HCE := Lib.hid hce
      have HFE := Lib.hid hfe
      clear hce hfe
      go_wp2_with fail
      refine (cert_ n0 n1 n2 n3 _ H4.out.1 H4.out.2.1 H4.out.2.2.1 H4.out.2.2.2).mono ?_
      rintro e w5 ⟨rfl, hk5⟩
      rw [HCE.out]
      have HP5 := Lib.hid (HP4.out.then_ hk5)
      have HQ5 := Lib.hid (HQ4.out.then_ hk5)
      have HA5 := Lib.hid (HA4.out.keep hk5 fun hf => hf)
      have HR5 := Lib.hid (HR4.out.keep hk5 fun hf => hf)
      clear hk5 a0 a1 a2 a3
      have a0 := HA5.out.cell 0
      have a1 := HA5.out.cell 1
      have a2 := HA5.out.cell 2
      have a3 := HA5.out.cell 3
      go_wp2_with fail
      refine (rcert_ n0 n1 n2 n3 _ H4.out.1 H4.out.2.1 H4.out.2.2.1 H4.out.2.2.2).mono ?_
      rintro e w6 ⟨rfl, hk6⟩
      rw [HCE.out]
      have HP6 := Lib.hid (HP5.out.then_ hk6)
      have HQ6 := Lib.hid (HQ5.out.then_ hk6)
      have HA6 := Lib.hid (HA5.out.keep hk6 fun hf => hf)
      have HR6 := Lib.hid (HR5.out.keep hk6 fun hf => hf)
      clear hk6 a0 a1 a2 a3
      have a0 := HA6.out.cell 0
      have a1 := HA6.out.cell 1
      have a2 := HA6.out.cell 2
      have a3 := HA6.out.cell 3
      go_wp2_with fail
      refine (foreign_ n0 n1 n3 _ H4.out.1 H4.out.2.1 H4.out.2.2.2).mono ?_
      rintro e w7 ⟨rfl, hk7⟩
      rw [HFE.out]
      have HP7 := Lib.hid (HP6.out.then_ hk7)
      have HQ7 := Lib.hid (HQ6.out.then_ hk7)
      have HA7 := Lib.hid (HA6.out.keep hk7 fun hf => hf)
      have HR7 := Lib.hid (HR6.out.keep hk7 fun hf => hf)
      clear hk7 a0 a1 a2 a3
      have a0 := HA7.out.cell 0
      have a1 := HA7.out.cell 1
      have a2 := HA7.out.cell 2
      have a3 := HA7.out.cell 3
      go_wp2_with fail
      refine (rforeign_ n0 n1 n3 _ H4.out.1 H4.out.2.1 H4.out.2.2.2).mono ?_
      rintro e w8 ⟨rfl, hk8⟩
      rw [HFE.out]
      have HP8 := Lib.hid (HP7.out.then_ hk8)
      have HQ8 := Lib.hid (HQ7.out.then_ hk8)
      have HA8 := Lib.hid (HA7.out.keep hk8 fun hf => hf)
      have HR8 := Lib.hid (HR7.out.keep hk8 fun hf => hf)
      clear hk8 a0 a1 a2 a3
      have a0 := HA8.out.cell 0
      have a1 := HA8.out.cell 1
      have a2 := HA8.out.cell 2
      have a3 := HA8.out.cell 3
      obtain ⟨ja, je, hje⟩ := guardR_form [n0, n1] [maxL l', 2, n0, n1, 19, mulV 9 l'.length]
      obtain ⟨sa, se, hse⟩ := guardR_form [n2] [maxL l', 2, minL l', n2]
      have HJE : Hid (judgeR l'.length (maxL l') n0 n1 = .tuple #[.int .i64 ja, .int .i64 je]) := Lib.hid hje
      have HSE : Hid (scanR (maxL l') (minL l') n2 = .tuple #[.int .i64 sa, .int .i64 se]) := Lib.hid hse
      clear hje hse
      go_wp2_with fail
      refine (judge_ x l'.length (minL l') (maxL l') n0 n1 _ (HX4.out.pure HQ8.out) (by omega) H4.out.1 H4.out.2.1).mono ?_
      rintro e w9 ⟨rfl, hk9⟩
      rw [HJE.out]
      have HP9 := Lib.hid (HP8.out.then_ hk9)
      have HQ9 := Lib.hid (HQ8.out.then_ hk9)
      have HA9 := Lib.hid (HA8.out.keep hk9 fun hf => hf)
      have HR9 := Lib.hid (HR8.out.keep hk9 fun hf => hf)
      clear hk9 a0 a1 a2 a3
      have a0 := HA9.out.cell 0
      have a1 := HA9.out.cell 1
      have a2 := HA9.out.cell 2
      have a3 := HA9.out.cell 3
      have hszs : ∀ s ∈ l', s.size ≤ 1000000 := fun s hs => by have := HF4.out s hs; omega
      have HMO := Lib.hid (fun wx (hp : Pure' w4 wx) => rmost_ A2 l'.length c2 _ l' wx (HS4.out wx hp) (by omega) hszs)
      have HLE := Lib.hid (fun wx (hp : Pure' w4 wx) => rleast_ A2 l'.length c2 _ l' wx (HS4.out wx hp) (by omega) hszs)
      have HJ := Lib.hid (fun wx => by have := rjudge_ l'.length (maxL l') n0 n1 wx (by omega); rw [HJE.out] at this; exact this)
      have HSC := Lib.hid (fun wx => by have := rscan_ (maxL l') (minL l') n2 wx; rw [HSE.out] at this; exact this)
      have HQD := Lib.hid (HQ9.out.drewN 1)
      have HPD := Lib.hid (HP9.out.drewN 1)
      have HAD := Lib.hid (HA9.out.keep ((Keeps.refl (fun _ => False) w9).drewN 1) fun hf => hf)
      have HRD := Lib.hid (HR9.out.keep ((Keeps.refl (fun _ => False) w9).drewN 1) fun hf => hf)
      clear hszs
      go_wp2
      go_region_held3 (fun W => W.cell? ⟨w.heap.size, 0, none⟩ = some (.int .i64 n0) ∧ W.cell? ⟨w.heap.size, 1, none⟩ = some (.int .i64 n1)) (first | exact ⟨a0, a1⟩ | exact ⟨q0, q1⟩)
        (first
        | (go_at_call 22; refine (HMO.out _ HQD.out).mono ?_; rintro e wq ⟨rfl, rfl⟩)
        | (go_at_call 21; refine (HJ.out _).mono ?_; rintro e w10 ⟨rfl, hk10⟩; have HP10 := Lib.hid (HPD.out.then_ hk10); have HQ10 := Lib.hid (HQD.out.then_ hk10); have HA10 := Lib.hid (HAD.out.keep hk10 fun hf => hf); have HR10 := Lib.hid (HRD.out.keep hk10 fun hf => hf); have q0 := HA10.out.cell 0; have q1 := HA10.out.cell 1; clear hk10))
      clear q0 q1 a0 a1 a2 a3 HJ
      have a2 := HA10.out.cell 2
      go_wp2_with fail
      refine (scan_ x l'.length (minL l') (maxL l') n2 _ (HX4.out.pure HQ10.out)).mono ?_
      rintro e w11 ⟨rfl, hk11⟩
      rw [HSE.out]
      have HQ11 := Lib.hid ((HQ10.out.then_ hk11).drewN 1)
      have HP11 := Lib.hid ((HP10.out.then_ hk11).drewN 1)
      have HA11 := Lib.hid (HA10.out.keep hk11 fun hf => hf)
      have HR11 := Lib.hid (HR10.out.keep (hk11.drewN 1) fun hf => hf)
      clear hk11 a2
      have a2 := HA11.out.cell 2
      go_wp2
      go_region_held3 (fun W => W.cell? ⟨w.heap.size, 2, none⟩ = some (.int .i64 n2)) (first | exact a2 | exact q2)
        (first
        | (go_at_call 22; refine (HMO.out _ HQ11.out).mono ?_; rintro e wq ⟨rfl, rfl⟩)
        | (go_at_call 25; refine (HLE.out _ HQ11.out).mono ?_; rintro e wq ⟨rfl, rfl⟩)
        | (go_at_call 24; refine (HSC.out _).mono ?_; rintro e w12 ⟨rfl, hk12⟩; have HP12 := Lib.hid (HP11.out.then_ hk12); have HR12 := Lib.hid (HR11.out.keep hk12 fun hf => hf); have q2 := ((HA11.out.keep ((Keeps.refl (fun _ => False) w11).drewN 1) fun hf => hf).keep hk12 fun hf => hf).cell 2; clear hk12))
      clear q2 a2 HMO HLE HSC
      have HRC := Lib.hid (fun wx (hp : Pure' w wx) => rrec_ kind n r Ai mi ci _ ids wx (HIX.out wx hp) (HWX.out wx hp) (by omega) HK.out.2.1 HK.out.2.2 HK.out.1 HID.out)
      have HEX := Lib.hid (fun wx (hp : Pure' w wx) => exact_ kind n r Ai mi ci _ ids wx (HIX.out wx hp) (HWX.out wx hp) (by omega) HK.out.2.1 HK.out.2.2 HK.out.1)
      generalize exactV kind n r ids = ex at *
      unfold recV at HRC HEX
      have r0 := HR12.out.cell 0
      have r1 := HR12.out.cell 1
      have r2 := HR12.out.cell 2
      have r3 := HR12.out.cell 3
      go_wp2_with fail
      refine (HRC.out _ HP12.out).mono ?_
      rintro e w13 ⟨ss, se2, rfl, hss, hk13⟩
      have HP13 := Lib.hid (HP12.out.then_ hk13)
      have HR13 := Lib.hid (HR12.out.keep hk13 fun hf => hf)
      clear hk13 r0 r1 r2 r3
      have r0 := HR13.out.cell 0
      have r1 := HR13.out.cell 1
      have r2 := HR13.out.cell 2
      have r3 := HR13.out.cell 3
      by_cases h0 : se2 = 0
      · have hsz := hss h0
        subst h0
        subst hsz
        clear hss
        go_wp2_with fail
        refine (HEX.out _ HP13.out).mono ?_
        rintro e w14 ⟨rfl, hk14⟩
        have HP14 := Lib.hid (HP13.out.then_ hk14)
        clear hk14
        go_wp2_with fail
        refine (HAW.out _).mono ?_
        rintro e w15 ⟨rfl, hk15⟩
        have HP15 := Lib.hid (HP14.out.then_ hk15)
        clear hk15
        go_wp2
        go_ret
        exact ⟨rfl, HP15.out⟩
      · have t0 : (se2 != 0) = true := by simpa using h0
        clear hss h0
        go_wp2_with fail
        refine (HAW.out _).mono ?_
        rintro e w15 ⟨rfl, hk15⟩
        have HP15 := Lib.hid (HP13.out.then_ hk15)
        clear hk15
        go_wp2
        go_ret
        exact ⟨rfl, HP15.out⟩
end Go.Proofs.Ytdapjfnpnmejnaa
