import Derived.Test.YtacodojaolnhnaaPane5
import Derived.Test.YtacodojaolnhnaaLaw07d
namespace Go.Proofs.Ytacodojaolnhnaa
open Go.RowKit
set_option linter.unusedVariables false
set_option linter.unusedSimpArgs false
set_option maxRecDepth 100000
attribute [local go_sem] gmax2 gmin2 gmax_two gmin_two

/-- The cells of an act, where it lies. -/
structure ActAt (w : World) (A : Option Addr) (k : Nat) (a : Int × Int × ByteArray) : Prop where
  at_ : ∃ ad : Addr, A = some ad ∧ w.cell? (ad.add (k * 3)) = some (.int .i64 a.1) ∧ w.cell? ⟨(ad.add (k * 3)).block, (ad.add (k * 3)).off + 1, none⟩ = some (.int .i64 a.2.1) ∧ w.cell? ⟨(ad.add (k * 3)).block, (ad.add (k * 3)).off + 2, none⟩ = some (.string a.2.2)

theorem ActAt.cells {w : World} {ad : Addr} {k : Nat} {a : Int × Int × ByteArray} (h : ActAt w (some ad) k a) : w.cell? (ad.add (k * 3)) = some (.int .i64 a.1) ∧ w.cell? ⟨(ad.add (k * 3)).block, (ad.add (k * 3)).off + 1, none⟩ = some (.int .i64 a.2.1) ∧ w.cell? ⟨(ad.add (k * 3)).block, (ad.add (k * 3)).off + 2, none⟩ = some (.string a.2.2) := by
  obtain ⟨ad', e, h1, h2, h3⟩ := h.at_
  injection e with e
  subst e
  exact ⟨h1, h2, h3⟩

theorem pane_out (size : Int) (A : Option Addr) (n c : Nat) (d : Int) (w : World) (hn : 20 < n) (hn2 : n ≤ maxLen) :
    Calls Try.prog 7 #[.int .i64 size, .slice A n c, .int .i64 d] w fun e w' => e = .returned (.bool true) ∧ Pure' w w' := by
  unfold maxLen at hn2
  go_enter Try.func7, Try.ntmps7
  go_wp2_with (go_at_call 28; refine (awake35_ (Keeps.refl _ w)).mono ?_; rintro e w2 ⟨rfl, hp2⟩)
  go_ret
  exact ⟨rfl, hp2⟩

theorem ActAt.of {w W : World} {B n : Nat} {A : Option Addr} {acts : List (Int × Int × ByteArray)} (h : Sees w B 3 A n (acts.flatMap fun a => [.int .i64 a.1, .int .i64 a.2.1, .string a.2.2])) (hl : acts.length = n) (hB : B ≤ w.heap.size) (hk : Pure' w W) (k : Nat) (hkl : k < acts.length) : ActAt W A k acts[k] := by
  obtain ⟨ad, rfl, hb, hc⟩ := (h.pure hk hB).2 (by omega)
  have e : ∀ r, r < 3 → (acts.flatMap fun a => [Value.int .i64 a.1, .int .i64 a.2.1, .string a.2.2])[k * 3 + r]? = [Value.int .i64 acts[k].1, .int .i64 acts[k].2.1, .string acts[k].2.2][r]? := by
    intro r hr
    have h3 : ∀ (l : List (Int × Int × ByteArray)) (i : Nat) (hi : i < l.length), (l.flatMap fun a => [Value.int .i64 a.1, .int .i64 a.2.1, .string a.2.2])[i * 3 + r]? = [Value.int .i64 l[i].1, .int .i64 l[i].2.1, .string l[i].2.2][r]? := by
      intro l
      induction l with
      | nil => intro i hi; simp at hi
      | cons a l ih =>
        intro i hi
        rw [List.flatMap_cons]
        cases i with
        | zero => rw [List.getElem?_append_left (by simp; omega)]; simp
        | succ i =>
          rw [List.getElem?_append_right (by simp; omega)]
          simp only [List.length_cons, List.length_nil, List.getElem_cons_succ]
          rw [show (i + 1) * 3 + r - (0 + 1 + 1 + 1) = i * 3 + r from by omega]
          exact ih i (by simpa using hi)
    exact h3 acts k hkl
  have f : ∀ r, 0 < r → (ad.add (k * 3 + r)) = ⟨(ad.add (k * 3)).block, (ad.add (k * 3)).off + r, none⟩ := by
    intro r hr
    rw [show ad.add (k * 3 + r) = (ad.add (k * 3)).add r from by
      unfold Addr.add
      by_cases h1 : k * 3 = 0 <;> by_cases h2 : r = 0 <;> simp [h1, h2, Nat.add_assoc] <;> omega]
    rw [Addr.add, if_neg (by omega)]
  refine ⟨ad, rfl, hc (k * 3) _ (e 0 (by omega)), ?_, ?_⟩
  · rw [← f 1 (by omega)]; exact hc (k * 3 + 1) _ (e 1 (by omega))
  · rw [← f 2 (by omega)]; exact hc (k * 3 + 2) _ (e 2 (by omega))

/-- What the callees of the law answer, at one pane. -/
structure PaneAt (wr : World) (g gr size : Nat) (d : Int) (gone rest : List UInt8) (K : ByteArray) (c : UInt8) (is : Bool) (kk : Int) : Prop where
  kept_ : ∀ W, Calls Try.prog 31 #[.string (str gone), .int .i64 size] W fun e w' => e = .returned (.string K) ∧ W = w'
  last : ∀ W, Pure' wr W → Calls Try.prog 32 #[.pointer (some ⟨g, 0, none⟩), .int .i64 d] W fun e w' => e = .returned (.tuple #[.int .u8 (c.toNat : Int), .bool is]) ∧ W = w'
  rat : ∀ W, Calls Try.prog 33 #[.string K, .int .i64 d] W fun e w' => e = .returned (.int .i64 kk) ∧ W = w'
  rel : (is = true ∧ kk = c.toNat) ∨ (is = false ∧ kk = -1)
  held : ∀ W, Pure' wr W → Calls Try.prog 34 #[.pointer (some ⟨g, 0, none⟩)] W fun e w' => e = .returned (.int .i64 ((K.size : Int) + (str rest).size)) ∧ ∃ k, w' = W.drewN k
  seen : ∀ W, Pure' wr W → Calls Try.prog 22 #[.pointer (some ⟨gr, 0, none⟩)] W fun e w' => e = .returned (.int .i64 ((str gone).size : Int)) ∧ W = w'
  ends : ∀ W, Pure' wr W → Calls Try.prog 19 #[.pointer (some ⟨gr, 0, none⟩), .string K] W fun e w' => e = .returned (.bool true) ∧ W = w'
  ksz : K.size ≤ 1000000
  kkb : -1 ≤ kk ∧ kk ≤ 255

theorem PMine.paneAt {w0 w : World} {g gr : Nat} {gone rest : List UInt8} {closed : Bool} {size : Nat} (h : PMine w0 w g gr gone rest closed size) (hs : gone.length + rest.length ≤ 1000000) (d : Int) :
    ∃ K c is kk, PaneAt w g gr size d gone rest K c is kk := by
  have hz : size ≤ 65536 := by obtain ⟨_, ⟨_, _, _, _, _, h, _⟩, _⟩ := h.mine; exact h
  have hks : (str (kept gone size)).size = min gone.length size := by rw [str_size, kept_length]
  have hP : ∀ W, Pure' w W → PMine w0 W g gr gone rest closed size := fun W hk => h.pure hk
  have hgl : (str gone).size = gone.length := str_size gone
  have hrl : (str rest).size = rest.length := str_size rest
  have hheld : ∀ W, Pure' w W → Calls Try.prog 34 #[.pointer (some ⟨g, 0, none⟩)] W fun e w' => e = .returned (.int .i64 (((str (kept gone size)).size : Int) + (str rest).size)) ∧ ∃ k, w' = W.drewN k := by
    intro W hk
    rw [hks, hrl]
    exact (hP W hk).held (by omega)
  have hends : ∀ W, Pure' w W → Calls Try.prog 19 #[.pointer (some ⟨gr, 0, none⟩), .string (str (kept gone size))] W fun e w' => e = .returned (.bool true) ∧ W = w' := by
    intro W hk
    refine ((hP W hk).ends (str (kept gone size)) (by omega)).mono ?_
    rintro e w' ⟨rfl, rfl⟩
    refine ⟨ret_bool ?_, rfl⟩
    rw [str_data]
    have := endsP_tail gone (min gone.length size) size (by omega) (by omega)
    rwa [show gone.length - min gone.length size = gone.length - size from by omega] at this
  have hkept : ∀ W, Calls Try.prog 31 #[.string (str gone), .int .i64 size] W fun e w' => e = .returned (.string (str (kept gone size))) ∧ W = w' := by
    intro W
    have := ref_kept (str gone) size W (by omega) (by omega)
    rwa [str_data] at this
  have hseen : ∀ W, Pure' w W → Calls Try.prog 22 #[.pointer (some ⟨gr, 0, none⟩)] W fun e w' => e = .returned (.int .i64 ((str gone).size : Int)) ∧ W = w' := by
    intro W hk
    rw [hgl]
    exact (hP W hk).seen
  by_cases hd : 0 ≤ d ∧ d < (min gone.length size : Nat)
  · obtain ⟨m, rfl⟩ := Int.eq_ofNat_of_zero_le hd.1
    obtain ⟨u, hu1, hu2⟩ := keptAt gone size m (by omega)
    have hub := u.toNat_lt
    refine ⟨str (kept gone size), u, true, u.toNat, hkept, fun W hk => ?_, fun W => ref_at_yes (str (kept gone size)) m u W (by omega) (by omega) (by rw [str_data, str_size]; exact hu2), .inl ⟨rfl, rfl⟩, hheld, hseen, hends, by omega, by omega⟩
    obtain ⟨S, hR, _⟩ := (hP W hk).mine
    exact last_blk g gr _ _ m _ true W (hP W hk).blk (at_ring gr gone size S m W hR (by omega) u hu1)
  · refine ⟨str (kept gone size), 0, false, -1, hkept, fun W hk => ?_, fun W => ref_at_no (str (kept gone size)) d W (by omega) (by omega), .inr ⟨rfl, rfl⟩, hheld, hseen, hends, by omega, by omega⟩
    obtain ⟨S, hR, _⟩ := (hP W hk).mine
    exact last_blk g gr _ _ d _ false W (hP W hk).blk (at_no gr gone size S d W hR (by omega))

/-- All acts are such that the law speaks of them. -/
def Good (acts : List (Int × Int × ByteArray)) (k : Nat) : Prop := ∀ i (hi : i < acts.length), i < k → acts[i].2.2.size ≤ 50 ∧ 0 ≤ acts[i].1 ∧ acts[i].1 ≤ 3

def PaneInv (w wr : World) (zb g gr size k : Nat) : Prop := ∃ gone rest closed, PMine w wr g gr gone rest closed size ∧ Blk wr zb 50 #[.string (str gone), .string (str rest), .bool closed] ∧ gone.length + rest.length ≤ k * 50 ∧ w.heap.size ≤ zb

set_option maxHeartbeats 8000000 in
theorem pane_law (size : Int) (A : Option Addr) (n c : Nat) (acts : List (Int × Int × ByteArray)) (d : Int) (w : World) (hn : n ≤ 20) (hl : acts.length = n) (hb : ∀ a ∈ acts, (-9223372036854775808 ≤ a.1 ∧ a.1 ≤ 9223372036854775807) ∧ (-9223372036854775808 ≤ a.2.1 ∧ a.2.1 ≤ 9223372036854775807) ∧ a.2.2.size ≤ maxLen)
    (hA : ∀ W, Pure' w W → ∀ k (hk : k < acts.length), ActAt W A k acts[k]) :
    Calls Try.prog 7 #[.int .i64 size, .slice A n c, .int .i64 d] w fun e w' => e = .returned (.bool true) ∧ Pure' w w' := by
  have HA := Lib.hid hA
  have HB := Lib.hid hb
  have HL := Lib.hid hl
  clear hA hb hl
  go_enter Try.func7, Try.ntmps7
  go_wp2
  go_loopw [7] (fun v wr => ∃ k : Nat, k ≤ n ∧ v = .int .i64 k ∧ Good acts k ∧ Pure' w wr) (fun v _ => n - (intOf v).toNat)
  case atStart => exact ⟨0, Nat.zero_le _, rfl, (fun i _ h => absurd h (Nat.not_lt_zero _)), Keeps.refl _ _⟩
  case round =>
    obtain ⟨k, hk, rfl, hI, hp⟩ := hrel
    have HP := Lib.hid hp
    have HI := Lib.hid hI
    clear hp hI
    by_cases hlt : k < n
    · have hkl : k < acts.length := by have := HL.out; omega
      obtain ⟨ad, rfl, c0, c1, c2⟩ := (HA.out wr HP.out k hkl).at_
      have hbk := HB.out acts[k] (List.getElem_mem hkl)
      obtain ⟨hb1, hb2, hb3⟩ := hbk
      unfold maxLen at hb3
      have HG : Hid (acts[k].2.2.size ≤ 50 → 0 ≤ acts[k].1 → acts[k].1 ≤ 3 → Good acts (k + 1)) := Lib.hid fun h1 h2 h3 i hi hik => by
        rcases Nat.lt_or_ge i k with h | h
        · exact HI.out i hi h
        · obtain rfl : i = k := by omega
          exact ⟨h1, h2, h3⟩
      generalize acts[k] = a at *
      have hcase : 50 < a.2.2.size ∨ (a.2.2.size ≤ 50 ∧ (a.1 < 0 ∨ (0 ≤ a.1 ∧ (3 < a.1 ∨ a.1 ≤ 3)))) := by omega
      rcases hcase with h1 | ⟨h1, h2 | ⟨h2, h3 | h3⟩⟩
      · go_wp2_with (go_at_call 28; refine (awake35_ HP.out).mono ?_; rintro e w2 ⟨rfl, hp2⟩)
        go_ret
        exact ⟨rfl, hp2⟩
      · go_wp2_with (go_at_call 28; refine (awake35_ HP.out).mono ?_; rintro e w2 ⟨rfl, hp2⟩)
        go_ret
        exact ⟨rfl, hp2⟩
      · go_wp2_with (go_at_call 28; refine (awake35_ HP.out).mono ?_; rintro e w2 ⟨rfl, hp2⟩)
        go_ret
        exact ⟨rfl, hp2⟩
      · go_wp2
        go_roundw
        case rel => exact ⟨k + 1, by omega, by go_num, HG.out h1 h2 h3, HP.out⟩
        case measure => simp [intOf]; omega
    · obtain rfl : k = n := by omega
      by_cases hz : size < 1 ∨ 65536 < size
      · have HBd := Lib.hid (fun W => pnew_bad size W hz)
        have hcase : size < 1 ∨ (¬ size < 1 ∧ 65536 < size) := by omega
        clear hz
        rcases hcase with hz | ⟨hz, hz2⟩ <;>
        · go_wp2_with (first
            | (go_at_call 29; refine (HBd.out _).mono ?_; rintro e w' ⟨rfl, rfl⟩)
            | (go_at_call 28; refine (awake35_ HP.out).mono ?_; rintro e w2 ⟨rfl, hp2⟩))
          go_ret
          exact ⟨rfl, hp2⟩
      · obtain ⟨z, rfl⟩ := Int.eq_ofNat_of_zero_le (show 0 ≤ size by omega)
        have hz1 : 1 ≤ z := by omega
        have hz2 : z ≤ 65536 := by omega
        clear hz
        have HM := Lib.hid (PMine.made wr z hz1 hz2)
        go_wp2_with fail
        refine (pnew_ok z _ (by omega) (by omega)).mono ?_
        rintro e w1 ⟨rfl, hw1⟩
        rw [← hw1] at HM
        clear hw1
        generalize wr.heap.size = gr at *
        go_wp2
        have HPI : Hid (PaneInv w (w1.alloc (.cells #[.string ⟨#[]⟩, .string ⟨#[]⟩, .bool false] 50)) w1.heap.size (gr + 1) gr z 0) := by
          have hm : PMine w w1 (gr + 1) gr [] [] false z := by
            obtain ⟨S, h1, h2, h3, h4, h5, h6⟩ := HM.out
            exact ⟨S, h1, h2, h3, Nat.le_trans HP.out.size h4, fun b hb => ⟨Nat.le_trans HP.out.size (h5 b hb).1, (h5 b hb).2⟩, HP.out.then_ h6⟩
          exact Lib.hid ⟨[], [], false, hm.pure ((Keeps.refl _ _).alloc _), Blk.new w1 _ _, Nat.le_refl _, hm.p.size⟩
        generalize w1.heap.size = zb at *
        clear HM
        go_loopw [11] (fun v wr => ∃ i : Nat, i ≤ k ∧ v = .int .i64 i ∧ PaneInv w wr zb (gr + 1) gr z i) (fun v _ => k - (intOf v).toNat)
        case atStart => exact ⟨0, Nat.zero_le _, rfl, HPI.out⟩
        case round =>
          clear HPI
          obtain ⟨i, hi, rfl, gone, rest, closed, hm, hb, hsz, hzb⟩ := hrel
          have HM := Lib.hid hm
          have HBl := Lib.hid hb
          clear hm hb
          by_cases hlt : i < k
          · have hkl : i < acts.length := by have := HL.out; omega
            obtain ⟨ad, rfl, c0, c1, c2⟩ := (HA.out _ HM.out.p i hkl).at_
            obtain ⟨hb1, hb2, hb3⟩ := HB.out acts[i] (List.getElem_mem hkl)
            obtain ⟨hg1, hg2, hg3⟩ := HI.out i hkl (by omega)
            have HAi := Lib.hid (fun W hW => HA.out W hW i hkl)
            generalize acts[i] = a at *
            have k0 := HBl.out.cell 0
            have k1 := HBl.out.cell 1
            have k2 := HBl.out.cell 2
            have hwz : w.heap.size ≤ wr.heap.size := HM.out.p.size
            have hne : zb ≠ wr.heap.size := Nat.ne_of_lt HBl.out.lt
            go_wp2_with fail
            go_region_held3 (fun W => W.cell? ⟨zb, 0, none⟩ = some (.string (str gone)) ∧ W.cell? ⟨zb, 1, none⟩ = some (.string (str rest)) ∧ W.cell? ⟨zb, 2, none⟩ = some (.bool closed) ∧ W.cell? (ad.add (i * 3)) = some (.int .i64 a.1) ∧ W.cell? ⟨(ad.add (i * 3)).block, (ad.add (i * 3)).off + 1, none⟩ = some (.int .i64 a.2.1) ∧ W.cell? ⟨(ad.add (i * 3)).block, (ad.add (i * 3)).off + 2, none⟩ = some (.string a.2.2))
              (first
                | exact ⟨k0, k1, k2, c0, c1, c2⟩
                | exact ⟨q0, q1, q2, q3, q4, q5⟩
                | exact ⟨(HBl.out.alloc _).cell 0, (HBl.out.alloc _).cell 1, (HBl.out.alloc _).cell 2, (HAi.out _ (HM.out.p.alloc _)).cells.1, (HAi.out _ (HM.out.p.alloc _)).cells.2.1, (HAi.out _ (HM.out.p.alloc _)).cells.2.2⟩
                | exact ⟨(HB2.out.alloc _).cell 0, (HB2.out.alloc _).cell 1, (HB2.out.alloc _).cell 2, (HAi.out _ (HM2.out.p.alloc _)).cells.1, (HAi.out _ (HM2.out.p.alloc _)).cells.2.1, (HAi.out _ (HM2.out.p.alloc _)).cells.2.2⟩
                | exact ⟨(((HB2.out.off hne).off hne).off hne).cell 0, (((HB2.out.off hne).off hne).off hne).cell 1, (((HB2.out.off hne).off hne).off hne).cell 2, (HAi.out _ (((HM2.out.p.setCell (.inr hwz) _).setCell (.inr hwz) _).setCell (.inr hwz) _)).cells.1, (HAi.out _ (((HM2.out.p.setCell (.inr hwz) _).setCell (.inr hwz) _).setCell (.inr hwz) _)).cells.2.1, (HAi.out _ (((HM2.out.p.setCell (.inr hwz) _).setCell (.inr hwz) _).setCell (.inr hwz) _)).cells.2.2⟩)
              (first
                | (go_at_call 30; refine (does_walk (HM.out.pure ((Keeps.refl _ wr).drew)) a.1 a.2.1 a.2.2 ⟨hg2, hg3⟩ (by omega) hb2).mono ?_; rintro e w2 ⟨gone', rest', closed', rfl, hm2, ht2, hl2⟩; have HM2 := Lib.hid hm2; have HB2 := Lib.hid (ht2 zb 50 _ (by decide) (by decide) (by decide) HBl.out); have q0 := HB2.out.cell 0; have q1 := HB2.out.cell 1; have q2 := HB2.out.cell 2; obtain ⟨q3, q4, q5⟩ := (HAi.out w2 hm2.p).cells; clear hm2 ht2)
                | (go_at_call 30; refine (does_walk (HM.out.pure (((Keeps.refl _ wr).alloc _).drew)) a.1 a.2.1 a.2.2 ⟨hg2, hg3⟩ (by omega) hb2).mono ?_; rintro e w2 ⟨gone', rest', closed', rfl, hm2, ht2, hl2⟩; have HM2 := Lib.hid hm2; have HB2 := Lib.hid (ht2 zb 50 _ (by decide) (by decide) (by decide) (HBl.out.alloc _)); have q0 := HB2.out.cell 0; have q1 := HB2.out.cell 1; have q2 := HB2.out.cell 2; obtain ⟨q3, q4, q5⟩ := (HAi.out w2 hm2.p).cells; have H12 := Lib.hid (ht2 wr.heap.size 50 _ (by decide) (by decide) (by decide) (Blk.new wr _ _)); have y0 := H12.out.cell 0; have y1 := H12.out.cell 1; have y2 := H12.out.cell 2; have x0 := H12.out.frozen 0; have x1 := H12.out.frozen 1; have x2 := H12.out.frozen 2; clear hm2 ht2))
            · have D12 := Blk.new w2 50 #[.string (str gone'), .string (str rest'), .bool closed']
              have DB := HB2.out.alloc (.cells #[.string (str gone'), .string (str rest'), .bool closed'] 50)
              have DM := HM2.out.pure ((Keeps.refl _ w2).alloc (.cells #[.string (str gone'), .string (str rest'), .bool closed'] 50))
              generalize w2.alloc (.cells #[.string (str gone'), .string (str rest'), .bool closed'] 50) = W3 at *
              generalize w2.heap.size = z12 at *
              have z0 := D12.cell 0
              have z1 := D12.cell 1
              have z2 := D12.cell 2
              have zf0 := DB.frozen 0
              have zf1 := DB.frozen 1
              have zf2 := DB.frozen 2
              have zc0 := DB.cell 0
              have zc1 := DB.cell 1
              have zc2 := DB.cell 2
              have HD := Lib.hid DB
              have HDM := Lib.hid DM
              clear DB D12 DM
              go_wp2_with fail
              have D4 := Blk.to (((HD.out.set_ 0 (.string (str gone'))).set_ 1 (.string (str rest'))).set_ 2 (.bool closed')) (cs' := #[.string (str gone'), .string (str rest'), .bool closed']) (by simp)
              have M4 := ((HDM.out.setO HD.out (i := 0) (u := .string (str gone')) (by decide) (by decide) (by decide) hzb).setO (HD.out.set_ 0 (.string (str gone'))) (i := 1) (u := .string (str rest')) (by decide) (by decide) (by decide) hzb).setO ((HD.out.set_ 0 (.string (str gone'))).set_ 1 (.string (str rest'))) (i := 2) (u := .bool closed') (by decide) (by decide) (by decide) hzb
              generalize ((W3.setCell ⟨zb, 0, none⟩ (.string (str gone'))).setCell ⟨zb, 1, none⟩ (.string (str rest'))).setCell ⟨zb, 2, none⟩ (.bool closed') = W4 at *
              obtain ⟨K, cc, is, kk, hPA⟩ := M4.paneAt (by omega) d
              have HPA := Lib.hid hPA
              have v0 := D4.cell 0
              have v1 := D4.cell 1
              have v2 := D4.cell 2
              have vp := M4.blk.cell 0
              have HM4 := Lib.hid (fun q => M4.drewN q)
              have HD4 := Lib.hid (fun q => D4.drewN q)
              have hks := hPA.ksz
              have hkb := hPA.kkb
              have hrel := hPA.rel
              have hgz : (str gone').size ≤ 1000000 := by rw [str_size]; omega
              have hrz : (str rest').size ≤ 1000000 := by rw [str_size]; omega
              have HL2 := Lib.hid hl2
              clear hPA M4 D4 hl2 z0 z1 z2 zf0 zf1 zf2 zc0 zc1 zc2 HD HDM
              rcases hrel with ⟨rfl, rfl⟩ | ⟨rfl, rfl⟩ <;> cases closed' <;>
              · as_aux_lemma =>
                  go_wp2_with (first
                    | (go_at_call 31; refine (HPA.out.kept_ _).mono ?_; rintro e w' ⟨rfl, rfl⟩)
                    | (go_at_call 32; refine (HPA.out.last _ (Keeps.refl _ _)).mono ?_; rintro e w' ⟨rfl, rfl⟩)
                    | (go_at_call 33; refine (HPA.out.rat _).mono ?_; rintro e w' ⟨rfl, rfl⟩)
                    | fail)
                  simp only [List.append_eq, List.cons_append, List.nil_append]
                  go_quiet ((first | (go_at_call 34; exact Calls.quiet_of (HPA.out.held _ (drewN_pure _ _))) | (go_at_call 35; exact quietL (waits_blk (gr + 1) _ _ _ _ (HM4.out _).blk)) | (go_at_call 36; exact quietL (over_blk (gr + 1) _ _ _ _ (HM4.out _).blk)) | (go_at_call 22; exact quietL (HPA.out.seen _ (drewN_pure _ _))) | (go_at_call 19; exact quietL (HPA.out.ends _ (drewN_pure _ _)))))
                  go_wp2
                  go_roundw
                  case rel => exact ⟨i + 1, by omega, by go_num, gone', rest', _, HM4.out _, HD4.out _, by have := HL2.out; omega, hzb⟩
                  case measure => simp [intOf]; omega
            · have D12 := Blk.to (((H12.out.set_ 0 (.string (str gone'))).set_ 1 (.string (str rest'))).set_ 2 (.bool closed')) (cs' := #[.string (str gone'), .string (str rest'), .bool closed']) (by simp)
              have DB := ((HB2.out.off (u := .string (str gone')) (i := 0) hne).off (u := .string (str rest')) (i := 1) hne).off (u := .bool closed') (i := 2) hne
              have DM := ((HM2.out.setO H12.out (i := 0) (u := .string (str gone')) (by decide) (by decide) (by decide) hwz).setO (H12.out.set_ 0 (.string (str gone'))) (i := 1) (u := .string (str rest')) (by decide) (by decide) (by decide) hwz).setO ((H12.out.set_ 0 (.string (str gone'))).set_ 1 (.string (str rest'))) (i := 2) (u := .bool closed') (by decide) (by decide) (by decide) hwz
              clear y0 y1 y2 x0 x1 x2 H12
              generalize ((w2.setCell ⟨wr.heap.size, 0, none⟩ (.string (str gone'))).setCell ⟨wr.heap.size, 1, none⟩ (.string (str rest'))).setCell ⟨wr.heap.size, 2, none⟩ (.bool closed') = W3 at *
              generalize wr.heap.size = z12 at *
              have z0 := D12.cell 0
              have z1 := D12.cell 1
              have z2 := D12.cell 2
              have zf0 := DB.frozen 0
              have zf1 := DB.frozen 1
              have zf2 := DB.frozen 2
              have zc0 := DB.cell 0
              have zc1 := DB.cell 1
              have zc2 := DB.cell 2
              have HD := Lib.hid DB
              have HDM := Lib.hid DM
              clear DB D12 DM
              go_wp2_with fail
              have D4 := Blk.to (((HD.out.set_ 0 (.string (str gone'))).set_ 1 (.string (str rest'))).set_ 2 (.bool closed')) (cs' := #[.string (str gone'), .string (str rest'), .bool closed']) (by simp)
              have M4 := ((HDM.out.setO HD.out (i := 0) (u := .string (str gone')) (by decide) (by decide) (by decide) hzb).setO (HD.out.set_ 0 (.string (str gone'))) (i := 1) (u := .string (str rest')) (by decide) (by decide) (by decide) hzb).setO ((HD.out.set_ 0 (.string (str gone'))).set_ 1 (.string (str rest'))) (i := 2) (u := .bool closed') (by decide) (by decide) (by decide) hzb
              generalize ((W3.setCell ⟨zb, 0, none⟩ (.string (str gone'))).setCell ⟨zb, 1, none⟩ (.string (str rest'))).setCell ⟨zb, 2, none⟩ (.bool closed') = W4 at *
              obtain ⟨K, cc, is, kk, hPA⟩ := M4.paneAt (by omega) d
              have HPA := Lib.hid hPA
              have v0 := D4.cell 0
              have v1 := D4.cell 1
              have v2 := D4.cell 2
              have vp := M4.blk.cell 0
              have HM4 := Lib.hid (fun q => M4.drewN q)
              have HD4 := Lib.hid (fun q => D4.drewN q)
              have hks := hPA.ksz
              have hkb := hPA.kkb
              have hrel := hPA.rel
              have hgz : (str gone').size ≤ 1000000 := by rw [str_size]; omega
              have hrz : (str rest').size ≤ 1000000 := by rw [str_size]; omega
              have HL2 := Lib.hid hl2
              clear hPA M4 D4 hl2 z0 z1 z2 zf0 zf1 zf2 zc0 zc1 zc2 HD HDM
              rcases hrel with ⟨rfl, rfl⟩ | ⟨rfl, rfl⟩ <;> cases closed' <;>
              · as_aux_lemma =>
                  go_wp2_with (first
                    | (go_at_call 31; refine (HPA.out.kept_ _).mono ?_; rintro e w' ⟨rfl, rfl⟩)
                    | (go_at_call 32; refine (HPA.out.last _ (Keeps.refl _ _)).mono ?_; rintro e w' ⟨rfl, rfl⟩)
                    | (go_at_call 33; refine (HPA.out.rat _).mono ?_; rintro e w' ⟨rfl, rfl⟩)
                    | fail)
                  simp only [List.append_eq, List.cons_append, List.nil_append]
                  go_quiet ((first | (go_at_call 34; exact Calls.quiet_of (HPA.out.held _ (drewN_pure _ _))) | (go_at_call 35; exact quietL (waits_blk (gr + 1) _ _ _ _ (HM4.out _).blk)) | (go_at_call 36; exact quietL (over_blk (gr + 1) _ _ _ _ (HM4.out _).blk)) | (go_at_call 22; exact quietL (HPA.out.seen _ (drewN_pure _ _))) | (go_at_call 19; exact quietL (HPA.out.ends _ (drewN_pure _ _)))))
                  go_wp2
                  go_roundw
                  case rel => exact ⟨i + 1, by omega, by go_num, gone', rest', _, HM4.out _, HD4.out _, by have := HL2.out; omega, hzb⟩
                  case measure => simp [intOf]; omega
          · obtain rfl : i = k := by omega
            go_wp2_with (go_at_call 28; refine (awake35_ HM.out.p).mono ?_; rintro e w2 ⟨rfl, hp2⟩)
            go_ret
            exact ⟨rfl, hp2⟩

theorem sees_row (w : World) (size : Int) (A : Option Addr) (n c : Nat) (acts : List (Int × Int × ByteArray)) (d : Int) (hz : -9223372036854775808 ≤ size ∧ size ≤ 9223372036854775807)
    (hl : n ≤ c ∧ n ≤ maxLen ∧ Sees w w.heap.size 3 A n (acts.flatMap fun a => [.int .i64 a.1, .int .i64 a.2.1, .string a.2.2]) ∧ ∀ a ∈ acts, (-9223372036854775808 ≤ a.1 ∧ a.1 ≤ 9223372036854775807) ∧ (-9223372036854775808 ≤ a.2.1 ∧ a.2.1 ≤ 9223372036854775807) ∧ a.2.2.size ≤ maxLen)
    (hd : -9223372036854775808 ≤ d ∧ d ≤ 9223372036854775807) :
    Calls Try.prog 7 #[.int .i64 size, .slice A n c, .int .i64 d] w fun e w' => e = .returned (.bool true) ∧ Pure' w w' := by
  by_cases hn : n ≤ 20
  · have hlen : acts.length = n := by
      have h3 : ∀ l : List (Int × Int × ByteArray), (l.flatMap fun a => [Value.int .i64 a.1, .int .i64 a.2.1, .string a.2.2]).length = l.length * 3 := by
        intro l
        induction l with
        | nil => rfl
        | cons a l ih => rw [List.flatMap_cons, List.length_append, ih]; simp; omega
      have := hl.2.2.1.1
      rw [h3] at this
      omega
    exact pane_law size A n c acts d w hn hlen hl.2.2.2 fun W hW k hk => ActAt.of hl.2.2.1 hlen (Nat.le_refl _) hW k hk
  · exact pane_out size A n c d w (by omega) hl.2.1
end Go.Proofs.Ytacodojaolnhnaa
