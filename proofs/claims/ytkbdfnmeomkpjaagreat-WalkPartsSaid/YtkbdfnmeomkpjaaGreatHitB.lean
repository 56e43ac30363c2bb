/- Same hits, hits behind a place, what is open: the reference; no condition but the sizes. -/
import Derived.Test.YtkbdfnmeomkpjaaGreatHitA
namespace Go.Proofs.YtkbdfnmeomkpjaaGreat
open Go.RowKit
set_option linter.unusedVariables false
set_option linter.unusedSimpArgs false
set_option maxRecDepth 100000

theorem hsame_ (A1 A2 : Option Addr) (n c1 c2 B1 B2 : Nat) (L : List HitT) (w : World) (h1 : Sees w B1 2 A1 n (htVs L)) (h2 : Sees w B2 2 A2 n (htVs L)) (hn : n ≤ 1000000000) :
    Calls Tryz.prog 33 #[.slice A1 n c1, .slice A2 n c2] w fun e w' => e = .returned (.bool true) ∧ Pure' w w' := by
  have HS1 := Lib.hid h1
  have HS2 := Lib.hid h2
  clear h1 h2
  go_enter Tryz.func33, Tryz.ntmps33
  go_wp2
  go_loopg [5] n (fun gh v5 wr => ∃ k : Nat, k + gh = n ∧ v5 = .int .i64 (k : Int) ∧ RowKit.Hid (∃ q, wr = w.drewN q))
  case atStart => exact ⟨0, by omega, rfl, Lib.hid ⟨0, rfl⟩⟩
  case round =>
    obtain ⟨k, hkg, rfl, HQ⟩ := hrel
    cases gk with
    | zero =>
      obtain rfl : k = n := by omega
      go_wp2
      go_ret
      exact ⟨rfl, by obtain ⟨q, e⟩ := HQ.out; rw [e]; exact (Keeps.refl _ w).drewN q⟩
    | succ g3 =>
      have hki : (k : Int) < (n : Int) := by omega
      have hW : Sees wr B1 2 A1 n (htVs L) ∧ Sees wr B2 2 A2 n (htVs L) := by
        obtain ⟨q, e⟩ := HQ.out
        rw [e]
        exact ⟨HS1.out, HS2.out⟩
      obtain ⟨b1, o1, x, rfl, hx, y1, y2⟩ := hit_at hW.1 (show k < n by omega)
      obtain ⟨b2, o2, x2, rfl, hx2, z1, z2⟩ := hit_at hW.2 (show k < n by omega)
      obtain rfl : x = x2 := by rw [hx] at hx2; injection hx2
      have HQ2 := Lib.hid (show ∃ q, wr.drew = w.drewN q by obtain ⟨q, e⟩ := HQ.out; exact ⟨q + 1, by rw [e]; rfl⟩)
      clear hx hx2 hW HQ
      go_wp2
      go_region
      go_wp2
      go_roundg g3
      case measure => omega
      case rel => exact ⟨k + 1, by omega, by go_num, HQ2⟩

theorem Sees.grown {W w3 : World} {B size n b0 o0 : Nat} {xs : List Value} {row : Option Nat} (h : Sees W B size (some ⟨b0, o0, none⟩) n xs) (hg : W.grownBy w3 row) (hne : row ≠ some b0) (hB : B ≤ W.heap.size) : Sees w3 B size (some ⟨b0, o0, none⟩) n xs :=
  ⟨h.1, fun hn => by
    obtain ⟨ad, e, hb, hc⟩ := h.2 hn
    cases e
    exact ⟨_, rfl, hb, fun j u hu => (World.cell?_of_block (by rw [addBlock]; exact hg.block b0 (by simp at hb; omega) (fun e => hne e.symm))).trans (hc j u hu)⟩⟩
def feedL (l : List (List UInt8)) (s : List UInt8) (a : Int) : List HitT := (allL l s).filter fun x => decide (a < (x.1 : Int))
def feedK (L : List HitT) (a : Int) (k : Nat) : List HitT := (L.take k).filter fun x => decide (a < (x.1 : Int))
theorem feedK_succ {L : List HitT} {a : Int} {k : Nat} {x : HitT} (h : L[k]? = some x) : feedK L a (k + 1) = feedK L a k ++ if a < (x.1 : Int) then [x] else [] := by
  unfold feedK
  rw [List.take_add_one, h, List.filter_append]
  congr 1
  by_cases q : a < (x.1 : Int) <;> simp [q]
theorem feedK_len (L : List HitT) (a : Int) (k : Nat) : (feedK L a k).length ≤ L.length := by
  unfold feedK
  refine Nat.le_trans (List.length_filter_le _ _) ?_
  rw [List.length_take]; omega

set_option maxHeartbeats 4000000 in
theorem rfeed_ (A : Option Addr) (n c B : Nat) (l : List (List UInt8)) (s : List UInt8) (a : Int) (w : World) (h : Sees w B 1 A n (strVs l)) (hB : B ≤ w.heap.size) (hn : n ≤ 100) (hs : s.length ≤ 100000) (hll : ∀ x ∈ l, x.length ≤ 100000) (hlen : (allL l s).length ≤ 100000000) :
    Calls Tryz.prog 34 #[.slice A n c, .string ⟨s.toArray⟩, .int .i64 a] w fun e w' => ∃ A' c', e = .returned (.slice A' (feedL l s a).length c') ∧ Hs w w' (.slice A' (feedL l s a).length c') (feedL l s a) := by
  have HRA := Lib.hid (fun (W : World) (hW : Pure' w W) => rall_ A n c B l s W (h.pure hW hB) (by have := hW.size; omega) hn hs hll)
  obtain ⟨i0, hi, hz0, hz1, hz2⟩ := info_parts htInfo
  have HN0 := Lib.hid (show Hs w (w.alloc (.cells #[] 103)) (.slice (some ⟨w.heap.size, 0, none⟩) 0 0) [] from
    ⟨⟨by simp [htVs], .inr ⟨w.heap.size, 0, _, rfl, Nat.zero_le _, Blk.new w _ _, Nat.le_refl _, by decide, by simp, by simp [htVs]⟩⟩, fun b hb => by simp [Value.ownBlock] at hb; omega, (Keeps.refl _ w).alloc _⟩)
  have HFL := Lib.hid (show feedK (allL l s) a (allL l s).length = feedL l s a by unfold feedK feedL; rw [List.take_length])
  rw [← HFL.out]
  obtain ⟨L, hL⟩ : ∃ L, allL l s = L := ⟨_, rfl⟩
  rw [hL] at HRA hlen ⊢
  obtain ⟨m, hm⟩ : ∃ m, L.length = m := ⟨_, rfl⟩
  have HM := Lib.hid hm
  rw [hm] at HRA hlen ⊢
  clear h hll hL hm HFL
  go_enter Tryz.func34, Tryz.ntmps34
  go_wp2_with fail
  refine (HRA.out _ ((Keeps.refl _ w).alloc _)).mono ?_
  rintro e w1 ⟨A2, c2, rfl, hh⟩
  have HSE := Lib.hid (show Sees w1 w1.heap.size 2 A2 m (htVs L) by have := hh.row; rw [HM.out] at this; exact this.sees)
  have HN1 := Lib.hid (HN0.out.then_ hh.pure)
  have HD0 := Lib.hid (show ∀ b b0 o0, (Value.slice (some ⟨w.heap.size, 0, none⟩) 0 0).ownBlock = some b → A2 = some ⟨b0, o0, none⟩ → b0 ≠ b from fun b b0 o0 h1 h2 e => by
    subst h2; subst e
    have h3 := hh.own b0 (by simp [Value.ownBlock])
    simp [Value.ownBlock] at h1
    have : (w.alloc (.cells #[] 103)).heap.size = w.heap.size + 1 := by show (w.heap.push _).size = _; exact Array.size_push _
    omega)
  clear hh HN0
  go_wp2
  go_loopg [7, 9] m (fun gh v7 v9 wr => ∃ k : Nat, k + gh = m ∧ v9 = .int .i64 (k : Int) ∧ RowKit.Hid (Hs w wr v7 (feedK L a k)) ∧ RowKit.Hid (Sees wr wr.heap.size 2 A2 m (htVs L)) ∧ RowKit.Hid (∀ b b0 o0, v7.ownBlock = some b → A2 = some ⟨b0, o0, none⟩ → b0 ≠ b))
  case atStart => exact ⟨0, by omega, rfl, HN1, HSE, HD0⟩
  case round =>
    obtain ⟨k, hkg, rfl, HA, HS, HD⟩ := hrel
    clear HD0
    obtain ⟨a2, cp, rfl⟩ := HA.out.form
    cases gk with
    | zero =>
      obtain rfl : k = m := by omega
      go_wp2
      go_ret
      exact ⟨a2, cp, rfl, HA.out⟩
    | succ g3 =>
      have hki : (k : Int) < (m : Int) := by omega
      obtain ⟨b0, o0, x, rfl, hx, y1, y2⟩ := hit_at HS.out (show k < m by omega)
      have HFS := Lib.hid (feedK_succ (a := a) hx)
      have hfl := feedK_len L a k
      rw [HM.out] at hfl
      obtain ⟨nL, hnL⟩ : ∃ q, (feedK L a k).length = q := ⟨_, rfl⟩
      rw [hnL] at HA HD hfl ⊢
      have HNL := Lib.hid hnL
      clear hx hnL
      by_cases hax : a < (x.1 : Int)
      · have HNX := Lib.hid (show feedK L a (k + 1) = feedK L a k ++ [x] by rw [HFS.out, if_pos hax])
        obtain ⟨e1, e2⟩ := x
        dsimp only at y1 y2 hax
        go_wp2_with (at_builtin; refine wpl_append _ rfl (.tmp 27) (.tmp 32) 58 rfl 103 i0 (.agg #[.int .i64 0, .int .i64 0]) 2 16 Tryz.underlying58 hi hz0 hz1 hz2 rfl (by decide) (.slice a2 nL cp) nL (htVs (feedK L a k)) rfl ?own ⟨wr.heap.size, 0, none⟩ 1 1 [.int .i64 (e1 : Int), .int .i64 e2] rfl rfl ?news ?one (by decide) ?b1 ?b2 ?kk)
        case own => have := Row.alloc HA.out.row (.cells #[.int .i64 (e1 : Int), .int .i64 e2] 103); rw [HNL.out] at this; exact this
        case one => exact ⟨rfl, rfl⟩
        case b1 => unfold maxLen; omega
        case b2 => omega
        case kk =>
          intro b1 cap1 w3 ho1 hg1 hb1 hl1
          have HM3 := Lib.hid (HA.out.more (x := (e1, e2)) HNL.out ho1 hg1 hb1)
          have HLN := Lib.hid (show (feedK L a (k + 1)).length = nL + 1 by rw [HNX.out, List.length_append, HNL.out]; rfl)
          have HS3 := Lib.hid (show Sees w3 w3.heap.size 2 (some ⟨b0, o0, none⟩) m (htVs L) from (((HS.out.pure ((Keeps.refl (fun _ => False) wr).alloc (.cells #[.int .i64 (e1 : Int), .int .i64 e2] 103)) (Nat.le_refl _)).more ((Keeps.refl (fun _ => False) wr).alloc (.cells #[.int .i64 (e1 : Int), .int .i64 e2] 103)).size).grown hg1 (fun e => HD.out b0 b0 o0 e rfl rfl) (Nat.le_refl _)).more hg1.size)
          have HD3 := Lib.hid (show ∀ b c0 p0, (Value.slice (some ⟨b1, 0, none⟩) (nL + 1) cap1).ownBlock = some b → (some ⟨b0, o0, none⟩ : Option Addr) = some ⟨c0, p0, none⟩ → c0 ≠ b from fun b c0 p0 h1 h2 e => by
            cases h2
            simp [Value.ownBlock] at h1
            subst h1; subst e
            rcases hb1 with q | q
            · exact HD.out b0 b0 o0 q rfl rfl
            · obtain ⟨ad, q1, q2, _⟩ := HS.out.2 (by omega)
              cases q1
              simp at q2
              have : (wr.alloc (.cells #[.int .i64 (e1 : Int), .int .i64 e2] 103)).heap.size = wr.heap.size + 1 := by show (wr.heap.push _).size = _; exact Array.size_push _
              omega)
          clear ho1 hg1 hb1
          go_wp2
          go_roundg g3
          case measure => omega
          case rel => exact ⟨k + 1, by omega, by go_num, by rw [HNX.out]; exact HM3, HS3, HD3⟩
      · have HNX := Lib.hid (show feedK L a (k + 1) = feedK L a k by rw [HFS.out, if_neg hax, List.append_nil])
        go_wp2
        go_roundg g3
        case measure => omega
        case rel => exact ⟨k + 1, by omega, by go_num, by rw [HNX.out]; exact HA, HS, HD⟩

end Go.Proofs.YtkbdfnmeomkpjaaGreat
