/- The law's own example; no condition. -/
import Derived.Test.YtkbdfnmeomkpjaaLnkS
namespace Go.Proofs.Ytkbdfnmeomkpjaa
open Go.RowKit
set_option linter.unusedVariables false
set_option linter.unusedSimpArgs false
set_option maxRecDepth 100000

theorem ints_at {w : World} {B n k : Nat} {A : Option Addr} {zs : List Int} (h : Sees w B 1 A n (zs.map (Value.int .i64))) (hk : k < n) : ∃ (ad : Addr) (z : Int), A = some ad ∧ zs[k]? = some z ∧ w.cell? (ad.add k) = some (.int .i64 z) := by
  obtain ⟨ad, u, hA, hu, hc⟩ := h.at_ hk
  have hl : k < zs.length := by have := h.1; simp at this; omega
  refine ⟨ad, zs[k], hA, List.getElem?_eq_getElem hl, ?_⟩
  rw [List.getElem?_map, List.getElem?_eq_getElem hl] at hu
  simp only [Option.map_some, Option.some.injEq] at hu
  rw [hc, hu]
theorem rsame_ (A1 A2 : Option Addr) (n c1 c2 B1 B2 : Nat) (zs : List Int) (w : World) (h1 : Sees w B1 1 A1 n (zs.map (Value.int .i64))) (h2 : Sees w B2 1 A2 n (zs.map (Value.int .i64))) (hn : n ≤ 1000000000) :
    Calls Try.prog 21 #[.slice A1 n c1, .slice A2 n c2] w fun e w' => e = .returned (.bool true) ∧ ∃ k, w' = w.drewN k := by
  have HS1 := Lib.hid h1
  have HS2 := Lib.hid h2
  clear h1 h2
  go_enter Try.func21, Try.ntmps21
  go_wp2
  go_loopw [5] (fun v5 wr => ∃ k : Nat, k ≤ n ∧ v5 = .int .i64 k ∧ ∃ q, wr = w.drewN q) (fun v5 _ => n - (intOf v5).toNat)
  case atStart => exact ⟨0, Nat.zero_le _, rfl, 0, rfl⟩
  case round =>
    obtain ⟨k, hk, rfl, q, rfl⟩ := hrel
    by_cases hlt : k < n
    · obtain ⟨ad1, z, rfl, hz1, hc1⟩ := ints_at HS1.out hlt
      obtain ⟨ad2, z2, rfl, hz2, hc2⟩ := ints_at HS2.out hlt
      obtain rfl : z = z2 := by rw [hz1] at hz2; injection hz2
      clear hz1 hz2
      go_wp2
      go_quiet (fail)
      go_wp2
      go_roundw
      case rel => exact ⟨k + 1, by omega, by go_num, _, rfl⟩
      case measure => simp [intOf]; omega
    · obtain rfl : k = n := by omega
      go_wp2
      go_ret
      exact ⟨rfl, _, rfl⟩

def AW : List (List UInt8) := [[104, 101], [104, 101, 114, 115], [115, 104, 101]]
def awl : List ByteArray := [⟨#[104, 101]⟩, ⟨#[104, 101, 114, 115]⟩, ⟨#[115, 104, 101]⟩]
theorem awl_ok : OkL awl := ⟨by simp [awl], by decide, by decide⟩
theorem aw_ord : AW.Pairwise (· < ·) := by decide
theorem aw_only {lp : List ByteArray} (h : lp.Perm awl) (ho : (bl lp).Pairwise (· < ·)) : bl lp = AW := by
  have hp : (bl lp).Perm AW := h.map _
  exact hp.eq_of_pairwise (le := fun a b => a < b) (fun a b _ _ h1 h2 => absurd h2 (lt_as h1)) ho aw_ord
theorem aw_states : statesL AW = [[], [104], [115], [104, 101], [115, 104], [104, 101, 114], [115, 104, 101], [104, 101, 114, 115]] := by decide
theorem aw_fail : lsuf (statesL AW) [104, 101] = 3 := by rw [aw_states]; decide
theorem aw_step : lsuf (statesL AW) ([115, 104, 101] ++ [114]) = 5 := by rw [aw_states]; decide
theorem aw_hits : hitsI AW [115, 104, 101] = [0, 2] := by decide
theorem aw_idx (hs : Sts AW (statesL AW)) {t k : Nat} {p : List UInt8} (h : (statesL AW)[t]? = some p) (hk : (statesL AW)[k]? = some p) : t = k := by
  rw [← hs.idx h, hs.idx hk]

theorem sees_new (w : World) (e : TypeId) (us : List Value) (n : Nat) (hn : us.length = n) : Sees (w.alloc (.cells us.toArray e)) (w.alloc (.cells us.toArray e)).heap.size 1 (some ⟨w.heap.size, 0, none⟩) n us := by
  refine ⟨by omega, fun _ => ⟨_, rfl, ?_, fun j u hu => ?_⟩⟩
  · show w.heap.size < (w.heap.push _).size
    rw [Array.size_push]; exact Nat.lt_succ_self _
  · rw [show (⟨w.heap.size, 0, none⟩ : Addr).add j = ⟨w.heap.size, j, none⟩ from by unfold Addr.add; split <;> simp_all, (Blk.new w e us.toArray).cell]
    simpa using hu
set_option maxHeartbeats 4000000 in
theorem awake_ (w : World) : Calls Try.prog 29 #[] w fun e w' => e = .returned (.bool true) ∧ Pure' w w' := by
  have HNEW := Lib.hid (new_ (some ⟨w.heap.size, 0, none⟩) 3 3 _ awl (w.alloc (.cells #[.string ⟨#[104, 101]⟩, .string ⟨#[104, 101, 114, 115]⟩, .string ⟨#[115, 104, 101]⟩] 9)) (sees_new w 9 _ 3 rfl) (Nat.le_refl _) (by decide) (by decide))
  go_enter Try.func29, Try.ntmps29
  go_wp2_with fail
  refine HNEW.out.mono ?_
  rintro e w1 ⟨x, er, lp, rfl, hc, hset, hk⟩
  rcases hc with ⟨_, rfl, hp, ho⟩ | ⟨hno, _⟩
  case inr => exact absurd awl_ok hno
  have hord := new_ord (l := awl) (lp := lp) (.inl ⟨awl_ok, hp, ho⟩)
  have hfew := new_few (l := awl) (lp := lp) (N := 12) (M := 20) (.inl hp) (by decide) (by decide)
  have hbl := aw_only hp hord.1
  have hlink := newLink_ x lp w1 hset hfew.1 hfew.2 hord.1 hord.2
  rw [hbl] at hlink
  have HLK := Lib.hid hlink
  have HK1 := Lib.hid (((Keeps.refl (fun _ => False) w).alloc _).trans hk (fun _ _ hf => hf))
  clear hp ho hord hfew hbl hlink hk hset HNEW
  go_wp2_with fail
  refine HLK.out.mono ?_
  rintro e w2 ⟨g, tg, b, cap, fb, ob, S, F, O, rfl, hlk, hf, ho, _, hk2⟩
  have HLI := Lib.hid (show LkI w2 g tg b cap fb ob AW S F O from ⟨hlk, hf, ho⟩)
  have HK2 := Lib.hid (HK1.out.trans hk2 (fun _ _ hf => hf))
  have HST := Lib.hid hlk.ti.sts
  clear hlk hf ho hk2 HLK HK1
  have HTR := Lib.hid (fun (W : World) (hW : Pure' w2 W) => ltrie_ g tg b cap fb ob AW S F O W (HLI.out.pure hW).lk)
  have HFI := Lib.hid (fun (W : World) (hW : Pure' w2 W) (p : List UInt8) (hp : p ∈ statesL AW) (hl : p.length ≤ 1000) => find_ tg b cap AW S p W (HLI.out.pure hW).lk.ti hp hl)
  have h3 : (statesL AW)[3]? = some [104, 101] := by rw [aw_states]; rfl
  have h5 : (statesL AW)[5]? = some [104, 101, 114] := by rw [aw_states]; rfl
  have h6 : (statesL AW)[6]? = some [115, 104, 101] := by rw [aw_states]; rfl
  have H3 := Lib.hid h3
  have H5 := Lib.hid h5
  have H6 := Lib.hid h6
  clear h3 h5 h6
  go_wp2_with fail
  refine (HTR.out _ (Keeps.refl _ _)).mono ?_
  rintro e w3 ⟨rfl, rfl⟩
  go_wp2_with fail
  refine (HFI.out _ (Keeps.refl _ _) [115, 104, 101] (List.mem_of_getElem? H6.out) (by decide)).mono ?_
  rintro e w4 ⟨⟨t, rfl, ht⟩, k4, rfl⟩
  obtain rfl : t = 6 := aw_idx HST.out ht H6.out
  clear ht
  go_wp2_with fail
  refine (HTR.out _ (by (repeat (first | exact Keeps.refl _ _ | refine Keeps.drew ?_ | refine Keeps.alloc ?_ _ | refine Keeps.drewN ?_ _)))).mono ?_
  rintro e w5 ⟨rfl, rfl⟩
  go_wp2_with fail
  refine (HFI.out _ (by (repeat (first | exact Keeps.refl _ _ | refine Keeps.drew ?_ | refine Keeps.alloc ?_ _ | refine Keeps.drewN ?_ _))) [104, 101] (List.mem_of_getElem? H3.out) (by decide)).mono ?_
  rintro e w5 ⟨⟨t, rfl, ht⟩, k5, rfl⟩
  obtain rfl : t = 3 := aw_idx HST.out ht H3.out
  clear ht
  go_wp2_with fail
  refine (HTR.out _ (by (repeat (first | exact Keeps.refl _ _ | refine Keeps.drew ?_ | refine Keeps.alloc ?_ _ | refine Keeps.drewN ?_ _)))).mono ?_
  rintro e w5 ⟨rfl, rfl⟩
  go_wp2_with fail
  refine (HFI.out _ (by (repeat (first | exact Keeps.refl _ _ | refine Keeps.drew ?_ | refine Keeps.alloc ?_ _ | refine Keeps.drewN ?_ _))) [104, 101, 114] (List.mem_of_getElem? H5.out) (by decide)).mono ?_
  rintro e w6 ⟨⟨t, rfl, ht⟩, k6, rfl⟩
  obtain rfl : t = 5 := aw_idx HST.out ht H5.out
  clear ht HFI HTR
  go_wp2_with fail
  generalize hW : w3.drewN (k4 + k5 + k6) = W at *
  have HPW := Lib.hid (show Pure' w3 W by rw [← hW]; (repeat (first | exact Keeps.refl _ _ | refine Keeps.drew ?_ | refine Keeps.alloc ?_ _ | refine Keeps.drewN ?_ _)))
  clear hW
  have HFA := Lib.hid (fail_ g tg b cap fb ob AW S F O 6 _ W (HLI.out.pure HPW.out) H6.out)
  rw [show ([115, 104, 101] : List UInt8).tail = [104, 101] from rfl, aw_fail] at HFA
  have HHI := Lib.hid (hits_ g tg b cap fb ob AW S F O 6 _ W (HLI.out.pure HPW.out) H6.out (by decide))
  rw [aw_hits] at HHI
  have HSTP := Lib.hid (fun (W' : World) (hW : Pure' W W') => by
    have := step_ g tg b cap fb ob AW S F O 6 _ 114 W' ((HLI.out.pure HPW.out).pure hW) H6.out
    rw [aw_step] at this
    exact this)
  refine HFA.out.mono ?_
  rintro e w7 ⟨rfl, rfl⟩
  go_wp2_with fail
  refine HHI.out.mono ?_
  rintro e w8 ⟨A, c, rfl, hnm⟩
  have hse : Sees w8 w8.heap.size 1 A 2 (([0, 2] : List Int).map (Value.int .i64)) := hnm.row.sees
  have HSA := Lib.hid (rsame_ A (some ⟨w8.heap.size, 0, none⟩) 2 c 2 w8.heap.size _ [0, 2] (w8.alloc (.cells #[.int .i64 0, .int .i64 2] 3)) (hse.pure ((Keeps.refl _ w8).alloc _) (Nat.le_refl _)) (sees_new w8 3 _ 2 rfl) (by decide))
  have HK8 := Lib.hid hnm.pure
  clear hse hnm
  go_wp2_with fail
  refine HSA.out.mono ?_
  rintro e w9 ⟨rfl, k9, rfl⟩
  go_wp2_with fail
  refine (HSTP.out _ (HK8.out.trans ((Keeps.refl _ _).alloc _ |>.drewN k9) (fun _ _ hf => hf))).mono ?_
  rintro e w10 ⟨rfl, k10, rfl⟩
  go_wp2
  go_ret
  refine ⟨rfl, ?_⟩
  exact (HK2.out.trans (HPW.out.trans HK8.out (fun _ _ hf => hf)) (fun _ _ hf => hf)).trans (by (repeat (first | exact Keeps.refl _ _ | refine Keeps.drew ?_ | refine Keeps.alloc ?_ _ | refine Keeps.drewN ?_ _))) (fun _ _ hf => hf)

end Go.Proofs.Ytkbdfnmeomkpjaa
