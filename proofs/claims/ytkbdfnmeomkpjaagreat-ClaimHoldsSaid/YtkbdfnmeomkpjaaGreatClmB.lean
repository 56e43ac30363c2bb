/- A sight: no pattern is there, and those that are; no condition but the sizes. -/
import Derived.Test.YtkbdfnmeomkpjaaGreatClmA
namespace Go.Proofs.YtkbdfnmeomkpjaaGreat
open Go.RowKit
set_option linter.unusedVariables false
set_option linter.unusedSimpArgs false
set_option maxRecDepth 100000

set_option maxHeartbeats 1000000 in
theorem miss1_ (bs bd g p gr size : Nat) (x : Option Addr) (lp : List ByteArray) (s : List UInt8) (id d : Nat) (w : World) (h : SgI w g p gr x lp s size) (hb : SgB lp s size) (hid : id < lp.length)
    (c0 : w.cell? ⟨bs, 0, none⟩ = some (.pointer (some ⟨g, 0, none⟩))) (c1 : w.cell? ⟨bs, 1, none⟩ = some (.pointer (some ⟨p, 0, none⟩))) (c2 : w.cell? ⟨bd, 0, none⟩ = some (.int .i64 (d : Int))) :
    Calls Tryz.prog 77 #[.int .i64 (id : Int), .pointer (some ⟨bs, 0, none⟩), .pointer (some ⟨bd, 0, none⟩)] w fun e w' => e = .returned (.bool (!refB (bl lp) s id d)) ∧ Pure' w w' := by
  have HR := refuted_ g p gr size x lp s id d w h hb hid
  unfold sgV at HR
  have HR := Lib.hid HR
  generalize refB (bl lp) s id d = r at *
  clear h hb
  go_enter Tryz.func77, Tryz.ntmps77
  go_wp2_with fail
  refine HR.out.mono ?_
  rintro e w1 ⟨rfl, hk⟩
  have HK := Lib.hid hk
  clear hk
  go_wp2_with fail
  go_ret
  exact ⟨rfl, HK.out⟩
set_option maxHeartbeats 1000000 in
theorem indexI_ (bs bd g p gr size : Nat) (x : Option Addr) (lp : List ByteArray) (s : List UInt8) (d : Nat) (A : Option Addr) (n cap B : Nat) (E : List Nat) (w : World) (h : SgI w g p gr x lp s size) (hb : SgB lp s size)
    (hE : Sees w B 1 A n (idVs E)) (hB : B ≤ w.heap.size) (hid : ∀ i ∈ E, i < lp.length) (hn : n ≤ 1000)
    (c0 : w.cell? ⟨bs, 0, none⟩ = some (.pointer (some ⟨g, 0, none⟩))) (c1 : w.cell? ⟨bs, 1, none⟩ = some (.pointer (some ⟨p, 0, none⟩))) (c2 : w.cell? ⟨bd, 0, none⟩ = some (.int .i64 (d : Int))) :
    Calls Tryz.prog 105 #[.slice A n cap, .func (.func 77) #[] #[.pointer (some ⟨bs, 0, none⟩), .pointer (some ⟨bd, 0, none⟩)]] w fun e w' => (∃ v : Int, e = .returned (.int .i64 v) ∧ (0 ≤ v ↔ ∃ i ∈ E, refB (bl lp) s i d = false)) ∧ Pure' w w' := by
  have HF := Lib.hid (fun (i : Nat) (W : World) (hi : i ∈ E) (hW : Pure' w W) => miss1_ bs bd g p gr size x lp s i d W (h.pure hW) hb (hid i hi) (keepc c0 hW) (keepc c1 hW) (keepc c2 hW))
  have HEN := Lib.hid (show E.length = n by have := hE.1; rw [idVs_len] at this; omega)
  have HE := Lib.hid (fun (W : World) (hW : Pure' w W) => hE.pure hW hB)
  clear h hb hE hid c0 c1 c2
  go_enter Tryz.func105, Tryz.ntmps105
  go_wp2_with fail
  go_loopg [4, 5, 8] n (fun gh v4 v5 v8 wr => ∃ i : Nat, i + gh = n ∧ v8 = .int .i64 (i : Int) ∧ RowKit.Hid (∀ k j, k < i → E[k]? = some j → refB (bl lp) s j d = true) ∧ RowKit.Hid (Pure' w wr))
  case atStart => exact ⟨0, by omega, rfl, Lib.hid (by intro k j hk; omega), Lib.hid (Keeps.refl _ _)⟩
  case round =>
    obtain ⟨i, hig, rfl, HNO, HW⟩ := hrel
    cases gk with
    | zero =>
      obtain rfl : i = n := by omega
      go_wp2_with fail
      go_ret
      refine ⟨⟨-1, rfl, ⟨fun h => absurd h (by decide), fun ⟨j, hj, hh⟩ => ?_⟩⟩, HW.out⟩
      obtain ⟨k, hk, rfl⟩ := List.getElem_of_mem hj
      have := HNO.out k _ (by rw [← HEN.out]; exact hk) (List.getElem?_eq_getElem hk)
      rw [this] at hh
      exact absurd hh (by decide)
    | succ g3 =>
      have hii : (i : Int) < (n : Int) := by omega
      obtain ⟨ad, u, rfl, hu, hc⟩ := (HE.out wr HW.out).at_ (show i < n by omega)
      obtain ⟨j, hj⟩ : ∃ j, E[i]? = some j := ⟨_, List.getElem?_eq_getElem (show i < E.length by rw [HEN.out]; omega)⟩
      have huj : u = .int .i64 (j : Int) := by
        unfold idVs at hu
        rw [List.getElem?_map, hj] at hu
        simpa using hu.symm
      subst huj
      have HJ := Lib.hid hj
      have HFF := Lib.hid (HF.out j wr (List.mem_of_getElem? hj) HW.out)
      obtain ⟨r, hr⟩ : ∃ r, refB (bl lp) s j d = r := ⟨_, rfl⟩
      have HR := Lib.hid hr
      rw [hr] at HFF
      clear hj hu hr
      go_wp2_with fail
      refine HFF.out.mono ?_
      rintro e w1 ⟨rfl, hk⟩
      have HW1 := Lib.hid (HW.out.trans hk (fun _ _ hf => hf))
      clear hk hc
      cases r with
      | false =>
        go_wp2_with fail
        go_ret
        exact ⟨⟨i, rfl, ⟨fun _ => ⟨j, List.mem_of_getElem? HJ.out, HR.out⟩, fun _ => by omega⟩⟩, HW1.out⟩
      | true =>
        go_wp2_with fail
        go_roundg g3
        case measure => omega
        case rel =>
          refine ⟨i + 1, by omega, by go_num, Lib.hid ?_, HW1⟩
          intro k q hk hq
          by_cases he : k = i
          · subst he
            have := HJ.out
            rw [this] at hq
            injection hq with hq
            rw [← hq]
            exact HR.out
          · exact HNO.out k q (by omega) hq
set_option maxHeartbeats 1000000 in
theorem containsI_ (bs bd g p gr size : Nat) (x : Option Addr) (lp : List ByteArray) (s : List UInt8) (d : Nat) (A : Option Addr) (n cap B : Nat) (E : List Nat) (w : World) (h : SgI w g p gr x lp s size) (hb : SgB lp s size)
    (hE : Sees w B 1 A n (idVs E)) (hB : B ≤ w.heap.size) (hid : ∀ i ∈ E, i < lp.length) (hn : n ≤ 1000)
    (c0 : w.cell? ⟨bs, 0, none⟩ = some (.pointer (some ⟨g, 0, none⟩))) (c1 : w.cell? ⟨bs, 1, none⟩ = some (.pointer (some ⟨p, 0, none⟩))) (c2 : w.cell? ⟨bd, 0, none⟩ = some (.int .i64 (d : Int))) :
    Calls Tryz.prog 76 #[.slice A n cap, .func (.func 77) #[] #[.pointer (some ⟨bs, 0, none⟩), .pointer (some ⟨bd, 0, none⟩)]] w fun e w' => e = .returned (.bool (!E.all (fun i => refB (bl lp) s i d))) ∧ Pure' w w' := by
  have H := Lib.hid (indexI_ bs bd g p gr size x lp s d A n cap B E w h hb hE hB hid hn c0 c1 c2)
  clear h hb hE hid c0 c1 c2
  obtain ⟨q, hq⟩ : ∃ q, (!E.all (fun i => refB (bl lp) s i d)) = q := ⟨_, rfl⟩
  rw [hq]
  have HQ := Lib.hid (show (q = true) ↔ ∃ i ∈ E, refB (bl lp) s i d = false by
    rw [← hq, Bool.not_eq_true', List.all_eq_false]
    constructor
    · rintro ⟨i, hi, h⟩; exact ⟨i, hi, by simpa using h⟩
    · rintro ⟨i, hi, h⟩; exact ⟨i, hi, by simpa using h⟩)
  clear hq
  go_enter Tryz.func76, Tryz.ntmps76
  go_wp2_with fail
  refine H.out.mono ?_
  rintro e w1 ⟨⟨v, rfl, hv⟩, hk⟩
  have HK := Lib.hid hk
  have hd : decide (0 ≤ v) = q := by
    cases q with
    | true => exact decide_eq_true (hv.2 (HQ.out.1 rfl))
    | false => exact decide_eq_false (fun h => absurd (HQ.out.2 (hv.1 h)) (by decide))
  have HD := Lib.hid hd
  clear hv hk hd
  go_wp2_with fail
  go_ret
  exact ⟨congrArg (fun x => Ending.returned (Value.bool x)) HD.out, HK.out⟩
/-- No pattern is there, by the bytes at a distance. -/
def msB (lp : List ByteArray) (s : List UInt8) (n : Int) : Bool := match s.reverse[0]? with
  | some c => decide (1 ≤ n) && (endK (bl lp) c.toNat (bl lp).length).all (fun i => refB (bl lp) s i n.toNat)
  | none => false
theorem endK_lt {l : List (List UInt8)} {c k i : Nat} (h : i ∈ endK l c k) : i < k := by
  unfold endK at h
  exact List.mem_range.1 (List.mem_filter.1 h).1
set_option maxHeartbeats 2000000 in
theorem cmiss_ (g p gr size : Nat) (x : Option Addr) (lp : List ByteArray) (s : List UInt8) (n : Int) (w : World) (h : SgI w g p gr x lp s size) (hb : SgB lp s size) :
    Calls Tryz.prog 45 #[sgV g p, .int .i64 n] w fun e w' => e = .returned (.bool (msB lp s n)) ∧ Pure' w w' := by
  have HL := Lib.hid (fun (W : World) (hW : Pure' w W) => (h.pure hW).last 0 (by have := hb.size2; omega))
  have HEN := Lib.hid (fun (c : UInt8) (W : World) (hW : Pure' w W) => by
    obtain ⟨⟨n0, h1⟩, _, _⟩ := h.pure hW
    exact ending_ n0 g (minL lp) x (bl lp) c W h1 (by have := hb.bll; omega))
  have hlpl : (bl lp).length = lp.length := by simp [bl]
  have HCO := Lib.hid (fun (bs bd d : Nat) (A : Option Addr) (cap : Nat) (E : List Nat) (W : World) (hW : Pure' w W) (hE : Row W 3 1 (.slice A E.length cap) E.length (idVs E)) (hid : ∀ i ∈ E, i < lp.length) (hn : E.length ≤ 1000) (c0 : W.cell? ⟨bs, 0, none⟩ = some (.pointer (some ⟨g, 0, none⟩))) (c1 : W.cell? ⟨bs, 1, none⟩ = some (.pointer (some ⟨p, 0, none⟩))) (c2 : W.cell? ⟨bd, 0, none⟩ = some (.int .i64 (d : Int))) =>
    containsI_ bs bd g p gr size x lp s d A E.length cap _ E W (h.pure hW) hb hE.sees (Nat.le_refl _) hid hn c0 c1 c2)
  have HB := Lib.hid hb
  have HLP := Lib.hid hlpl
  have HK0 := Lib.hid (show Pure' w ((w.alloc (.cells #[.pointer (some ⟨g, 0, none⟩), .pointer (some ⟨p, 0, none⟩)] 34)).alloc (.cells #[.int .i64 n] 3)) from ((Keeps.refl _ w).alloc _).alloc _)
  have HB1 := Lib.hid (show Blk ((w.alloc (.cells #[.pointer (some ⟨g, 0, none⟩), .pointer (some ⟨p, 0, none⟩)] 34)).alloc (.cells #[.int .i64 n] 3)) w.heap.size 34 #[.pointer (some ⟨g, 0, none⟩), .pointer (some ⟨p, 0, none⟩)] from (Blk.newAt rfl).alloc _)
  have HB2 := Lib.hid (show Blk ((w.alloc (.cells #[.pointer (some ⟨g, 0, none⟩), .pointer (some ⟨p, 0, none⟩)] 34)).alloc (.cells #[.int .i64 n] 3)) (w.heap.size + 1) 3 #[.int .i64 n] from Blk.newAt (by simp))
  clear h hb hlpl
  unfold sgV
  go_enter Tryz.func45, Tryz.ntmps45
  go_wp2_with fail
  generalize ((w.alloc (.cells #[.pointer (some ⟨g, 0, none⟩), .pointer (some ⟨p, 0, none⟩)] 34)).alloc (.cells #[.int .i64 n] 3)) = W0 at *
  obtain ⟨c, ok, hco, hcall⟩ := HL.out W0 HK0.out
  have HCC := Lib.hid hco
  clear hco HL
  generalize w.heap.size = bs at *
  have c0 := HB1.out.cell 0
  have c1 := HB1.out.cell 1
  have c2 := HB2.out.cell 0
  refine hcall.mono ?_
  rintro e w1 ⟨rfl, rfl⟩
  clear hcall
  cases ok with
  | false =>
    have HF := Lib.hid (show false = msB lp s n by unfold msB; rw [HCC.out]; rfl)
    go_wp2_with fail
    go_ret
    exact ⟨congrArg (fun b => Ending.returned (Value.bool b)) HF.out, HK0.out⟩
  | true =>
    by_cases h1 : n < 1
    · have HF := Lib.hid (show false = msB lp s n by unfold msB; rw [HCC.out]; show false = (decide (1 ≤ n) && _); rw [decide_eq_false (by omega)]; rfl)
      go_wp2_with fail
      go_ret
      exact ⟨congrArg (fun b => Ending.returned (Value.bool b)) HF.out, HK0.out⟩
    · obtain ⟨d, rfl⟩ : ∃ d : Nat, n = (d : Int) := ⟨n.toNat, by omega⟩
      have HF := Lib.hid (show (endK (bl lp) c.toNat (bl lp).length).all (fun i => refB (bl lp) s i d) = msB lp s (d : Int) by unfold msB; rw [HCC.out]; show _ = (decide (1 ≤ (d : Int)) && _); rw [decide_eq_true (by omega), Bool.true_and, Int.toNat_natCast])
      have HE := Lib.hid (HEN.out c W0 HK0.out)
      have HLT := Lib.hid (show ∀ i ∈ endK (bl lp) c.toNat (bl lp).length, i < lp.length from fun i hi => by rw [← HLP.out]; exact endK_lt hi)
      have HLE := Lib.hid (show (endK (bl lp) c.toNat (bl lp).length).length ≤ 1000 by have := endK_len (bl lp) c.toNat (bl lp).length; have := HB.out.bll; omega)
      generalize endK (bl lp) c.toNat (bl lp).length = E at *
      clear HEN
      go_wp2_with fail
      refine HE.out.mono ?_
      rintro e w2 ⟨A, cap, rfl, hr, _, hk⟩
      have HK2 := Lib.hid (HK0.out.trans hk (fun _ _ hf => hf))
      have HC := Lib.hid (HCO.out bs (bs + 1) d A cap E w2 HK2.out hr HLT.out HLE.out (keepc c0 hk) (keepc c1 hk) (keepc c2 hk))
      clear hr hk c0 c1 c2 HE
      go_wp2_with fail
      refine HC.out.mono ?_
      rintro e w3 ⟨rfl, hk⟩
      have HK3 := Lib.hid (HK2.out.trans hk (fun _ _ hf => hf))
      clear hk
      generalize E.all (fun i => refB (bl lp) s i d) = r at *
      go_wp2_with fail
      go_ret
      exact ⟨by rw [← HF.out]; simp, HK3.out⟩
end Go.Proofs.YtkbdfnmeomkpjaaGreat
