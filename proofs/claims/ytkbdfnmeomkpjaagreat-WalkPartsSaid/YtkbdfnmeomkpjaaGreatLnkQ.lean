/- Links read: is, Trie, Fail, Out, Step; no condition but the sizes. -/
import Derived.Test.YtkbdfnmeomkpjaaGreatLnkP
namespace Go.Proofs.YtkbdfnmeomkpjaaGreat
open Go.RowKit
set_option linter.unusedVariables false
set_option linter.unusedSimpArgs false
set_option maxRecDepth 100000

/-- Links that are made, all of them. -/
structure LkI (w : World) (g tg b cap fb ob : Nat) (l : List (List UInt8)) (S : List TSt) (F O : List Int) : Prop where
  lk : LkA w g tg b cap fb ob l S F O
  fok : FOk l S.length F
  ook : OOk l S.length O
theorem LkI.pure {w w' : World} {g tg b cap fb ob : Nat} {l : List (List UInt8)} {S : List TSt} {F O : List Int} (h : LkI w g tg b cap fb ob l S F O) (hk : Pure' w w') : LkI w' g tg b cap fb ob l S F O := ⟨h.lk.pure hk, h.fok, h.ook⟩
theorem LkI.len {w : World} {g tg b cap fb ob : Nat} {l : List (List UInt8)} {S : List TSt} {F O : List Int} (h : LkI w g tg b cap fb ob l S F O) : S.length = (statesL l).length := h.lk.ti.ok.len
theorem LkI.at_ {w : World} {g tg b cap fb ob : Nat} {l : List (List UInt8)} {S : List TSt} {F O : List Int} (h : LkI w g tg b cap fb ob l S F O) {t : Nat} {p : List UInt8} (hp : (statesL l)[t]? = some p) : t < S.length := by
  have := (List.getElem?_eq_some_iff.1 hp).1
  rw [h.len]; exact this
theorem isB_out {k : Int} {n : Nat} (h : ¬ (0 ≤ k ∧ k < (n : Int))) : isB k n = false := by
  unfold isB
  simp
  omega

set_option maxHeartbeats 1000000 in
theorem lis_nil (k : Int) (w : World) : Calls Tryz.prog 137 #[.pointer none, .int .i64 k] w fun e w' => e = .returned (.bool false) ∧ w' = w := by
  go_enter Tryz.func137, Tryz.ntmps137
  go_wp2
  go_ret
  exact ⟨rfl, rfl⟩
set_option maxHeartbeats 1000000 in
theorem lis_ (g tg b cap fb ob : Nat) (l : List (List UInt8)) (S : List TSt) (F O : List Int) (k : Int) (w : World) (h : LkA w g tg b cap fb ob l S F O) : Calls Tryz.prog 137 #[.pointer (some ⟨g, 0, none⟩), .int .i64 k] w fun e w' => e = .returned (.bool (isB k S.length)) ∧ w' = w := by
  have HL := Lib.hid (tlen_ tg b cap S.length w h.ti.tr.box)
  have c0 := h.box.cell 0
  clear h
  unfold isB
  by_cases hk : 0 ≤ k
  · go_enter Tryz.func137, Tryz.ntmps137
    go_wp2_with fail
    refine HL.out.mono ?_
    rintro e w1 ⟨rfl, rfl⟩
    go_wp2
    go_ret
    exact ⟨by simp [hk], rfl⟩
  · go_enter Tryz.func137, Tryz.ntmps137
    go_wp2
    go_ret
    exact ⟨by rw [show decide (0 ≤ k) = false by simp; omega]; rfl, rfl⟩
set_option maxHeartbeats 1000000 in
theorem ltrie_nil (w : World) : Calls Tryz.prog 99 #[.pointer none] w fun e w' => e = .returned (.pointer none) ∧ w' = w := by
  go_enter Tryz.func99, Tryz.ntmps99
  go_wp2
  go_ret
  exact ⟨rfl, rfl⟩
set_option maxHeartbeats 1000000 in
theorem ltrie_ (g tg b cap fb ob : Nat) (l : List (List UInt8)) (S : List TSt) (F O : List Int) (w : World) (h : LkA w g tg b cap fb ob l S F O) : Calls Tryz.prog 99 #[.pointer (some ⟨g, 0, none⟩)] w fun e w' => e = .returned (.pointer (some ⟨tg, 0, none⟩)) ∧ w' = w := by
  have c0 := h.box.cell 0
  clear h
  go_enter Tryz.func99, Tryz.ntmps99
  go_wp2
  go_ret
  exact ⟨rfl, rfl⟩

/-- Where the links do not know the state. -/
def NoSt (x : Option Addr) (k : Int) (w : World) : Prop := Calls Tryz.prog 137 #[.pointer x, .int .i64 k] w fun e w' => e = .returned (.bool false) ∧ w' = w
set_option maxHeartbeats 1000000 in
theorem fail_out (x : Option Addr) (k : Int) (w : World) (h : NoSt x k w) : Calls Tryz.prog 128 #[.pointer x, .int .i64 k] w fun e w' => e = .returned (.int .i64 0) ∧ w' = w := by
  have H := Lib.hid h
  clear h
  go_enter Tryz.func128, Tryz.ntmps128
  go_wp2_with fail
  refine Calls.mono H.out ?_
  rintro e w1 ⟨rfl, rfl⟩
  go_wp2
  go_ret
  exact ⟨rfl, rfl⟩
set_option maxHeartbeats 1000000 in
theorem step_out (x : Option Addr) (k c : Int) (w : World) (h : NoSt x k w) : Calls Tryz.prog 97 #[.pointer x, .int .i64 k, .int .u8 c] w fun e w' => e = .returned (.int .i64 0) ∧ w' = w := by
  have H := Lib.hid h
  clear h
  go_enter Tryz.func97, Tryz.ntmps97
  go_wp2_with fail
  refine Calls.mono H.out ?_
  rintro e w1 ⟨rfl, rfl⟩
  go_wp2
  go_ret
  exact ⟨rfl, rfl⟩
set_option maxHeartbeats 1000000 in
theorem hits_out (x : Option Addr) (k : Int) (w : World) (h : NoSt x k w) : Calls Tryz.prog 98 #[.pointer x, .int .i64 k] w fun e w' => e = .returned (.slice none 0 0) ∧ w' = w := by
  have H := Lib.hid h
  clear h
  go_enter Tryz.func98, Tryz.ntmps98
  go_wp2_with fail
  refine Calls.mono H.out ?_
  rintro e w1 ⟨rfl, rfl⟩
  go_wp2
  go_ret
  exact ⟨rfl, rfl⟩

set_option maxHeartbeats 1000000 in
theorem fail_ (g tg b cap fb ob : Nat) (l : List (List UInt8)) (S : List TSt) (F O : List Int) (t : Nat) (p : List UInt8) (w : World) (h : LkI w g tg b cap fb ob l S F O) (hp : (statesL l)[t]? = some p) :
    Calls Tryz.prog 128 #[.pointer (some ⟨g, 0, none⟩), .int .i64 (t : Int)] w fun e w' => e = .returned (.int .i64 (lsuf (statesL l) p.tail : Int)) ∧ w' = w := by
  have htl := h.at_ hp
  have H := Lib.hid (lis_ g tg b cap fb ob l S F O (t : Int) w h.lk)
  rw [isB_in htl] at H
  have c1 := h.lk.box.cell 1
  have fc := h.lk.fcell (h.fok t p htl hp)
  have hfew := h.lk.ti.few
  clear h hp
  generalize S.length = n at *
  generalize lsuf (statesL l) p.tail = r at *
  go_enter Tryz.func128, Tryz.ntmps128
  go_wp2_with fail
  refine H.out.mono ?_
  rintro e w1 ⟨rfl, rfl⟩
  go_wp2
  go_ret
  exact ⟨rfl, rfl⟩
set_option maxHeartbeats 1000000 in
theorem step_ (g tg b cap fb ob : Nat) (l : List (List UInt8)) (S : List TSt) (F O : List Int) (t : Nat) (p : List UInt8) (c : UInt8) (w : World) (h : LkI w g tg b cap fb ob l S F O) (hp : (statesL l)[t]? = some p) :
    Calls Tryz.prog 97 #[.pointer (some ⟨g, 0, none⟩), .int .i64 (t : Int), .int .u8 c.toNat] w fun e w' => e = .returned (.int .i64 (lsuf (statesL l) (p ++ [c]) : Int)) ∧ ∃ k, w' = w.drewN k := by
  have htl := h.at_ hp
  have H := Lib.hid (lis_ g tg b cap fb ob l S F O (t : Int) w h.lk)
  rw [isB_in htl] at H
  have HF := Lib.hid (fall_ g tg b cap fb ob l S F O S.length t p c w h.lk h.fok htl hp)
  have hcl := c.toNat_lt
  clear h hp
  generalize lsuf (statesL l) (p ++ [c]) = r at *
  go_enter Tryz.func97, Tryz.ntmps97
  go_wp2_with fail
  refine H.out.mono ?_
  rintro e w1 ⟨rfl, rfl⟩
  go_wp2_with fail
  refine HF.out.mono ?_
  rintro e w1 ⟨rfl, k, rfl⟩
  go_wp2
  go_ret
  exact ⟨rfl, _, rfl⟩

end Go.Proofs.YtkbdfnmeomkpjaaGreat
