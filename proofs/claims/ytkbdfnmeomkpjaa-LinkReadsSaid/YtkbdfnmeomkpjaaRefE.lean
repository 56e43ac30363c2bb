/- The step of the reference; no condition but the sizes. -/
import Derived.Test.YtkbdfnmeomkpjaaRefD
namespace Go.Proofs.Ytkbdfnmeomkpjaa
open Go.RowKit
set_option linter.unusedVariables false
set_option linter.unusedSimpArgs false
set_option maxRecDepth 100000

set_option maxHeartbeats 1000000 in
theorem rstep_ (A : Option Addr) (n c B : Nat) (l LL : List (List UInt8)) (t : Nat) (p : List UInt8) (d : UInt8) (w : World) (h : Sees w B 1 A n (strVs LL)) (hB : B ≤ w.heap.size) (hn : n ≤ 100000) (hst : Sts l LL) (ht : LL[t]? = some p) (hp : p.length ≤ 10000) :
    Calls Try.prog 40 #[.slice A n c, .int .i64 (t : Int), .int .u8 d.toNat] w fun e w' => e = .returned (.int .i64 (lsuf LL (p ++ [d]) : Int)) ∧ Pure' w w' := by
  have hln : LL.length = n := by have := h.1; rw [strVs_len] at this; omega
  have htn : t < n := by rw [← hln]; exact (List.getElem?_eq_some_iff.1 ht).1
  obtain ⟨ad, x, rfl, hx, xc⟩ := word_at h htn
  rw [ht] at hx
  cases hx
  have hbs : (⟨p.toArray⟩ : ByteArray).size = p.length := Lib.size_eq _
  have hbs2 : (⟨(p ++ [d]).toArray⟩ : ByteArray).size = p.length + 1 := by rw [Lib.size_eq]; simp
  have HLO := Lib.hid (fun (W : World) (hW : Pure' w W) => show Calls Try.prog 33 #[.slice (some ad) n c, .string ⟨(p ++ [d]).toArray⟩, .int .i64 ((p.length : Int) + 1)] W fun e w' => e = .returned (.int .i64 (lsuf LL (p ++ [d]) : Int)) ∧ w' = W from by
    have := longest_ (some ad) n c B l LL (p ++ [d]) (p.length + 1) W (h.pure hW hB) hn hst (by simp) (by simp; omega)
    rw [show (p ++ [d]).length - (p.length + 1) = 0 by simp, List.drop_zero] at this
    exact this)
  have hrw : Row (w.alloc (.cells #[.int .u8 d.toNat] 5)).drew 5 1 (.slice (some ⟨w.heap.size, 0, none⟩) 1 1) 1 ([d].map byteV) := ⟨by simp, .inr ⟨w.heap.size, 1, _, rfl, Nat.zero_le _, (Blk.new w _ _).drew, Nat.le_refl _, by decide, by simp, by simp [byteV]⟩⟩
  have hcv := conv_row (P := Try.prog) (dst := 9) Try.underlying119 Try.underlying5 Try.underlying9 hrw
  have hap : (⟨p.toArray⟩ : ByteArray) ++ ⟨[d].toArray⟩ = ⟨(p ++ [d]).toArray⟩ := bytes_eq (by simp)
  have xc2 : (w.alloc (.cells #[.int .u8 d.toNat] 5)).drew.cell? (ad.add t) = some (.string ⟨p.toArray⟩) := keepc xc (((Keeps.refl (fun _ => False) w).alloc _).drew)
  have hsm : ¬ 9223372036854775807 < p.length + 1 := by omega
  clear hrw
  generalize lsuf LL (p ++ [d]) = r at *
  clear h hst ht
  go_enter Try.func40, Try.ntmps40
  go_wp2_with fail
  go_region
  go_wp2_with fail
  refine (HLO.out _ (by (repeat (first | exact Keeps.refl _ _ | refine Keeps.drew ?_ | refine Keeps.alloc ?_ _ | refine Keeps.drewN ?_ _)))).mono ?_
  rintro e w2 ⟨rfl, rfl⟩
  go_wp2
  go_ret
  exact ⟨rfl, by (repeat (first | exact Keeps.refl _ _ | refine Keeps.drew ?_ | refine Keeps.alloc ?_ _ | refine Keeps.drewN ?_ _))⟩

end Go.Proofs.Ytkbdfnmeomkpjaa
