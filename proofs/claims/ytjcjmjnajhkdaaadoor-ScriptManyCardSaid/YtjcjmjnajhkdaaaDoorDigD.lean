/- A row's text, by the program; no condition but the sizes. -/
import Derived.Test.YtjcjmjnajhkdaaaDoorDigC
import Derived.Lib.FieldsP
namespace Go.Proofs.YtjcjmjnajhkdaaaDoor
open Go.RowKit
set_option linter.unusedVariables false
set_option linter.unusedSimpArgs false
set_option maxRecDepth 100000

theorem strInfo' : (Tryd.prog.info? 9).map (fun i => (i.zero, i.size, i.bytes)) = some (some (.string ByteArray.empty), 1, 16) := by kernel_rfl
def txV (z : Int) : Value := .string ⟨(textL z).toArray⟩
/-- The texts of the first k numbers, and empty texts behind. -/
def prt (zs : List Int) (k : Nat) : List Value := (zs.take k).map txV ++ List.replicate (zs.length - k) (.string ⟨#[]⟩)
theorem prt_zero (zs : List Int) : prt zs 0 = List.replicate zs.length (.string ⟨#[]⟩) := by simp [prt]
theorem prt_all (zs : List Int) : prt zs zs.length = zs.map txV := by simp [prt]
theorem prt_set {zs : List Int} {k : Nat} {z : Int} (h : zs[k]? = some z) : (prt zs k).set k (txV z) = prt zs (k + 1) := by
  have hk : k < zs.length := (List.getElem?_eq_some_iff.1 h).1
  unfold prt
  rw [take_next h, show zs.length - k = (zs.length - (k + 1)) + 1 by omega, List.replicate_succ, List.map_append, List.append_assoc]
  have hl : ((zs.take k).map txV).length = k := by simp; omega
  have := Lib.set_mid ((zs.take k).map txV) (Value.string ⟨#[]⟩) (txV z) (List.replicate (zs.length - (k + 1)) (.string ⟨#[]⟩))
  rw [hl] at this
  rw [this]
  rfl

set_option maxHeartbeats 1000000 in
theorem row_ (A : Option Addr) (n c B : Nat) (zs : List Int) (w : World) (h : Sees w B 1 A n (zs.map (Value.int .i64))) (hB : B ≤ w.heap.size) (hn : n ≤ 1000) (hz : ∀ z ∈ zs, -9223372036854775808 ≤ z ∧ z ≤ 9223372036854775807) :
    Calls Tryd.prog 58 #[.slice A n c] w fun e w' => e = .returned (.string ⟨(rowL zs).toArray⟩) ∧ Pure' w w' := by
  have hll : zs.length = n := by have := h.1; simpa using this
  obtain ⟨i0, hi, hz0, hz1, hz2⟩ := info_parts strInfo'
  have HS := Lib.hid h
  have HZ := Lib.hid hz
  have HN := Lib.hid hll
  by_cases h0 : n = 0
  · subst h0
    have hzs : zs = [] := List.eq_nil_of_length_eq_zero hll
    subst hzs
    go_enter Tryd.func58, Tryd.ntmps58
    go_wp2
    go_ret
    exact ⟨rfl, Keeps.refl _ _⟩
  clear h hz hll
  go_enter Tryd.func58, Tryd.ntmps58
  go_wp2_with (at_make; refine wpl_make _ rfl (.tmp 10) (.tmp 10) 23 rfl 9 i0 (.string ByteArray.empty) Tryd.underlying23 hi hz0 hz1 rfl .i64 .i64 _ _ n rfl rfl rfl rfl ?b2 ?b3 ?k)
  case b2 => rw [hz2]; omega
  case b3 => unfold maxLen; omega
  case k =>
    intro w1 ho hg hlt
    have HK := Lib.hid ((Keeps.refl (fun _ => False) w).grown hg (fun k hk => by cases hk))
    have HO : Hid (Row w1 9 1 (.slice (some ⟨w.heap.size, 0, none⟩) n n) n (prt zs 0)) := Lib.hid (by rw [prt_zero, HN.out]; exact ho)
    have HT := Lib.hid text_
    clear ho hg
    generalize hb : w.heap.size = b at *
    go_wp2
    go_loopw [14] (fun v14 wr => ∃ k : Nat, k ≤ n ∧ v14 = .int .i64 k ∧ Row wr 9 1 (.slice (some ⟨b, 0, none⟩) n n) n (prt zs k) ∧ Pure' w wr) (fun v14 _ => n - (intOf v14).toNat)
    case atStart => exact ⟨0, Nat.zero_le _, rfl, HO.out, HK.out⟩
    case round =>
      obtain ⟨k, hk, rfl, hr, hp⟩ := hrel
      by_cases hlt : k < n
      · have hs2 := HS.out.pure hp (by omega)
        obtain ⟨ad, z, rfl, hzk, hc⟩ := ints_at hs2 hlt
        have hbd := HZ.out z (List.mem_of_getElem? hzk)
        have HR := Lib.hid hr
        have HP := Lib.hid hp
        have HT' := Lib.hid (fun w => text_ z w hbd.1 hbd.2)
        have HSet := Lib.hid (prt_set hzk)
        clear hr hp hs2 hzk
        go_wp2_with (go_at_call 56; refine (HT'.out _).mono ?_; rintro e w2 ⟨rfl, hk2⟩; have HR1 := Lib.hid (HR.out.keep hk2 (fun _ _ h => h)); have HP1 := Lib.hid (HP.out.then_ hk2); clear hk2; obtain ⟨u, hu, hcu⟩ := Row.at_ HR1.out (i := k) (by omega); have f0 := Row.free HR1.out (i := k); clear hu)
        go_roundw
        case rel =>
          refine ⟨k + 1, by omega, by go_num, ?_, HP1.out.setCell (p := ⟨b, k, none⟩) (.inr (Nat.le_of_eq hb)) _⟩
          have := Row.set_ HR1.out (i := k) (txV z)
          rw [HSet.out] at this
          exact this
        case measure => simp [intOf]; omega
      · obtain rfl : k = n := by omega
        have e1 : (zs.map (fun z => (⟨(textL z).toArray⟩ : ByteArray))).length = k := by rw [List.length_map]; exact HN.out
        have e2 : (zs.map (fun z => (⟨(textL z).toArray⟩ : ByteArray))).map (·.data.toList) = zs.map textL := by
          rw [List.map_map]; exact List.map_congr_left fun z _ => by simp
        have hzne : zs ≠ [] := fun e => by have := HN.out; rw [e] at this; exact h0 this.symm
        have e3 : Lib.join (zs.map textL) [44] = rowL zs := by unfold rowL; rw [if_neg hzne]
        have hlen : (rowL zs).length ≤ 21 * k := by rw [← jn_all zs hzne, HN.out]; exact jn_len HZ.out k (by rw [HN.out]; exact Nat.le_refl _)
        have hrr := hr
        rw [show prt zs k = zs.map txV by have := prt_all zs; rwa [HN.out] at this] at hrr
        have hJ := Tryd.strings_Join b 0 k (zs.map (fun z => (⟨(textL z).toArray⟩ : ByteArray))) ⟨#[44]⟩ wr (fun j x hx => by
            rw [Nat.zero_add]
            refine hrr.cell ?_
            rw [List.getElem?_map] at hx ⊢
            cases hq : zs[j]? with
            | none => rw [hq] at hx; cases hx
            | some z => rw [hq] at hx; simp at hx; rw [← hx]; rfl) (hr.lt b rfl) (by rw [e1]; omega) (by rw [e1]; exact Nat.le_refl _) (by
            rw [e2, show (⟨#[44]⟩ : ByteArray).data.toList = [44] from rfl, e3]; omega)
        rw [e1, e2, show (⟨#[44]⟩ : ByteArray).data.toList = [44] from rfl, e3] at hJ
        have HJ := Lib.hid hJ
        have HP := Lib.hid hp
        clear hJ hr hrr hp hlen e1 e2 e3
        go_wp2_with (go_at_call 26; refine HJ.out.mono ?_; rintro e w2 ⟨rfl, hk2⟩; have HP1 := Lib.hid (HP.out.then_ (Keeps.of_below hk2)); clear hk2)
        go_ret
        exact ⟨rfl, HP1.out⟩
end Go.Proofs.YtjcjmjnajhkdaaaDoor
