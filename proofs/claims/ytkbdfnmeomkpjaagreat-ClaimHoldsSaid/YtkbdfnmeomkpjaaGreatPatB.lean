/- Texts that are there twice, and texts that may be patterns, by the program; no condition but the sizes. -/
import Derived.Test.YtkbdfnmeomkpjaaGreatPatA
import Derived.Maps.Own
import Derived.Maps.OwnOps
import Derived.Maps.Views
namespace Go.Proofs.YtkbdfnmeomkpjaaGreat
open Go.RowKit Go.Maps
set_option linter.unusedVariables false
set_option linter.unusedSimpArgs false
set_option maxRecDepth 100000

theorem text_at {w : World} {B n k : Nat} {A : Option Addr} {l : List ByteArray} (h : Sees w B 1 A n (l.map Value.string)) (hk : k < n) : ∃ (ad : Addr) (s : ByteArray), A = some ad ∧ l[k]? = some s ∧ w.cell? (ad.add k) = some (.string s) := by
  obtain ⟨ad, u, hA, hu, hc⟩ := h.at_ hk
  have hl : k < l.length := by have := h.1; simp at this; omega
  refine ⟨ad, l[k], hA, List.getElem?_eq_getElem hl, ?_⟩
  rw [List.getElem?_map, List.getElem?_eq_getElem hl] at hu
  simp only [Option.map_some, Option.some.injEq] at hu
  rw [hc, hu]
theorem take_snoc {α : Type} {l : List α} {k : Nat} {s : α} (h : l[k]? = some s) : l.take (k + 1) = l.take k ++ [s] := by rw [List.take_add_one, h]; rfl
theorem nodup_snoc {l : List ByteArray} {s : ByteArray} : (l ++ [s]).Nodup ↔ l.Nodup ∧ s ∉ l := by
  rw [List.nodup_append]
  constructor
  · rintro ⟨h1, _, h3⟩; exact ⟨h1, fun hs => h3 s hs s (by simp) rfl⟩
  · rintro ⟨h1, h2⟩
    refine ⟨h1, by simp, fun a ha b hb => ?_⟩
    simp at hb; subst hb
    intro e; subst e; exact h2 ha

theorem keyS : Keyed Tryz.prog 9 := string_keyed Tryz.underlying9
theorem zeroI (w : World) : (zeroValue 3).run Tryz.prog w = .ok (.int .i64 0) w := by kernel_rfl
/-- What the counts are when a part of the texts has come. -/
noncomputable def cntN (s : ByteArray) (l : List ByteArray) : Int := open Classical in if s ∈ l then 1 else 0
theorem cnt_in {s : ByteArray} {l : List ByteArray} (h : s ∈ l) : cntN s l = 1 := by unfold cntN; rw [if_pos h]
theorem cnt_out {s : ByteArray} {l : List ByteArray} (h : s ∉ l) : cntN s l = 0 := by unfold cntN; rw [if_neg h]
def Cnt (D : DataW Unit) (l : List ByteArray) : Prop := IsMap D ∧ ∀ s : ByteArray, D.atKey (.string s.data.toList) (.lit (.int .i64 0)) = .lit (.int .i64 (cntN s l))
theorem cnt_nil : Cnt (.map []) [] := ⟨isMap_empty, fun s => by rw [cnt_out (by simp)]; rfl⟩
theorem cnt_snoc {D : DataW Unit} {l : List ByteArray} {s : ByteArray} (h : Cnt D l) (hs : s ∉ l) : Cnt (D.put (.string s.data.toList) (.lit (.int .i64 1))) (l ++ [s]) := by
  refine ⟨h.1.put _ _, fun t => ?_⟩
  by_cases e : t = s
  · subst e
    rw [atKey_put_same h.1 (show WideAt.IsKeyLit (.string t.data.toList) from trivial), cnt_in (by simp)]
  · have hne : (Lit.string t.data.toList) ≠ .string s.data.toList := fun he => e (bytes_eq (by injection he))
    rw [atKey_put_other hne, h.2 t]
    by_cases hm : t ∈ l
    · rw [cnt_in hm, cnt_in (by simp [hm])]
    · rw [cnt_out hm, cnt_out (by simp [hm, e])]

def TwicePost (l : List ByteArray) (w : World) (e : Ending) (w' : World) : Prop :=
  ∃ t : Int, e = .returned (.int .i64 t) ∧ ((t = -1 ∧ l.Nodup) ∨ (0 ≤ t ∧ ¬ l.Nodup)) ∧ Pure' w w'

set_option maxHeartbeats 1000000 in
theorem twice_ (A : Option Addr) (m c B : Nat) (l : List ByteArray) (w : World) (h : Sees w B 1 A m (l.map Value.string)) (hB : B ≤ w.heap.size) (hm : m ≤ 1000000) (hl : ∀ s ∈ l, s.size ≤ maxLen) :
    Calls Tryz.prog 50 #[.slice A m c] w fun e w' => TwicePost l w e w' := by
  have hll : l.length = m := by have := h.1; simpa using this
  have HS := Lib.hid h
  have HN := Lib.hid hll
  have HL := Lib.hid hl
  have hmm := @run_makeMap Tryz.prog
  clear h hll hl
  go_enter Tryz.func50, Tryz.ntmps50
  go_wp2
  have HO := Lib.hid (World.ownsMap_made w Tryz.prog 9 (plainElem (H := Unit) Tryz.prog 3))
  go_loopw [9] (fun v9 wr => ∃ (k : Nat) (D : DataW Unit), k ≤ m ∧ v9 = .int .i64 k ∧ (l.take k).Nodup ∧ Cnt D (l.take k) ∧ wr.ownsMap Tryz.prog 9 (plainElem Tryz.prog 3) w.heap.size k D ∧ Pure' w wr) (fun v9 _ => m - (intOf v9).toNat)
  case atStart => exact ⟨0, _, Nat.zero_le _, rfl, by simp, cnt_nil, HO.out, (Keeps.refl _ w).alloc _⟩
  case round =>
    obtain ⟨k, D, hk, rfl, hnd, hcnt, hown, hp⟩ := hrel
    have HND := Lib.hid hnd
    have HC := Lib.hid hcnt
    have HP := Lib.hid hp
    clear hnd hcnt
    by_cases hlt : k < m
    · obtain ⟨ad, s, rfl, hs, hc⟩ := text_at (HS.out.pure hp hB) hlt
      clear hp
      have hkey : keyOf Tryz.prog 9 (.string s) = some (.string s.data.toList) := WideMaps.keyOf_string_mk Tryz.underlying9 (HL.out s (List.mem_of_getElem? hs))
      have HSN := Lib.hid (take_snoc hs)
      have HMEM := Lib.hid hs
      clear hs
      by_cases hin : s ∈ l.take k
      · have hat0 := HC.out.2 s
        rw [cnt_in hin] at hat0
        have HAT := Lib.hid hat0
        have HIN := Lib.hid hin
        clear hat0 hin
        go_wp2_with (first
          | (at_lookup; first
              | (refine wpList_lookup_own_int _ rfl _ _ 118 rfl 9 3 .i64 keyS Tryz.underlying118 Tryz.underlying3 (zeroI _) w.heap.size (k + 1) _ rfl hown1 _ _ rfl hkey ?_; intro c2 hat2 hwc2; obtain rfl : c2 = 2 := by (have := hat2.symm.trans (atKey_put_same HC.out.1 (show WideAt.IsKeyLit (.string s.data.toList) from trivial) _ _); simpa using this))
              | (refine wpList_lookup_own_int _ rfl _ _ 118 rfl 9 3 .i64 keyS Tryz.underlying118 Tryz.underlying3 (zeroI _) w.heap.size k _ rfl hown _ _ rfl hkey ?_; intro c1 hat1 hwc1; obtain rfl : c1 = 1 := by (have := hat1.symm.trans HAT.out; simpa using this)))
          | (at_mapUpdate; refine wpList_mapUpdate_own _ rfl _ _ _ 118 rfl 9 3 keyS Tryz.underlying118 _ w.heap.size k _ rfl hown (by unfold maxLen; omega) _ _ _ rfl rfl hkey _ [] (plainElem_int Tryz.underlying3 (by decide)) ?_; intro w1 hown1 hgrow1))
        go_ret
        refine ⟨k, rfl, .inr ⟨by omega, fun hnd => ?_⟩, HP.out.grown hgrow1 (fun j hj => by cases hj; exact .inr (Nat.le_refl _))⟩
        have h2 : (l.take (k + 1)).Nodup := hnd.sublist (List.take_sublist _ _)
        rw [HSN.out, nodup_snoc] at h2
        exact h2.2 HIN.out
      · have hat0 := HC.out.2 s
        rw [cnt_out hin] at hat0
        have HAT := Lib.hid hat0
        have HIN := Lib.hid hin
        clear hat0 hin
        go_wp2_with (first
          | (at_lookup; first
              | (refine wpList_lookup_own_int _ rfl _ _ 118 rfl 9 3 .i64 keyS Tryz.underlying118 Tryz.underlying3 (zeroI _) w.heap.size (k + 1) _ rfl hown1 _ _ rfl hkey ?_; intro c2 hat2 hwc2; obtain rfl : c2 = 1 := by (have := hat2.symm.trans (atKey_put_same HC.out.1 (show WideAt.IsKeyLit (.string s.data.toList) from trivial) _ _); simpa using this))
              | (refine wpList_lookup_own_int _ rfl _ _ 118 rfl 9 3 .i64 keyS Tryz.underlying118 Tryz.underlying3 (zeroI _) w.heap.size k _ rfl hown _ _ rfl hkey ?_; intro c1 hat1 hwc1; obtain rfl : c1 = 0 := by (have := hat1.symm.trans HAT.out; simpa using this)))
          | (at_mapUpdate; refine wpList_mapUpdate_own _ rfl _ _ _ 118 rfl 9 3 keyS Tryz.underlying118 _ w.heap.size k _ rfl hown (by unfold maxLen; omega) _ _ _ rfl rfl hkey _ [] (plainElem_int Tryz.underlying3 (by decide)) ?_; intro w1 hown1 hgrow1))
        go_roundw
        case rel => exact ⟨k + 1, _, by omega, by go_num, by rw [HSN.out, nodup_snoc]; exact ⟨HND.out, HIN.out⟩, by rw [HSN.out]; exact cnt_snoc HC.out HIN.out, hown1, HP.out.grown hgrow1 (fun j hj => by cases hj; exact .inr (Nat.le_refl _))⟩
        case measure => simp [intOf] <;> omega
    · obtain rfl : k = m := by omega
      have HF : Hid l.Nodup := Lib.hid (by have := HND.out; rwa [List.take_of_length_le (by rw [HN.out]; exact Nat.le_refl _)] at this)
      clear hown hp
      go_wp2
      go_ret
      exact ⟨-1, rfl, .inl ⟨rfl, HF.out⟩, HP.out⟩

set_option maxHeartbeats 1000000 in
theorem check_ (s : ByteArray) (w : World) (hs : s.size ≤ 65535) : Calls Tryz.prog 49 #[.string s] w fun e w' => e = .returned (.int .i64 (if s.size = 0 then 7 else 0)) ∧ w = w' := by
  by_cases h : s.size = 0
  · obtain rfl : s = ⟨#[]⟩ := bytes_eq (show s.data.toList = [] from List.eq_nil_of_length_eq_zero (by rw [← Lib.size_eq]; exact h))
    go_enter Tryz.func49, Tryz.ntmps49
    go_wp2
    go_ret
    exact ⟨rfl, rfl⟩
  · rw [if_neg h]
    have hsz := Lib.size_eq s
    obtain ⟨l, rfl⟩ : ∃ l : List UInt8, s = ⟨l.toArray⟩ := ⟨s.data.toList, (bytes_mk s).symm⟩
    have hl : (⟨l.toArray⟩ : ByteArray).size = l.length := by simp [ByteArray.size]
    have q1 : l.isEmpty = false := by cases l with | nil => exact absurd rfl h | cons _ _ => rfl
    rw [hl] at hs
    clear h hsz
    go_enter Tryz.func49, Tryz.ntmps49
    go_wp2
    go_ret
    exact ⟨rfl, rfl⟩
end Go.Proofs.YtkbdfnmeomkpjaaGreat
