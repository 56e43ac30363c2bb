/- The number of a text, by the program; no condition but the sizes. -/
import Derived.Test.YtjcjmjnajhkdaaaDoorDigD
namespace Go.Proofs.YtjcjmjnajhkdaaaDoor
open Go.RowKit
set_option linter.unusedVariables false
set_option linter.unusedSimpArgs false
set_option maxRecDepth 100000

theorem trim_strip (s : List UInt8) : Lib.trimPrefix s [45] = stripD s := by
  unfold Lib.trimPrefix Lib.hasPrefix stripD
  cases s with
  | nil => simp
  | cons a l =>
    by_cases h : a = 45
    · subst h; simp [List.isPrefixOf]
    · have h' : ¬ 45 = a := fun e => h e.symm
      simp [List.isPrefixOf, h, h']

def formV (s : List UInt8) : Value := if (stripD s).all isD = true then .tuple #[.string ⟨(stripD s).toArray⟩, .bool (formB s)] else .tuple #[.string ⟨#[]⟩, .bool false]

theorem formV_bad {s : List UInt8} (h : (stripD s).all isD = false) : formV s = .tuple #[.string ⟨#[]⟩, .bool false] := by unfold formV; rw [h]; rfl
theorem formV_good {s : List UInt8} (h : (stripD s).all isD = true) : formV s = .tuple #[.string ⟨(stripD s).toArray⟩, .bool (formB s)] := by unfold formV; rw [h]; rfl
theorem bytes_pure (w : World) (t : TypeId) (s : ByteArray) : Pure' w (Lib.bytesWorld w t s) :=
  ⟨rfl, rfl, rfl, by rw [Lib.bytesWorld_size]; omega, fun k hk _ => Lib.bytesWorld_at_old _ _ _ _ hk⟩

theorem take_all {d : List UInt8} {k : Nat} {c : UInt8} (h : d[k]? = some c) (ha : (d.take k).all isD = true) (hc : isD c = true) : (d.take (k + 1)).all isD = true := by
  rw [List.take_add_one, h]
  simp only [Option.toList, List.all_append, ha, Bool.true_and]
  simp [hc]

set_option maxHeartbeats 1000000 in
theorem form_ (s : List UInt8) (w : World) (hs : s.length ≤ 1000000) : Calls Tryd.prog 82 #[.string ⟨s.toArray⟩] w fun e w' => e = .returned (formV s) ∧ Pure' w w' := by
  have ht := Tryd.strings_TrimPrefix ⟨s.toArray⟩ ⟨#[45]⟩ w
  rw [show (⟨#[45]⟩ : ByteArray).data.toList = [45] from rfl, show (⟨s.toArray⟩ : ByteArray).data.toList = s from rfl, trim_strip] at ht
  have hdl : (stripD s).length ≤ 1000000 := by
    unfold stripD
    split
    · rw [List.length_tail]; omega
    · exact hs
  obtain ⟨d, hd⟩ : ∃ d, stripD s = d := ⟨_, rfl⟩
  rw [hd] at ht hdl
  have HT := Lib.hid ht
  have HD := Lib.hid hd
  clear ht hd
  go_enter Tryd.func82, Tryd.ntmps82
  go_wp2_with (go_at_call 92; refine HT.out.mono ?_; rintro e w1 ⟨rfl, rfl⟩)
  rw [Lib.run_convert_string_bytes _ 9 87 5 _ Tryd.underlying9 Tryd.underlying87 Tryd.underlying5]
  simp only [Result.andThen]
  rw [Oper.upon_value]
  have hsz : ((⟨d.toArray⟩ : ByteArray)).size = d.length := by simp [ByteArray.size]
  have HC : Hid (∀ k c, d[k]? = some c → (Lib.bytesWorld w1 5 ⟨d.toArray⟩).cell? ⟨w1.heap.size, k, none⟩ = some (.int .u8 c.toNat)) := Lib.hid (fun k c hk => by
    have hlt := (List.getElem?_eq_some_iff.1 hk).1
    have := Lib.bytesWorld_cell w1 5 ⟨d.toArray⟩ k (by rw [hsz]; exact hlt)
    simpa [hk] using this)
  have HP := Lib.hid (bytes_pure w1 5 ⟨d.toArray⟩)
  rw [hsz]
  generalize hcap : grownCap _ _ _ _ = cap
  generalize Lib.bytesWorld w1 5 ⟨d.toArray⟩ = w2 at *
  generalize hn : d.length = n at *
  go_wp2
  go_loopw [12] (fun v wr => ∃ k : Nat, k ≤ n ∧ v = .int .i64 k ∧ (d.take k).all isD = true ∧ wr = w2) (fun v _ => n - (intOf v).toNat)
  case atStart => exact ⟨0, Nat.zero_le _, rfl, rfl, rfl⟩
  case round =>
    obtain ⟨k, hk, rfl, hall, rfl⟩ := hrel
    have HA := Lib.hid hall
    clear hall
    by_cases hlt : k < n
    · obtain ⟨c, hdk⟩ : ∃ c, d[k]? = some c := ⟨_, List.getElem?_eq_getElem (by omega)⟩
      have hc := HC.out k c hdk
      have hcl := c.toNat_lt
      by_cases hD : isD c = true
      · have HA1 := Lib.hid (take_all hdk HA.out hD)
        have hb : 48 ≤ c.toNat ∧ c.toNat ≤ 57 := by simpa [isD] using hD
        obtain ⟨hb1, hb2⟩ := hb
        clear hdk hD
        go_wp2
        go_roundw
        case rel => exact ⟨k + 1, by omega, by go_num, HA1.out, trivial⟩
        case measure => simp [intOf]; omega
      · have HF : Hid (formV s = .tuple #[.string ⟨#[]⟩, .bool false]) := Lib.hid (formV_bad (by
          rw [HD.out]
          cases h : d.all isD with
          | false => rfl
          | true => exact absurd (List.all_eq_true.1 h c (List.mem_of_getElem? hdk)) hD))
        have hb : (c.toNat : Int) < 48 ∨ (57 : Int) < c.toNat := by
          simp [isD] at hD
          omega
        clear hdk hD
        rcases hb with hb | hb
        · go_wp2
          go_ret2
          rw [HF.out]
          exact ⟨rfl, HP.out⟩
        · have hb' : (48 : Int) ≤ c.toNat := by omega
          go_wp2
          go_ret2
          rw [HF.out]
          exact ⟨rfl, HP.out⟩
    · obtain rfl : k = n := by omega
      have hall : (stripD s).all isD = true := by rw [HD.out]; have := HA.out; rwa [List.take_of_length_le (by omega)] at this
      have hF := formV_good hall
      unfold formB at hF
      rw [hall, HD.out] at hF
      cases d with
      | nil =>
        have HF := Lib.hid hF
        clear hF hall
        go_wp2
        go_ret2
        rw [HF.out]
        exact ⟨rfl, HP.out⟩
      | cons c r =>
        have hg : ∀ h', (⟨(c :: r).toArray⟩ : ByteArray)[0]'h' = c := fun _ => rfl
        have hcl := c.toNat_lt
        simp only [List.isEmpty_cons, Bool.not_false, Bool.true_and, List.headD_cons] at hF
        have hck : (c != 48) = ((c.toNat : Int) != 48) := by
          by_cases h : c = 48
          · subst h; rfl
          · have : c.toNat ≠ 48 := fun e => h (UInt8.toNat_inj.1 e)
            have h1 : (c != 48) = true := by simpa using h
            rw [h1]; symm; simp; omega
        rw [hck] at hF
        have hq3 : (c :: r).isEmpty = false := rfl
        have hql : 0 < k := by simp at hn; omega
        generalize hb1 : ((c.toNat : Int) != 48) = b1 at *
        generalize hb2 : (s == [48]) = b2 at *
        have HF := Lib.hid hF
        clear hF hall hck
        generalize c :: r = dd at *
        cases b1 with
        | true =>
          go_wp2
          go_ret2
          rw [HF.out]
          exact ⟨rfl, HP.out⟩
        | false =>
          go_wp2
          go_ret2
          rw [HF.out]
          exact ⟨rfl, HP.out⟩
end Go.Proofs.YtjcjmjnajhkdaaaDoor
