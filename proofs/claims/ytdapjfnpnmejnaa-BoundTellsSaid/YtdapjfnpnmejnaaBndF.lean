/- Texts compared, and sorted, by the program; no condition but the sizes. -/
import Derived.Test.YtdapjfnpnmejnaaBndE
namespace Go.Proofs.Ytdapjfnpnmejnaa
open Go.RowKit Go.Sort
set_option linter.unusedVariables false
set_option linter.unusedSimpArgs false
set_option maxRecDepth 100000
attribute [local go_sem] gmax2 gmin2 gmax_two gmin_two

def prefL : List UInt8 → List UInt8 → Nat
  | c :: l, d :: m => if c = d then 1 + prefL l m else 0
  | _, _ => 0
theorem prefL_le : ∀ a b, prefL a b ≤ a.length ∧ prefL a b ≤ b.length
  | [], b => by simp [prefL]
  | c :: l, [] => by simp [prefL]
  | c :: l, d :: m => by
    have := prefL_le l m
    rw [prefL]; split <;> simp <;> omega
theorem dn_two (w : World) (a b : Nat) : (w.drewN a).drewN b = w.drewN (a + b) := by simp
theorem at_c {s : List UInt8} {k : Nat} (h : k < s.length) : ∃ c, s.drop k = c :: s.drop (k + 1) ∧ s[k]? = some c ∧ ∀ h', (⟨s.toArray⟩ : ByteArray)[k]'h' = c := ⟨s[k], List.drop_eq_getElem_cons h, List.getElem?_eq_getElem h, fun _ => rfl⟩
theorem byte_ne (c d : UInt8) (h : c ≠ d) : ((c.toNat : Int) != d.toNat) = true := by
  have : c.toNat ≠ d.toNat := fun e => h (UInt8.toNat_inj.1 e)
  simp; omega

set_option maxHeartbeats 1000000 in
theorem prefix_ (a b : List UInt8) (w : World) (ha : a.length ≤ 1000000) (hb : b.length ≤ 1000000) : Calls Try.prog 122 #[.string ⟨a.toArray⟩, .string ⟨b.toArray⟩] w fun e w' => e = .returned (.int .i64 (prefL a b : Nat)) ∧ ∃ q, w' = w.drewN q := by
  have hsa : ((⟨a.toArray⟩ : ByteArray)).size = a.length := by simp [ByteArray.size]
  have hsb : ((⟨b.toArray⟩ : ByteArray)).size = b.length := by simp [ByteArray.size]
  have HA := Lib.hid (fun k => @at_c a k)
  have HB := Lib.hid (fun k => @at_c b k)
  have hle := prefL_le a b
  obtain ⟨n, hn⟩ : ∃ n : Nat, n = min a.length b.length := ⟨_, rfl⟩
  have HNI := Lib.hid (show min (a.length : Int) (b.length : Int) = n by omega)
  have hna : n ≤ a.length := by omega
  have hnb : n ≤ b.length := by omega
  have HE : Hid (a.drop n = [] ∨ b.drop n = []) := Lib.hid (by
    by_cases h : a.length ≤ b.length
    · left; exact List.drop_eq_nil_of_le (by omega)
    · right; exact List.drop_eq_nil_of_le (by omega))
  clear hn hle
  go_enter Try.func122, Try.ntmps122
  go_wp2
  rw [HNI.out]
  generalize a.length = la at *
  generalize b.length = lb at *
  go_loopw [13] (fun v13 wr => ∃ k : Nat, k ≤ n ∧ v13 = .int .i64 k ∧ k + prefL (a.drop k) (b.drop k) = prefL a b ∧ ∃ q, wr = w.drewN q) (fun v13 _ => n - (intOf v13).toNat)
  case atStart => exact ⟨0, Nat.zero_le _, rfl, by simp, 0, rfl⟩
  case round =>
    obtain ⟨k, hk, rfl, hp, q, rfl⟩ := hrel
    by_cases hlt : k < n
    · obtain ⟨c, hda, _, hga⟩ := HA.out k (by omega)
      obtain ⟨d, hdb, _, hgb⟩ := HB.out k (by omega)
      rw [hda, hdb, prefL] at hp
      have hcl := c.toNat_lt
      have hdl := d.toNat_lt
      by_cases hcd : c = d
      · subst hcd
        rw [if_pos rfl] at hp
        have HP := Lib.hid hp
        clear hp hda hdb
        go_wp2
        go_quiet (fail)
        go_wp2
        go_roundw
        case rel => exact ⟨k + 1, by omega, by go_num, by have := HP.out; omega, _, rfl⟩
        case measure => simp [intOf] <;> omega
      · rw [if_neg hcd] at hp
        have t := byte_ne c d hcd
        have HP := Lib.hid hp
        clear hp hda hdb hcd
        go_wp2
        go_quiet (fail)
        go_wp2
        go_ret
        exact ⟨by rw [← HP.out]; rfl, _, dn_two _ _ _⟩
    · obtain rfl : k = n := by omega
      have HP : Hid (prefL a b = k) := Lib.hid (by
        rw [← hp]
        rcases HE.out with h | h <;> rw [h]
        · rfl
        · cases a.drop k <;> rfl)
      clear hp
      go_wp2
      go_ret
      exact ⟨by rw [HP.out]; rfl, _, rfl⟩

/-- Which comes first. -/
def cmpL (a b : List UInt8) : Int :=
  if prefL a b = a.length then (if prefL a b = b.length then 0 else -1)
  else if prefL a b = b.length then 1 else if (a.getD (prefL a b) 0).toNat < (b.getD (prefL a b) 0).toNat then -1 else 1

set_option maxHeartbeats 1000000 in
theorem compare_ (a b : List UInt8) (w : World) (ha : a.length ≤ 1000000) (hb : b.length ≤ 1000000) : Calls Try.prog 88 #[.string ⟨a.toArray⟩, .string ⟨b.toArray⟩] w fun e w' => e = .returned (.int .i64 (cmpL a b)) ∧ ∃ q, w' = w.drewN q := by
  have hsa : ((⟨a.toArray⟩ : ByteArray)).size = a.length := by simp [ByteArray.size]
  have hsb : ((⟨b.toArray⟩ : ByteArray)).size = b.length := by simp [ByteArray.size]
  have HP := Lib.hid (fun w => prefix_ a b w ha hb)
  have HC : Hid (cmpL a b = if prefL a b = a.length then (if prefL a b = b.length then 0 else -1) else if prefL a b = b.length then 1 else if (a.getD (prefL a b) 0).toNat < (b.getD (prefL a b) 0).toNat then -1 else 1) := Lib.hid rfl
  obtain ⟨hl1, hl2⟩ := prefL_le a b
  have HA := Lib.hid (fun k => @at_c a k)
  have HB := Lib.hid (fun k => @at_c b k)
  generalize prefL a b = k at *
  generalize hla : a.length = la at *
  generalize hlb : b.length = lb at *
  clear hla hlb
  by_cases h1 : k = la
  · by_cases h2 : k = lb
    · have HR : Hid (cmpL a b = 0) := Lib.hid (by rw [HC.out, if_pos h1, if_pos h2])
      have t1 : ((k : Int) == la) = true := by simp [h1]
      have t2 : ((k : Int) == lb) = true := by simp [h2]
      clear h1 h2
      go_enter Try.func88, Try.ntmps88
      go_wp2_with (go_at_call 122; refine (HP.out _).mono ?_; rintro e w1 ⟨rfl, q, rfl⟩)
      go_ret
      exact ⟨by rw [HR.out]; rfl, _, rfl⟩
    · have HR : Hid (cmpL a b = -1) := Lib.hid (by rw [HC.out, if_pos h1, if_neg h2])
      have t1 : ((k : Int) == la) = true := by simp [h1]
      have t2 : ((k : Int) == lb) = false := by rw [beq_eq_false_iff_ne]; omega
      clear h1 h2
      go_enter Try.func88, Try.ntmps88
      go_wp2_with (go_at_call 122; refine (HP.out _).mono ?_; rintro e w1 ⟨rfl, q, rfl⟩)
      go_quiet (fail)
      go_wp2
      go_ret
      exact ⟨by rw [HR.out]; rfl, _, dn_two _ _ _⟩
  · by_cases h2 : k = lb
    · have HR : Hid (cmpL a b = 1) := Lib.hid (by rw [HC.out, if_neg h1, if_pos h2])
      have t1 : ((k : Int) == la) = false := by rw [beq_eq_false_iff_ne]; omega
      have t3 : ¬ k < lb := by omega
      clear h1 h2
      go_enter Try.func88, Try.ntmps88
      go_wp2_with (go_at_call 122; refine (HP.out _).mono ?_; rintro e w1 ⟨rfl, q, rfl⟩)
      go_quiet (fail)
      go_wp2
      go_ret
      exact ⟨by rw [HR.out]; rfl, _, dn_two _ _ _⟩
    · obtain ⟨c, _, hac, hga⟩ := HA.out k (by omega)
      obtain ⟨d, _, hbd, hgb⟩ := HB.out k (by omega)
      have hcl := c.toNat_lt
      have hdl := d.toNat_lt
      have hka : k < la := by omega
      have hkb : k < lb := by omega
      have t1 : ((k : Int) == la) = false := by rw [beq_eq_false_iff_ne]; omega
      have hc : cmpL a b = if c.toNat < d.toNat then -1 else 1 := by
        rw [HC.out, if_neg h1, if_neg h2, List.getD_eq_getElem?_getD, List.getD_eq_getElem?_getD, hac, hbd]; rfl
      clear h1 h2 hac hbd
      by_cases hcd : c.toNat < d.toNat
      · rw [if_pos hcd] at hc
        have HR := Lib.hid hc
        have t5 : c.toNat < d.toNat := hcd
        clear hc hcd
        go_enter Try.func88, Try.ntmps88
        go_wp2_with (go_at_call 122; refine (HP.out _).mono ?_; rintro e w1 ⟨rfl, q, rfl⟩)
        go_quiet (fail)
        go_wp2
        go_ret
        exact ⟨by rw [HR.out]; rfl, _, dn_two _ _ _⟩
      · rw [if_neg hcd] at hc
        have HR := Lib.hid hc
        have t5 : ¬ c.toNat < d.toNat := hcd
        clear hc hcd
        go_enter Try.func88, Try.ntmps88
        go_wp2_with (go_at_call 122; refine (HP.out _).mono ?_; rintro e w1 ⟨rfl, q, rfl⟩)
        go_quiet (fail)
        go_wp2
        go_ret
        exact ⟨by rw [HR.out]; rfl, _, dn_two _ _ _⟩

/-- A text of no great length. -/
abbrev Tx := { s : ByteArray // s.size ≤ 1000000 }
instance : Inhabited Tx := ⟨⟨⟨#[]⟩, by decide⟩⟩
def txE (x : Tx) : Value := .string x.1
def txC (x y : Tx) : Int := cmpL x.1.data.toList y.1.data.toList
theorem tx_cmp (x y : Tx) (w : World) : Calls Try.prog 88 #[txE x, txE y] w fun e w' => e = .returned (.int .i64 (txC x y)) ∧ ∃ q, w' = w.drewN q :=
  compare_ x.1.data.toList y.1.data.toList w (by rw [← Lib.size_eq]; exact x.2) (by rw [← Lib.size_eq]; exact y.2)
theorem keeps_putRow {α : Type} [Inhabited α] {w0 w : World} (enc : α → Value) {blk off : Nat} (d : Array α) (h : Pure' w0 w) (hb : w0.heap.size ≤ blk) : Pure' w0 (putRow enc w blk off d) :=
  ⟨h.os, h.tape, h.output, by rw [size_putRow]; exact h.size, fun k hk hs => by
    rw [← h.block k hk hs]
    unfold putRow mapBlock
    show (w.heap.modify blk _)[k]? = _
    rw [Array.getElem?_modify, if_neg (by omega)]⟩

theorem strInfo2 : (Try.prog.info? 9).map (fun i => (i.zero, i.size, i.bytes)) = some (some (.string ByteArray.empty), 1, 16) := by kernel_rfl

set_option maxHeartbeats 1000000 in
theorem sorted_ (A : Option Addr) (m c B : Nat) (l : List ByteArray) (w : World) (h : Sees w B 1 A m (l.map Value.string)) (hm0 : 0 < m) (hm : m ≤ 12) (hl : ∀ s ∈ l, s.size ≤ 1000000) :
    Calls Try.prog 45 #[.slice A m c] w fun e w' => (∃ A' c', e = .returned (.slice A' m c')) ∧ Pure' w w' := by
  obtain ⟨i0, hi, hz0, hz1, hz2⟩ := info_parts strInfo2
  have hll : l.length = m := by have := h.1; simpa using this
  obtain ⟨ad, rfl, hbl, hcell⟩ := h.2 hm0
  obtain ⟨b, off, sp⟩ := ad
  obtain rfl : sp = none := by
    have h0 := hcell 0 _ (List.getElem?_eq_getElem (by simp; omega))
    have := World.cell?_spot h0
    simpa [Addr.add] using this
  have hcl := Try.slices_Clone_f86 i0 (.string ByteArray.empty) 1 16 hi hz0 hz1 hz2 rfl (by decide) (fun w => Try.sizeOf9 w) b off m c (l.map Value.string) w (by simp; exact hll) (by unfold maxLen; omega) (by omega) (fun j u hu => by
      have := hcell j u hu
      rwa [show (⟨b, off, none⟩ : Addr).add j = ⟨b, off + j, none⟩ from by unfold Addr.add; split <;> simp_all] at this) (fun u hu => by obtain ⟨x, _, rfl⟩ := List.mem_map.1 hu; rfl)
  have HCL := Lib.hid hcl
  -- the sort, of whatever row of its own
  have HSO : Hid (∀ (w1 : World) (g cap : Nat), Row w1 9 1 (.slice (some ⟨g, 0, none⟩) m cap) m (l.map Value.string) → w.heap.size ≤ g → Pure' w w1 →
      Calls Try.prog 87 #[.slice (some ⟨g, 0, none⟩) m cap, .func (.func 88) #[] #[]] w1 fun e w' => e = .returned (.tuple #[]) ∧ Pure' w w') := Lib.hid (fun w1 g cap hr hg hp => by
    let d : Array Tx := ((l.attach.map fun x => (⟨x.1, hl x.1 x.2⟩ : Tx))).toArray
    have hd : d.size = m := by simp [d, hll]
    have hH : Holds txE w1 g 0 d := fun j hj => by
      have hj' : j < l.length := by omega
      refine ⟨?_, hr.free⟩
      rw [Nat.zero_add]
      refine hr.cell ?_
      rw [List.getElem?_map, List.getElem?_eq_getElem hj', getElem!_pos d j hj]
      simp [d, txE]
    have := Try.slices_SortFunc_small txE (fun _ => rfl) txC 88 #[] g 0 cap d w1 (enters_of Try.func88 (by kernel_rfl) rfl) (fun mm os dk _ x y => tx_cmp x y _) hH (by omega)
      (fun n W hn => (Try.bits_Len n W (by omega) (by omega)).mono fun _ _ ⟨he, hw⟩ => ⟨⟨_, he⟩, hw⟩)
    rw [hd] at this
    refine this.mono ?_
    rintro e w' ⟨rfl, n, rfl⟩
    exact ⟨rfl, (keeps_putRow txE _ hp hg).drewN n⟩)
  clear hcl h hcell
  go_enter Try.func45, Try.ntmps45
  go_wp2_with fail
  refine HCL.out.mono ?_
  rintro e w1 ⟨v', rfl, hrow, hne, hbel⟩
  have hrow' : Row w1 9 1 v' m (l.map Value.string) := by
    refine ⟨hrow.1, ?_⟩
    rcases hrow.2 with h2 | ⟨g, cap, cur, h1, _, r⟩
    · exact .inl h2
    · exact .inr ⟨g, cap, cur, h1, Nat.zero_le _, r⟩
  obtain ⟨g, cap, rfl, hglt, hmc⟩ := hrow'.some_ hm0
  have hg : w.heap.size ≤ g := (World.ownsRow.lt hrow g rfl).1
  have HS2 := Lib.hid (HSO.out w1 g cap hrow' hg (Keeps.of_below hbel))
  clear hrow hrow' hne hbel
  go_wp2_with (go_at_call 87; refine HS2.out.mono ?_; rintro e w2 ⟨rfl, hk⟩; have HK := Lib.hid hk; clear hk)
  go_ret
  exact ⟨⟨_, _, rfl⟩, HK.out⟩
end Go.Proofs.Ytdapjfnpnmejnaa
