/- Texts compared, and sorted, by the program; no condition but the sizes. -/
import Derived.Test.YtkbdfnmeomkpjaaGreatMem
import Derived.Test.YtkbdfnmeomkpjaaGreatShelf
import Derived.Test.YtkbdfnmeomkpjaaGreatLnkL
namespace Go.Proofs.YtkbdfnmeomkpjaaGreat
open Go.RowKit Go.Sort
set_option linter.unusedVariables false
set_option linter.unusedSimpArgs false
set_option maxRecDepth 100000
attribute [local go_sem] gmax2 gmin2 gmax_two gmin_two

def prefL : List UInt8 → List UInt8 → Nat
  | c :: l, d :: m => if c = d then 1 + prefL l m else 0
  | _, _ => 0
theorem prefL_le : ∀ a b, prefL a b ≤ a.length ∧ prefL a b ≤ b.length
  | [], b => by simp [prefL]
  | c :: l, [] => by simp [prefL]
  | c :: l, d :: m => by
    have := prefL_le l m
    rw [prefL]; split <;> simp <;> omega
theorem dn_two (w : World) (a b : Nat) : (w.drewN a).drewN b = w.drewN (a + b) := by simp
theorem at_c {s : List UInt8} {k : Nat} (h : k < s.length) : ∃ c, s.drop k = c :: s.drop (k + 1) ∧ s[k]? = some c ∧ ∀ h', (⟨s.toArray⟩ : ByteArray)[k]'h' = c := ⟨s[k], List.drop_eq_getElem_cons h, List.getElem?_eq_getElem h, fun _ => rfl⟩
theorem byte_ne (c d : UInt8) (h : c ≠ d) : ((c.toNat : Int) != d.toNat) = true := by
  have : c.toNat ≠ d.toNat := fun e => h (UInt8.toNat_inj.1 e)
  simp; omega

set_option maxHeartbeats 1000000 in
theorem prefix_ (a b : List UInt8) (w : World) (ha : a.length ≤ 1000000) (hb : b.length ≤ 1000000) : Calls Tryz.prog 107 #[.string ⟨a.toArray⟩, .string ⟨b.toArray⟩] w fun e w' => e = .returned (.int .i64 (prefL a b : Nat)) ∧ ∃ q, w' = w.drewN q := by
  have hsa : ((⟨a.toArray⟩ : ByteArray)).size = a.length := by simp [ByteArray.size]
  have hsb : ((⟨b.toArray⟩ : ByteArray)).size = b.length := by simp [ByteArray.size]
  have HA := Lib.hid (fun k => @at_c a k)
  have HB := Lib.hid (fun k => @at_c b k)
  have hle := prefL_le a b
  obtain ⟨n, hn⟩ : ∃ n : Nat, n = min a.length b.length := ⟨_, rfl⟩
  have HNI := Lib.hid (show min (a.length : Int) (b.length : Int) = n by omega)
  have hna : n ≤ a.length := by omega
  have hnb : n ≤ b.length := by omega
  have HE : Hid (a.drop n = [] ∨ b.drop n = []) := Lib.hid (by
    by_cases h : a.length ≤ b.length
    · left; exact List.drop_eq_nil_of_le (by omega)
    · right; exact List.drop_eq_nil_of_le (by omega))
  clear hn hle
  go_enter Tryz.func107, Tryz.ntmps107
  go_wp2
  rw [HNI.out]
  generalize a.length = la at *
  generalize b.length = lb at *
  go_loopw [13] (fun v13 wr => ∃ k : Nat, k ≤ n ∧ v13 = .int .i64 k ∧ k + prefL (a.drop k) (b.drop k) = prefL a b ∧ ∃ q, wr = w.drewN q) (fun v13 _ => n - (intOf v13).toNat)
  case atStart => exact ⟨0, Nat.zero_le _, rfl, by simp, 0, rfl⟩
  case round =>
    obtain ⟨k, hk, rfl, hp, q, rfl⟩ := hrel
    by_cases hlt : k < n
    · obtain ⟨c, hda, _, hga⟩ := HA.out k (by omega)
      obtain ⟨d, hdb, _, hgb⟩ := HB.out k (by omega)
      rw [hda, hdb, prefL] at hp
      have hcl := c.toNat_lt
      have hdl := d.toNat_lt
      by_cases hcd : c = d
      · subst hcd
        rw [if_pos rfl] at hp
        have HP := Lib.hid hp
        clear hp hda hdb
        go_wp2
        go_quiet (fail)
        go_wp2
        go_roundw
        case rel => exact ⟨k + 1, by omega, by go_num, by have := HP.out; omega, _, rfl⟩
        case measure => simp [intOf] <;> omega
      · rw [if_neg hcd] at hp
        have t := byte_ne c d hcd
        have HP := Lib.hid hp
        clear hp hda hdb hcd
        go_wp2
        go_quiet (fail)
        go_wp2
        go_ret
        exact ⟨by rw [← HP.out]; rfl, _, dn_two _ _ _⟩
    · obtain rfl : k = n := by omega
      have HP : Hid (prefL a b = k) := Lib.hid (by
        rw [← hp]
        rcases HE.out with h | h <;> rw [h]
        · rfl
        · cases a.drop k <;> rfl)
      clear hp
      go_wp2
      go_ret
      exact ⟨by rw [HP.out]; rfl, _, rfl⟩

/-- Which comes first. -/
def cmpL (a b : List UInt8) : Int :=
  if prefL a b = a.length then (if prefL a b = b.length then 0 else -1)
  else if prefL a b = b.length then 1 else if (a.getD (prefL a b) 0).toNat < (b.getD (prefL a b) 0).toNat then -1 else 1

set_option maxHeartbeats 1000000 in
theorem compare_ (a b : List UInt8) (w : World) (ha : a.length ≤ 1000000) (hb : b.length ≤ 1000000) : Calls Tryz.prog 82 #[.string ⟨a.toArray⟩, .string ⟨b.toArray⟩] w fun e w' => e = .returned (.int .i64 (cmpL a b)) ∧ ∃ q, w' = w.drewN q := by
  have hsa : ((⟨a.toArray⟩ : ByteArray)).size = a.length := by simp [ByteArray.size]
  have hsb : ((⟨b.toArray⟩ : ByteArray)).size = b.length := by simp [ByteArray.size]
  have HP := Lib.hid (fun w => prefix_ a b w ha hb)
  have HC : Hid (cmpL a b = if prefL a b = a.length then (if prefL a b = b.length then 0 else -1) else if prefL a b = b.length then 1 else if (a.getD (prefL a b) 0).toNat < (b.getD (prefL a b) 0).toNat then -1 else 1) := Lib.hid rfl
  obtain ⟨hl1, hl2⟩ := prefL_le a b
  have HA := Lib.hid (fun k => @at_c a k)
  have HB := Lib.hid (fun k => @at_c b k)
  generalize prefL a b = k at *
  generalize hla : a.length = la at *
  generalize hlb : b.length = lb at *
  clear hla hlb
  by_cases h1 : k = la
  · by_cases h2 : k = lb
    · have HR : Hid (cmpL a b = 0) := Lib.hid (by rw [HC.out, if_pos h1, if_pos h2])
      have t1 : ((k : Int) == la) = true := by simp [h1]
      have t2 : ((k : Int) == lb) = true := by simp [h2]
      clear h1 h2
      go_enter Tryz.func82, Tryz.ntmps82
      go_wp2_with (go_at_call 107; refine (HP.out _).mono ?_; rintro e w1 ⟨rfl, q, rfl⟩)
      go_ret
      exact ⟨by rw [HR.out]; rfl, _, rfl⟩
    · have HR : Hid (cmpL a b = -1) := Lib.hid (by rw [HC.out, if_pos h1, if_neg h2])
      have t1 : ((k : Int) == la) = true := by simp [h1]
      have t2 : ((k : Int) == lb) = false := by rw [beq_eq_false_iff_ne]; omega
      clear h1 h2
      go_enter Tryz.func82, Tryz.ntmps82
      go_wp2_with (go_at_call 107; refine (HP.out _).mono ?_; rintro e w1 ⟨rfl, q, rfl⟩)
      go_quiet (fail)
      go_wp2
      go_ret
      exact ⟨by rw [HR.out]; rfl, _, dn_two _ _ _⟩
  · by_cases h2 : k = lb
    · have HR : Hid (cmpL a b = 1) := Lib.hid (by rw [HC.out, if_neg h1, if_pos h2])
      have t1 : ((k : Int) == la) = false := by rw [beq_eq_false_iff_ne]; omega
      have t3 : ¬ k < lb := by omega
      clear h1 h2
      go_enter Tryz.func82, Tryz.ntmps82
      go_wp2_with (go_at_call 107; refine (HP.out _).mono ?_; rintro e w1 ⟨rfl, q, rfl⟩)
      go_quiet (fail)
      go_wp2
      go_ret
      exact ⟨by rw [HR.out]; rfl, _, dn_two _ _ _⟩
    · obtain ⟨c, _, hac, hga⟩ := HA.out k (by omega)
      obtain ⟨d, _, hbd, hgb⟩ := HB.out k (by omega)
      have hcl := c.toNat_lt
      have hdl := d.toNat_lt
      have hka : k < la := by omega
      have hkb : k < lb := by omega
      have t1 : ((k : Int) == la) = false := by rw [beq_eq_false_iff_ne]; omega
      have hc : cmpL a b = if c.toNat < d.toNat then -1 else 1 := by
        rw [HC.out, if_neg h1, if_neg h2, List.getD_eq_getElem?_getD, List.getD_eq_getElem?_getD, hac, hbd]; rfl
      clear h1 h2 hac hbd
      by_cases hcd : c.toNat < d.toNat
      · rw [if_pos hcd] at hc
        have HR := Lib.hid hc
        have t5 : c.toNat < d.toNat := hcd
        clear hc hcd
        go_enter Tryz.func82, Tryz.ntmps82
        go_wp2_with (go_at_call 107; refine (HP.out _).mono ?_; rintro e w1 ⟨rfl, q, rfl⟩)
        go_quiet (fail)
        go_wp2
        go_ret
        exact ⟨by rw [HR.out]; rfl, _, dn_two _ _ _⟩
      · rw [if_neg hcd] at hc
        have HR := Lib.hid hc
        have t5 : ¬ c.toNat < d.toNat := hcd
        clear hc hcd
        go_enter Tryz.func82, Tryz.ntmps82
        go_wp2_with (go_at_call 107; refine (HP.out _).mono ?_; rintro e w1 ⟨rfl, q, rfl⟩)
        go_quiet (fail)
        go_wp2
        go_ret
        exact ⟨by rw [HR.out]; rfl, _, dn_two _ _ _⟩

/-- A text of no great length. -/
abbrev Tx := { s : ByteArray // s.size ≤ 1000000 }
instance : Inhabited Tx := ⟨⟨⟨#[]⟩, by decide⟩⟩
def txE (x : Tx) : Value := .string x.1
def txC (x y : Tx) : Int := cmpL x.1.data.toList y.1.data.toList
theorem tx_cmp (x y : Tx) (w : World) : Calls Tryz.prog 82 #[txE x, txE y] w fun e w' => e = .returned (.int .i64 (txC x y)) ∧ ∃ q, w' = w.drewN q :=
  compare_ x.1.data.toList y.1.data.toList w (by rw [← Lib.size_eq]; exact x.2) (by rw [← Lib.size_eq]; exact y.2)
theorem keeps_putRow {α : Type} [Inhabited α] {w0 w : World} (enc : α → Value) {blk off : Nat} (d : Array α) (h : Pure' w0 w) (hb : w0.heap.size ≤ blk) : Pure' w0 (putRow enc w blk off d) :=
  ⟨h.os, h.tape, h.output, by rw [size_putRow]; exact h.size, fun k hk hs => by
    rw [← h.block k hk hs]
    unfold putRow mapBlock
    show (w.heap.modify blk _)[k]? = _
    rw [Array.getElem?_modify, if_neg (by omega)]⟩

theorem strInfo2 : (Tryz.prog.info? 9).map (fun i => (i.zero, i.size, i.bytes)) = some (some (.string ByteArray.empty), 1, 16) := by kernel_rfl


/-- Which comes first is told by the bytes, one by one. -/
theorem cmp_lt : ∀ (a b : List UInt8), (cmpL a b < 0 ↔ a < b) ∧ (cmpL a b = 0 ↔ a = b)
  | [], [] => by constructor <;> simp [cmpL, prefL]
  | [], d :: b => by constructor <;> simp [cmpL, prefL, List.nil_lt_cons]
  | c :: a, [] => by constructor <;> simp [cmpL, prefL]
  | c :: a, d :: b => by
    by_cases h : c = d
    · subst h
      have ih := cmp_lt a b
      have e : cmpL (c :: a) (c :: b) = cmpL a b := by
        unfold cmpL
        rw [show prefL (c :: a) (c :: b) = prefL a b + 1 by rw [prefL, if_pos rfl, Nat.add_comm]]
        simp
      rw [e, ih.1, ih.2, List.cons_lt_cons_iff]
      constructor
      · constructor
        · exact fun h => .inr ⟨rfl, h⟩
        · rintro (h | ⟨_, h⟩)
          · exact absurd h (by rw [UInt8.lt_iff_toNat_lt]; omega)
          · exact h
      · simp
    · have hp : prefL (c :: a) (d :: b) = 0 := by rw [prefL, if_neg h]
      have e : cmpL (c :: a) (d :: b) = if c.toNat < d.toNat then -1 else 1 := by
        unfold cmpL
        rw [hp]
        simp
      rw [e, List.cons_lt_cons_iff, UInt8.lt_iff_toNat_lt]
      constructor
      · by_cases h2 : c.toNat < d.toNat
        · rw [if_pos h2]; exact ⟨fun _ => .inl h2, fun _ => by decide⟩
        · rw [if_neg h2]
          exact ⟨fun h3 => absurd h3 (by decide), fun h3 => by rcases h3 with h3 | ⟨h3, _⟩; exact absurd h3 h2; exact absurd h3 h⟩
      · constructor
        · intro h3; split at h3 <;> cases h3
        · intro h3; injection h3 with h3; exact absurd h3 h
theorem tx_swo : SWO (ltOf txC) := by
  have key : ∀ x y, ltOf txC x y = true ↔ x.1.data.toList < y.1.data.toList := fun x y => by
    unfold ltOf txC
    rw [decide_eq_true_eq]
    exact (cmp_lt _ _).1
  have key2 : ∀ x y, ltOf txC x y = false ↔ ¬ x.1.data.toList < y.1.data.toList := fun x y => by
    rw [← key x y]; simp
  refine ⟨fun x => (key2 x x).2 (lt_ir _), fun x y z h1 h2 => (key x z).2 (lt_tr ((key x y).1 h1) ((key y z).1 h2)), fun x y z h1 h2 => (key2 x z).2 fun h3 => ?_⟩
  have g1 := (key2 x y).1 h1
  have g2 := (key2 y z).1 h2
  rcases lt_tri x.1.data.toList y.1.data.toList with e | e | e
  · exact g1 e
  · rw [e] at h3; exact g2 h3
  · exact g2 (lt_tr e h3)
/-- Texts in order, as the program keeps them. -/
def InOrd (l : List ByteArray) : Prop := l.Pairwise (fun a b => ¬ b.data.toList < a.data.toList)
theorem Sees.off {w : World} {B size n : Nat} {A : Option Addr} {xs : List Value} (h : Sees w B size A n xs) {p : Addr} (hp : ∀ ad, A = some ad → ad.block ≠ p.block) (u : Value) : Sees (w.setCell p u) B size A n xs := by
  refine ⟨h.1, fun hn => ?_⟩
  obtain ⟨ad, e, hb, hc⟩ := h.2 hn
  exact ⟨ad, e, hb, fun j u' hu => (World.cell?_of_block (by rw [addBlock]; exact Below.heap_setCell w p u ad.block (hp ad e))).trans (hc j u' hu)⟩

set_option maxHeartbeats 1000000 in
theorem sorted_ (A : Option Addr) (m c B : Nat) (l : List ByteArray) (w : World) (h : Sees w B 1 A m (l.map Value.string)) (hm0 : 0 < m) (hm : m ≤ 12) (hl : ∀ s ∈ l, s.size ≤ 1000000) :
    Calls Tryz.prog 51 #[.slice A m c] w fun e w' => (∃ (A' : Option Addr) (c' : Nat) (l' : List ByteArray), e = .returned (.slice A' m c') ∧ l'.Perm l ∧ InOrd l' ∧ Sees w' w'.heap.size 1 A' m (l'.map Value.string) ∧ ∀ ad, A' = some ad → w.heap.size ≤ ad.block) ∧ Pure' w w' := by
  obtain ⟨i0, hi, hz0, hz1, hz2⟩ := info_parts strInfo2
  have hll : l.length = m := by have := h.1; simpa using this
  obtain ⟨ad, rfl, hbl, hcell⟩ := h.2 hm0
  obtain ⟨b, off, sp⟩ := ad
  obtain rfl : sp = none := by
    have h0 := hcell 0 _ (List.getElem?_eq_getElem (by simp; omega))
    have := World.cell?_spot h0
    simpa [Addr.add] using this
  have hcl := Tryz.slices_Clone_f80 i0 (.string ByteArray.empty) 1 16 hi hz0 hz1 hz2 rfl (by decide) (fun w => Tryz.sizeOf9 w) b off m c (l.map Value.string) w (by simp; exact hll) (by unfold maxLen; omega) (by omega) (fun j u hu => by
      have := hcell j u hu
      rwa [show (⟨b, off, none⟩ : Addr).add j = ⟨b, off + j, none⟩ from by unfold Addr.add; split <;> simp_all] at this) (fun u hu => by obtain ⟨x, _, rfl⟩ := List.mem_map.1 hu; rfl)
  have HCL := Lib.hid hcl
  -- the sort, of whatever row of its own
  have HSO : Hid (∀ (w1 : World) (g cap : Nat), Row w1 9 1 (.slice (some ⟨g, 0, none⟩) m cap) m (l.map Value.string) → w.heap.size ≤ g → Pure' w w1 →
      Calls Tryz.prog 81 #[.slice (some ⟨g, 0, none⟩) m cap, .func (.func 82) #[] #[]] w1 fun e w' => e = .returned (.tuple #[]) ∧ (∃ l' : List ByteArray, l'.Perm l ∧ InOrd l' ∧ Sees w' w'.heap.size 1 (some ⟨g, 0, none⟩) m (l'.map Value.string)) ∧ Pure' w w') := Lib.hid (fun w1 g cap hr hg hp => by
    let d : Array Tx := ((l.attach.map fun x => (⟨x.1, hl x.1 x.2⟩ : Tx))).toArray
    have hd : d.size = m := by simp [d, hll]
    have hH : Holds txE w1 g 0 d := fun j hj => by
      have hj' : j < l.length := by omega
      refine ⟨?_, hr.free⟩
      rw [Nat.zero_add]
      refine hr.cell ?_
      rw [List.getElem?_map, List.getElem?_eq_getElem hj', getElem!_pos d j hj]
      simp [d, txE]
    have := Tryz.slices_SortFunc_small_sorted txE (fun _ => rfl) txC tx_swo 82 #[] g 0 cap d w1 (enters_of Tryz.func82 (by kernel_rfl) rfl) (fun mm os dk _ x y => tx_cmp x y _) hH (by omega)
      (fun n W hn => (Tryz.bits_Len n W (by omega) (by omega)).mono fun _ _ ⟨he, hw⟩ => ⟨⟨_, he⟩, hw⟩)
    rw [hd] at this
    refine this.mono ?_
    rintro e w' ⟨rfl, d', n, hpm, hsd, rfl⟩
    have hd' : d'.size = d.size := hpm.1
    refine ⟨rfl, ⟨d'.toList.map (·.1), ?_, ?_, ?_⟩, (keeps_putRow txE _ hp hg).drewN n⟩
    · have h1 : d'.toList.Perm d.toList := by
        have := hpm.2.2
        rwa [show d'.extract 0 m = d' by rw [← hd, ← hd']; simp, show d.extract 0 m = d by rw [← hd]; simp] at this
      have h2 := h1.map (fun x : Tx => x.1)
      have h3 : d.toList.map (fun x : Tx => x.1) = l := by simp [d]
      rwa [h3] at h2
    · unfold InOrd
      rw [List.pairwise_map, List.pairwise_iff_getElem]
      intro i j hi hj hij
      have hi' : i < d'.size := by simpa using hi
      have hj' : j < d'.size := by simpa using hj
      have h1 := hsd i j (Nat.zero_le _) hij (by omega)
      rw [getElem!_pos d' j hj', getElem!_pos d' i hi'] at h1
      unfold ltOf txC at h1
      rw [decide_eq_false_iff_not, (cmp_lt _ _).1] at h1
      simpa using h1
    · have hh := holds_putRow txE w1 g 0 d d' hH hd'
      refine ⟨by simp; omega, fun hn => ⟨⟨g, 0, none⟩, rfl, ?_, fun j u hu => ?_⟩⟩
      · show g < ((putRow txE w1 g 0 d').drewN n).heap.size
        have h1 := hr.lt g rfl
        show g < (putRow txE w1 g 0 d').heap.size
        rw [size_putRow]
        exact h1
      · have hj : j < d'.size := by
          have := (List.getElem?_eq_some_iff.1 hu).1
          simpa using this
        have h1 := (hh j hj).1
        rw [getElem!_pos d' j hj] at h1
        rw [Nat.zero_add] at h1
        have h2 : ((d'.toList.map (·.1)).map Value.string)[j]? = some (txE d'[j]) := by
          rw [List.map_map, List.getElem?_map, Array.getElem?_toList, Array.getElem?_eq_getElem hj]; rfl
        rw [hu] at h2
        cases h2
        rw [show (⟨g, 0, none⟩ : Addr).add j = ⟨g, j, none⟩ from by unfold Addr.add; split <;> simp_all]
        exact h1)
  clear hcl h hcell
  go_enter Tryz.func51, Tryz.ntmps51
  go_wp2_with fail
  refine HCL.out.mono ?_
  rintro e w1 ⟨v', rfl, hrow, hne, hbel⟩
  have hrow' : Row w1 9 1 v' m (l.map Value.string) := by
    refine ⟨hrow.1, ?_⟩
    rcases hrow.2 with h2 | ⟨g, cap, cur, h1, _, r⟩
    · exact .inl h2
    · exact .inr ⟨g, cap, cur, h1, Nat.zero_le _, r⟩
  obtain ⟨g, cap, rfl, hglt, hmc⟩ := hrow'.some_ hm0
  have hg : w.heap.size ≤ g := (World.ownsRow.lt hrow g rfl).1
  have HS2 := Lib.hid (HSO.out w1 g cap hrow' hg (Keeps.of_below hbel))
  clear hrow hrow' hne hbel
  go_wp2_with (go_at_call 81; refine HS2.out.mono ?_; rintro e w2 ⟨rfl, hl', hk⟩; have HL' := Lib.hid hl'; have HK := Lib.hid hk; clear hk hl')
  go_ret
  obtain ⟨l', h1, h2, h3⟩ := HL'.out
  exact ⟨⟨_, _, l', rfl, h1, h2, h3, fun ad e => by injection e with e; subst e; exact hg⟩, HK.out⟩
end Go.Proofs.YtkbdfnmeomkpjaaGreat
