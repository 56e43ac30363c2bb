/- Edits of bytes, by the program; no condition but the sizes. -/
import Derived.Test.YtdapjfnpnmejnaaSpS
namespace Go.Proofs.Ytdapjfnpnmejnaa
open Go.RowKit Go.Proofs.YtdapjfnpnmejnaaW.PrintWords Go.Proofs.Ytdapjfnpnmejnaa.GB Go.Shelf
set_option linter.unusedVariables false
set_option linter.unusedSimpArgs false
set_option maxRecDepth 100000

theorem bw_frozen (w : World) (e : TypeId) (s : ByteArray) (j : Nat) (hj : j < s.size) : (Lib.bytesWorld w e s).frozen? ⟨w.heap.size, j, none⟩ = false := by
  have hc := Lib.bytesWorld_cell w e s j hj
  have hlt : j < (Lib.bytesCells w e s).size := by
    simp only [World.cell?, Lib.bytesWorld_at_new] at hc
    rcases Nat.lt_or_ge j (Lib.bytesCells w e s).size with h | h
    · exact h
    · simp [Array.getElem?_eq_none h] at hc
  simp only [World.frozen?, Lib.bytesWorld_at_new]
  simp
  omega

def flipI (c : UInt8) (k : Nat) : Int := bits .xor .u8 (c.toNat : Int) (2 ^ k % 256)
def flipB (c : UInt8) (k : Nat) : UInt8 := UInt8.ofNat (flipI c k).toNat
theorem flip_all : ∀ c : Fin 256, ∀ k : Fin 8, (0 ≤ bits .xor .u8 (c.val : Int) (2 ^ k.val % 256) ∧ bits .xor .u8 (c.val : Int) (2 ^ k.val % 256) < 256) ∧ bits .xor .u8 (bits .xor .u8 (c.val : Int) (2 ^ k.val % 256)) (2 ^ k.val % 256) = c.val := by decide +kernel
theorem flipB_nat (c : UInt8) (k : Nat) (hk : k ≤ 7) : ((flipB c k).toNat : Int) = flipI c k := by
  have h := (flip_all ⟨c.toNat, c.toNat_lt⟩ ⟨k, by omega⟩).1
  simp only at h
  unfold flipB
  rw [toNat_ofNat _ (by unfold flipI; omega)]
  unfold flipI
  omega
theorem flip_flip (c : UInt8) (k : Nat) (hk : k ≤ 7) : flipB (flipB c k) k = c := by
  have h := (flip_all ⟨c.toNat, c.toNat_lt⟩ ⟨k, by omega⟩).2
  simp only at h
  have e : flipI (flipB c k) k = c.toNat := by
    have h1 : flipI (flipB c k) k = bits .xor .u8 ((flipB c k).toNat : Int) (2 ^ k % 256) := rfl
    rw [h1, flipB_nat c k hk]
    exact h
  unfold flipB
  rw [show UInt8.ofNat (flipI c k).toNat = flipB c k from rfl, e]
  simp

set_option maxHeartbeats 1000000 in
theorem flip_ (s : ByteArray) (i k : Nat) (w : World) (hs : s.size ≤ 1000000) (hi : i < s.size) (hk : k ≤ 7) :
    Calls Try.prog 63 #[.string s, .agg #[.int .i64 8, .int .i64 i, .int .i64 k]] w fun e w' => e = .returned (.tuple #[.string (strL (s.data.toList.set i (flipB (s.data.toList.getD i 0) k))), .bool true]) ∧ Pure' w w' := by
  obtain ⟨c, hcd⟩ : ∃ c, c = s.data.toList.getD i 0 := ⟨_, rfl⟩
  rw [← hcd]
  have HBX := Lib.hid (Blk.new w 56 #[.int .i64 8, .int .i64 i, .int .i64 k])
  have HK := Lib.hid ((Keeps.refl (fun _ => False) w).alloc (.cells #[.int .i64 8, .int .i64 i, .int .i64 k] 56))
  go_enter Try.func63, Try.ntmps63
  go_wp2
  rw [Lib.run_convert_string_bytes _ 9 82 5 _ Try.underlying9 Try.underlying82 Try.underlying5]
  simp only [Result.andThen]
  rw [Oper.upon_value]
  generalize hcap : grownCap _ _ _ _ = cap
  have hW : ∃ W, W = Lib.bytesWorld (w.alloc (.cells #[.int .i64 8, .int .i64 i, .int .i64 k] 56)) 5 s := ⟨_, rfl⟩
  obtain ⟨W, hW⟩ := hW
  have hcell : ∀ j, j < s.size → W.cell? ⟨w.heap.size + 1, j, none⟩ = some (.int .u8 (s.data.toList.getD j 0).toNat) := fun j hj => by
    have h := Lib.bytesWorld_cell (w.alloc (.cells #[.int .i64 8, .int .i64 i, .int .i64 k] 56)) 5 s j hj
    rw [alloc_size] at h
    rw [hW]; exact h
  have hfr : W.frozen? ⟨w.heap.size + 1, i, none⟩ = false := by
    have h := bw_frozen (w.alloc (.cells #[.int .i64 8, .int .i64 i, .int .i64 k] 56)) 5 s i hi
    rw [alloc_size] at h
    rw [hW]; exact h
  have hp : Pure' (w.alloc (.cells #[.int .i64 8, .int .i64 i, .int .i64 k] 56)) W := by
    rw [hW]
    exact ⟨rfl, rfl, rfl, by rw [Lib.bytesWorld_size]; omega, fun k hk _ => Lib.bytesWorld_at_old _ _ _ _ hk⟩
  rw [← hW, alloc_size]
  have HBX2 := HBX.out.keep hp (fun h => h)
  have e1 := HBX2.cell 1
  have e2 := HBX2.cell 2
  have hci : W.cell? ⟨w.heap.size + 1, i, none⟩ = some (.int .u8 (c.toNat : Int)) := by rw [hcd]; exact hcell i hi
  have HC := Lib.hid hcell
  have HP := Lib.hid (HK.out.then_ hp)
  clear hW hp HBX2 hcell hcap hcd
  go_wp2
  go_region
  go_wp2_with fail
  have hconv : (convert 82 9 (.slice (some ⟨w.heap.size + 1, 0, none⟩) s.size cap)).run Try.prog (W.setCell ⟨w.heap.size + 1, i, none⟩ (.int .u8 (flipI c k))).drew = .ok (.string (strL (s.data.toList.set i (flipB c k)))) (W.setCell ⟨w.heap.size + 1, i, none⟩ (.int .u8 (flipI c k))).drew := by
    rw [run_convert_bytes_arg _ 82 5 Try.underlying82 Try.underlying5 (w.heap.size + 1) 0 s.size cap (numsOf (s.data.toList.set i (flipB c k))) (by unfold numsOf; rw [List.length_map, List.length_set, ← size_list]) (fun j hj => ?_) 9 Try.underlying9]
    · rw [numsOf_str]
    · rw [Nat.zero_add]
      have hj' : j < s.data.toList.length := by rw [← size_list]; exact hj
      have hx : (numsOf (s.data.toList.set i (flipB c k))).getD j 0 = ((s.data.toList.set i (flipB c k)).getD j 0).toNat := by
        unfold numsOf
        rw [List.getD_eq_getElem?_getD, List.getD_eq_getElem?_getD, List.getElem?_map]
        cases (s.data.toList.set i (flipB c k))[j]? <;> rfl
      rw [hx]
      by_cases hji : j = i
      · subst hji
        have e1 : (s.data.toList.set j (flipB c k)).getD j 0 = flipB c k := by rw [List.getD_eq_getElem?_getD, List.getElem?_set_self hj']; rfl
        rw [e1, flipB_nat c k hk]
        show (W.setCell ⟨w.heap.size + 1, j, none⟩ (.int .u8 (flipI c k))).cell? ⟨w.heap.size + 1, j, none⟩ = _
        first | exact World.cell?_setCell_same _ _ _ hci | exact World.cell?_setCell_same _ _ hci | exact World.cell?_setCell_same _ hci
      · have e1 : (s.data.toList.set i (flipB c k)).getD j 0 = s.data.toList.getD j 0 := by rw [List.getD_eq_getElem?_getD, List.getElem?_set_ne (Ne.symm hji), ← List.getD_eq_getElem?_getD]
        rw [e1, ← HC.out j hj]
        show (W.setCell ⟨w.heap.size + 1, i, none⟩ (.int .u8 (flipI c k))).cell? ⟨w.heap.size + 1, j, none⟩ = _
        (have hne : (⟨w.heap.size + 1, i, none⟩ : Addr) ≠ ⟨w.heap.size + 1, j, none⟩ := (by intro h; injection h with _ h _; exact hji h.symm)); first | exact World.cell?_setCell_other _ _ _ _ hne | exact World.cell?_setCell_other _ _ _ hne | exact World.cell?_setCell_other _ _ hne | exact World.cell?_setCell_other _ hne
  unfold flipI at hconv
  rw [hconv]
  simp only [Result.andThen]
  rw [Oper.upon_value]
  clear hconv
  go_wp2
  go_ret2
  refine ⟨rfl, ?_⟩
  repeat (with_reducible first | exact HP.out | refine Keeps.drew ?_ | refine Keeps.setN ?_ (Nat.le_succ _) _ _)

theorem conv_one (W : World) (g : Nat) (v : Int) (h : W.cell? ⟨g, 0, none⟩ = some (.int .u8 v)) : (convert 82 9 (.slice (some ⟨g, 0, none⟩) 1 1)).run Try.prog W = .ok (.string (strOfNums [v])) W :=
  run_convert_bytes_arg W 82 5 Try.underlying82 Try.underlying5 g 0 1 1 [v] rfl (fun i hi => by
    obtain rfl : i = 0 := by omega
    exact h) 9 Try.underlying9
theorem one_size (v : Int) : (strOfNums [v]).size = 1 := rfl
/-- What comes of an edit of bytes. -/
def BytesPost (r : Option (List UInt8)) (w : World) (e : Ending) (w' : World) : Prop :=
  ∃ (s : List UInt8) (ok : Bool), e = .returned (.tuple #[.string (strL s), .bool ok]) ∧ ((ok = true ∧ r = some s) ∨ (ok = false ∧ r = none)) ∧ Pure' w w'
def bytesV (kind i n : Int) (s : List UInt8) : Option (List UInt8) :=
  if kind = 8 then (if i < 0 ∨ (s.length : Int) ≤ i ∨ n < 0 ∨ 7 < n then none else some (s.set i.toNat (flipB (s.getD i.toNat 0) n.toNat)))
  else if kind = 9 then (if i < 0 ∨ (s.length : Int) < i then none else some (s.take i.toNat))
  else if n < 0 ∨ 255 < n then none else some (s ++ [UInt8.ofNat n.toNat])
theorem extract_take (s : ByteArray) (a : Nat) : s.extract 0 a = strL (s.data.toList.take a) := bytes_eq (by
  unfold strL
  simp only [ByteArray.extract, ByteArray.copySlice]
  simp)
theorem strL_snoc (s : ByteArray) (n : Int) (h : 0 ≤ n) (h2 : n ≤ 255) : s ++ strOfNums [n] = strL (s.data.toList ++ [UInt8.ofNat n.toNat]) := bytes_eq (by
  rw [strL_data]
  show (s ++ strOfNums [n]).data.toList = _
  unfold strOfNums
  simp)

set_option maxHeartbeats 2000000 in
theorem bytes_ (s : ByteArray) (kind i n : Int) (w : World) (hs : s.size ≤ 1000000) (hk : 8 ≤ kind) :
    Calls Try.prog 63 #[.string s, .agg #[.int .i64 kind, .int .i64 i, .int .i64 n]] w fun e w' => BytesPost (bytesV kind i n s.data.toList) w e w' := by
  have HK := Lib.hid ((Keeps.refl (fun _ => False) w).alloc (.cells #[.int .i64 kind, .int .i64 i, .int .i64 n] 56))
  have hsz := size_list s
  have no_ : ∀ (h : bytesV kind i n s.data.toList = none) (s' : ByteArray) (w' : World), Pure' w w' → BytesPost (bytesV kind i n s.data.toList) w (.returned (.tuple #[.string ByteArray.empty, .bool false])) w' := fun h s' w' hp => by
    rw [h]; exact ⟨[], false, rfl, .inr ⟨rfl, rfl⟩, hp⟩
  by_cases h8 : kind = 8
  · subst h8
    by_cases hbad : i < 0 ∨ (s.size : Int) ≤ i ∨ n < 0 ∨ 7 < n
    · have HV : Hid (bytesV 8 i n s.data.toList = none) := Lib.hid (by unfold bytesV; rw [if_pos rfl, if_pos (by rw [← hsz]; exact hbad)])
      rw [HV.out]
      clear no_ hsz
      have hsplit : i < 0 ∨ (0 ≤ i ∧ (s.size : Int) ≤ i) ∨ ((0 ≤ i ∧ i < (s.size : Int)) ∧ n < 0) ∨ ((0 ≤ i ∧ i < (s.size : Int)) ∧ 7 < n) := by omega
      clear hbad
      rcases hsplit with h1 | ⟨h0, h1⟩ | ⟨⟨h0, h1⟩, h2⟩ | ⟨⟨h0, h1⟩, h2⟩
      all_goals
        go_enter Try.func63, Try.ntmps63
        go_wp2
        go_ret2
        exact ⟨[], false, rfl, .inr ⟨rfl, rfl⟩, HK.out⟩
    · obtain ⟨j, rfl⟩ : ∃ j : Nat, i = j := ⟨i.toNat, by omega⟩
      obtain ⟨m, rfl⟩ : ∃ m : Nat, n = m := ⟨n.toNat, by omega⟩
      refine (flip_ s j m w hs (by omega) (by omega)).mono ?_
      rintro e w' ⟨rfl, hp⟩
      refine ⟨_, true, rfl, .inl ⟨rfl, ?_⟩, hp⟩
      unfold bytesV
      rw [if_pos rfl, if_neg (by rw [← hsz]; exact hbad)]
      rfl
  have t8 : (kind == 8) = false := by simpa using h8
  by_cases h9 : kind = 9
  · subst h9
    clear t8
    by_cases hbad : i < 0 ∨ (s.size : Int) < i
    · have HV : Hid (bytesV 9 i n s.data.toList = none) := Lib.hid (by unfold bytesV; rw [if_neg (by decide), if_pos rfl, if_pos (by rw [← hsz]; exact hbad)])
      rw [HV.out]
      clear no_ hsz
      have hsplit : i < 0 ∨ (0 ≤ i ∧ (s.size : Int) < i) := by omega
      clear hbad
      rcases hsplit with h1 | ⟨h0, h1⟩
      all_goals
        go_enter Try.func63, Try.ntmps63
        go_wp2
        go_ret2
        exact ⟨[], false, rfl, .inr ⟨rfl, rfl⟩, HK.out⟩
    · obtain ⟨j, rfl⟩ : ∃ j : Nat, i = j := ⟨i.toNat, by omega⟩
      have HV : Hid (bytesV 9 j n s.data.toList = some (s.data.toList.take j)) := Lib.hid (by unfold bytesV; rw [if_neg (by decide), if_pos rfl, if_neg (by rw [← hsz]; exact hbad)]; rfl)
      rw [HV.out]
      have h0 : (0 : Int) ≤ (j : Int) := by omega
      have h1 : (j : Int) ≤ (s.size : Int) := by omega
      have h2 : j ≤ s.size := by omega
      have HX := Lib.hid (extract_take s j)
      clear no_ hsz hbad
      go_enter Try.func63, Try.ntmps63
      go_wp2
      go_ret2
      exact ⟨_, true, by rw [← HX.out]; rfl, .inl ⟨rfl, rfl⟩, HK.out⟩
  have t9 : (kind == 9) = false := by simpa using h9
  by_cases hbad : n < 0 ∨ 255 < n
  · have HV : Hid (bytesV kind i n s.data.toList = none) := Lib.hid (by unfold bytesV; rw [if_neg h8, if_neg h9, if_pos hbad])
    rw [HV.out]
    clear no_ hsz h8 h9
    rcases hbad with h1 | h1
    all_goals
      go_enter Try.func63, Try.ntmps63
      go_wp2
      go_ret2
      exact ⟨[], false, rfl, .inr ⟨rfl, rfl⟩, HK.out⟩
  · have HV : Hid (bytesV kind i n s.data.toList = some (s.data.toList ++ [UInt8.ofNat n.toNat])) := Lib.hid (by unfold bytesV; rw [if_neg h8, if_neg h9, if_neg hbad])
    rw [HV.out]
    have h1 : 0 ≤ n := by omega
    have h2 : n ≤ 255 := by omega
    have hw : n % 256 = n := by omega
    have HX := Lib.hid (strL_snoc s n h1 h2)
    clear no_ hsz h8 h9 hbad
    go_enter Try.func63, Try.ntmps63
    go_wp2
    have hcv := conv_one ((w.alloc (.cells #[.int .i64 kind, .int .i64 i, .int .i64 n] 56)).alloc (.cells #[.int .u8 n] 5)) (w.heap.size + 1) n (by have h := (Blk.new (w.alloc (.cells #[.int .i64 kind, .int .i64 i, .int .i64 n] 56)) 5 #[.int .u8 n]).cell 0; rw [alloc_size] at h; exact h)
    rw [hcv]
    simp only [Result.andThen]
    rw [Oper.upon_value]
    clear hcv
    have hq := one_size n
    generalize strOfNums [n] = q at *
    have hq2 : ¬ 9223372036854775807 < s.size + q.size := by omega
    have hq3 : s.size + q.size ≤ 9223372036854775807 := by omega
    clear hq
    go_wp2
    go_ret2
    exact ⟨_, true, by rw [← HX.out]; rfl, .inl ⟨rfl, rfl⟩, HK.out.alloc _⟩
end Go.Proofs.Ytdapjfnpnmejnaa
