import Derived.Test.YtacodojaolnhnaaRing2
namespace Go.Proofs.Ytacodojaolnhnaa
open Go.RowKit
set_option linter.unusedVariables false
set_option linter.unusedSimpArgs false
set_option maxRecDepth 100000
attribute [local go_sem] gmax2 gmin2 gmax_two gmin_two

def str (l : List UInt8) : ByteArray := ⟨l.toArray⟩
theorem str_data (l : List UInt8) : (str l).data.toList = l := by simp [str]
theorem str_size (l : List UInt8) : (str l).size = l.length := by simp [str, ByteArray.size]

theorem ret_string {a b : ByteArray} (h : a = b) : Ending.returned (.string a) = .returned (.string b) := by rw [h]
theorem ret_int {k : IntKind} {a b : Int} (h : a = b) : Ending.returned (.int k a) = .returned (.int k b) := by rw [h]
theorem ret_bool {a b : Bool} (h : a = b) : Ending.returned (.bool a) = .returned (.bool b) := by rw [h]

theorem w64byte (u : UInt8) : wrap64 (u.toNat : Int) = u.toNat := by have := u.toNat_lt; unfold wrap64; omega

theorem ref_kept (s : ByteArray) (n : Nat) (w : World) (hn : n < 9223372036854775808) (hs : s.size < 1000000000000) :
    Calls Try.prog 31 #[.string s, .int .i64 n] w fun e w' => e = .returned (.string (str (kept s.data.toList n))) ∧ w = w' := by
  by_cases h : n < s.size
  · go_enter Try.func31, Try.ntmps31
    go_wp2
    go_ret
    exact ⟨ret_string (by rw [extract_end]; rfl), rfl⟩
  · go_enter Try.func31, Try.ntmps31
    go_wp2
    go_ret
    refine ⟨ret_string (bytes_eq ?_), rfl⟩
    rw [str_data, kept, show s.data.toList.length = s.size from by simp, Nat.sub_eq_zero_of_le (by omega)]
    rfl

theorem ref_at_yes (s : ByteArray) (d : Nat) (u : UInt8) (w : World) (hd : d < s.size) (hs : s.size < 1000000000000) (hu : s.data.toList[s.size - 1 - d]? = some u) :
    Calls Try.prog 33 #[.string s, .int .i64 d] w fun e w' => e = .returned (.int .i64 (u.toNat : Int)) ∧ w = w' := by
  have hx : s.size - 1 - d < s.size := by omega
  have he : s[s.size - 1 - d] = u := by
    have h2 : s.data.toList[s.size - 1 - d]? = some s[s.size - 1 - d] := List.getElem?_eq_getElem (by simpa using hx)
    rw [h2] at hu; injection hu
  have HE := Lib.hid he
  clear he hu
  go_enter Try.func33, Try.ntmps33
  go_wp2
  go_ret
  exact ⟨ret_int ((w64byte _).trans (by rw [HE.out])), rfl⟩

theorem ref_at_no (s : ByteArray) (d : Int) (w : World) (hd : d < 0 ∨ (s.size : Int) ≤ d) (hs : s.size < 1000000000000) :
    Calls Try.prog 33 #[.string s, .int .i64 d] w fun e w' => e = .returned (.int .i64 (-1)) ∧ w = w' := by
  rcases hd with hd | hd
  · go_enter Try.func33, Try.ntmps33
    go_wp2
    go_ret
    exact ⟨rfl, rfl⟩
  · have h0 : ¬ d < 0 := by omega
    go_enter Try.func33, Try.ntmps33
    go_wp2
    go_ret
    exact ⟨rfl, rfl⟩

theorem ref_ends (s t : ByteArray) (w : World) (hs : s.size < 1000000000000) (ht : t.size < 1000000000000) :
    Calls Try.prog 52 #[.string s, .string t] w fun e w' => e = .returned (.bool (endsP s.data.toList s.size t.data.toList)) ∧ w = w' := by
  by_cases h : t.size ≤ s.size
  · go_enter Try.func52, Try.ntmps52
    go_wp2
    go_ret
    refine ⟨ret_bool ?_, rfl⟩
    show ((s.extract (s.size - t.size) s.size).toList == t.toList) = _
    rw [bytes_beq, extract_end]
    unfold endsP
    simp [h]
  · go_enter Try.func52, Try.ntmps52
    go_wp2
    go_ret
    exact ⟨ret_bool (ends_short (by simp; omega)).symm, rfl⟩

theorem ref_tail (s : ByteArray) (n : Int) (w : World) (hn : n < 9223372036854775808) (hs : s.size < 1000000000000) :
    Calls Try.prog 51 #[.string s, .int .i64 n] w fun e w' => e = .returned (.string (str (kept s.data.toList n.toNat))) ∧ w = w' := by
  by_cases h : n < 0
  · go_enter Try.func51, Try.ntmps51
    go_wp2
    go_ret
    exact ⟨ret_string (bytes_eq (by rw [str_data, kept, List.drop_of_length_le (by omega)])), rfl⟩
  · obtain ⟨m, rfl⟩ := Int.eq_ofNat_of_zero_le (show 0 ≤ n by omega)
    go_enter Try.func51, Try.ntmps51
    go_wp2_with (go_at_call 31; refine (ref_kept s m _ (by omega) hs).mono ?_; rintro e w' ⟨rfl, rfl⟩)
    go_ret
    exact ⟨rfl, rfl⟩

/-! ### keeps -/
theorem keptAt (s : List UInt8) (size d : Nat) (h : d < min s.length size) : ∃ u, s[s.length - 1 - d]? = some u ∧ (kept s size)[(kept s size).length - 1 - d]? = some u := by
  have hd : s.length - 1 - d < s.length := by omega
  refine ⟨s[s.length - 1 - d], List.getElem?_eq_getElem hd, ?_⟩
  rw [kept_length]
  unfold kept
  rw [List.getElem?_drop, show s.length - size + (min s.length size - 1 - d) = s.length - 1 - d from by omega, List.getElem?_eq_getElem hd]

theorem kept_kept (s : List UInt8) (size m : Nat) (h : m ≤ min s.length size) : kept (kept s size) m = s.drop (s.length - m) := by
  unfold kept
  rw [List.drop_drop]
  congr 1
  simp
  omega

theorem kept_more (s : List UInt8) (m m' : Nat) (h : m = m' ∨ (s.length ≤ m ∧ s.length ≤ m')) : kept s m = kept s m' := by
  rcases h with rfl | ⟨h1, h2⟩
  · rfl
  · unfold kept; rw [Nat.sub_eq_zero_of_le h1, Nat.sub_eq_zero_of_le h2]

theorem endsP_kept (s t : List UInt8) (size : Nat) : endsP (kept s size) (kept s size).length t = endsP s size t := by
  unfold endsP
  rw [kept_length, Nat.min_self]
  by_cases h : t.length ≤ min s.length size
  · congr 2
    unfold kept
    rw [List.drop_drop]
    congr 1
    omega
  · simp [h]

theorem kept_min (s : List UInt8) (size m : Nat) (n : Int) (hm : (m : Int) = min (max n 0) (min s.length size : Nat)) : kept (kept s size) n.toNat = s.drop (s.length - m) := by
  rw [kept_more (kept s size) n.toNat m (by rw [kept_length]; omega)]
  exact kept_kept s size m (by omega)

/-- What the callees of keeps answer, at one ring. -/
structure KeepsAt (w : World) (g : Nat) (s : ByteArray) (size : Nat) (n : Int) (t : ByteArray) (K T : ByteArray) (b : Bool) : Prop where
  kept_ : Calls Try.prog 31 #[.string s, .int .i64 size] w fun e w' => e = .returned (.string K) ∧ w = w'
  len : Calls Try.prog 21 #[.pointer (some ⟨g, 0, none⟩)] w fun e w' => e = .returned (.int .i64 (K.size : Int)) ∧ w = w'
  seen : Calls Try.prog 22 #[.pointer (some ⟨g, 0, none⟩)] w fun e w' => e = .returned (.int .i64 (s.size : Int)) ∧ w = w'
  tail : Calls Try.prog 20 #[.pointer (some ⟨g, 0, none⟩), .int .i64 n] w fun e w' => e = .returned (.string T) ∧ Pure' w w'
  rtail : ∀ w', Calls Try.prog 51 #[.string K, .int .i64 n] w' fun e w'' => e = .returned (.string T) ∧ w' = w''
  ends : ∀ w', Pure' w w' → Calls Try.prog 19 #[.pointer (some ⟨g, 0, none⟩), .string t] w' fun e w'' => e = .returned (.bool b) ∧ w' = w''
  rends : ∀ w', Calls Try.prog 52 #[.string K, .string t] w' fun e w'' => e = .returned (.bool b) ∧ w' = w''

theorem keepsAt {w : World} {g size : Nat} {s t : ByteArray} {n : Int} {S : Nat → Prop} (h : Ring w g s.data.toList size S) (hS : ∀ b, S b → b < w.heap.size) (hs : s.size < 1000000000000) (ht : t.size < 1000000000000) (hn : n < 9223372036854775808) :
    ∃ K T b, K = str (kept s.data.toList size) ∧ KeepsAt w g s size n t K T b := by
  have hz : size ≤ 65536 := by obtain ⟨_, _, _, _, _, h, _⟩ := h; exact h
  obtain ⟨m, hm⟩ : ∃ m : Nat, (m : Int) = min (max n 0) (min s.data.toList.length size : Nat) := ⟨(min (max n 0) (min s.data.toList.length size : Nat)).toNat, by omega⟩
  have hl : s.data.toList.length = s.size := by simp
  have hks : (str (kept s.data.toList size)).size = min s.data.toList.length size := by rw [str_size, kept_length]
  refine ⟨_, _, _, rfl, ref_kept s size w (by omega) hs, by rw [hks]; exact Ring.lens h, by rw [← hl]; exact Ring.seens h, tail_ring g _ size S n w h hS m hm, fun w' => ?_, fun w' hk => ends_ring g _ size S t w' (h.keep hk fun _ _ h => h) ht, fun w' => ?_⟩
  · refine (ref_tail (str (kept s.data.toList size)) n w' hn (by omega)).mono ?_
    rintro e w'' ⟨rfl, rfl⟩
    exact ⟨ret_string (by rw [str_data, kept_min s.data.toList size m n hm]; rfl), rfl⟩
  · refine (ref_ends (str (kept s.data.toList size)) t w' (by omega) ht).mono ?_
    rintro e w'' ⟨rfl, rfl⟩
    exact ⟨ret_bool (by rw [str_data, hks, ← kept_length, endsP_kept]), rfl⟩

set_option maxHeartbeats 2000000 in
theorem keeps_ring (g : Nat) (s t : ByteArray) (size : Nat) (d n : Int) (S : Nat → Prop) (w : World) (h : Ring w g s.data.toList size S) (hS : ∀ b, S b → b < w.heap.size) (hs : s.size < 1000000000000) (ht : t.size < 1000000000000) (hn : n < 9223372036854775808) :
    Calls Try.prog 17 #[.pointer (some ⟨g, 0, none⟩), .string s, .int .i64 size, .int .i64 d, .int .i64 n, .string t] w fun e w' => e = .returned (.bool true) ∧ Pure' w w' := by
  obtain ⟨K, T, b, hK, hk⟩ := keepsAt h hS hs ht hn
  have hks : K.size = min s.data.toList.length size := by rw [hK, str_size, kept_length]
  by_cases hd : 0 ≤ d ∧ d < min s.data.toList.length size
  · obtain ⟨dn, rfl⟩ := Int.eq_ofNat_of_zero_le hd.1
    obtain ⟨u, hu1, hu2⟩ := keptAt s.data.toList size dn (by omega)
    have HA := Lib.hid (at_ring g s.data.toList size S dn w h (by omega) u hu1)
    have HB := Lib.hid (ref_at_yes K dn u w (by omega) (by rw [hks]; have : s.data.toList.length = s.size := by simp
                                                           omega) (by rw [hK, str_data, str_size]; exact hu2))
    have HK := Lib.hid hk
    have hu := u.toNat_lt
    clear hu1 hu2 h hK hks hd hk
    go_enter Try.func17, Try.ntmps17
    go_wp2_with (first
      | (go_at_call 31; refine (HK.out.kept_).mono ?_; rintro e w' ⟨rfl, rfl⟩)
      | (go_at_call 18; refine (HA.out).mono ?_; rintro e w' ⟨rfl, rfl⟩)
      | (go_at_call 33; refine (HB.out).mono ?_; rintro e w' ⟨rfl, rfl⟩)
      | (go_at_call 21; refine (HK.out.len).mono ?_; rintro e w' ⟨rfl, rfl⟩)
      | (go_at_call 22; refine (HK.out.seen).mono ?_; rintro e w' ⟨rfl, rfl⟩)
      | (go_at_call 20; refine (HK.out.tail).mono ?_; rintro e w1 ⟨rfl, hp1⟩)
      | (go_at_call 51; refine (HK.out.rtail _).mono ?_; rintro e w' ⟨rfl, rfl⟩)
      | (go_at_call 19; refine (HK.out.ends _ (by assumption)).mono ?_; rintro e w' ⟨rfl, rfl⟩)
      | (go_at_call 52; refine (HK.out.rends _).mono ?_; rintro e w' ⟨rfl, rfl⟩))
    go_ret
    exact ⟨rfl, by assumption⟩
  · have hd' : d < 0 ∨ (K.size : Int) ≤ d := by rw [hks]; omega
    have HA := Lib.hid (at_no g s.data.toList size S d w h (by omega))
    have HB := Lib.hid (ref_at_no K d w hd' (by rw [hks]; have : s.data.toList.length = s.size := by simp
                                                omega))
    have HK := Lib.hid hk
    clear h hK hks hd hk hd'
    go_enter Try.func17, Try.ntmps17
    go_wp2_with (first
      | (go_at_call 31; refine (HK.out.kept_).mono ?_; rintro e w' ⟨rfl, rfl⟩)
      | (go_at_call 18; refine (HA.out).mono ?_; rintro e w' ⟨rfl, rfl⟩)
      | (go_at_call 33; refine (HB.out).mono ?_; rintro e w' ⟨rfl, rfl⟩)
      | (go_at_call 21; refine (HK.out.len).mono ?_; rintro e w' ⟨rfl, rfl⟩)
      | (go_at_call 22; refine (HK.out.seen).mono ?_; rintro e w' ⟨rfl, rfl⟩)
      | (go_at_call 20; refine (HK.out.tail).mono ?_; rintro e w1 ⟨rfl, hp1⟩)
      | (go_at_call 51; refine (HK.out.rtail _).mono ?_; rintro e w' ⟨rfl, rfl⟩)
      | (go_at_call 19; refine (HK.out.ends _ (by assumption)).mono ?_; rintro e w' ⟨rfl, rfl⟩)
      | (go_at_call 52; refine (HK.out.rends _).mono ?_; rintro e w' ⟨rfl, rfl⟩))
    go_ret
    exact ⟨rfl, by assumption⟩

/-! ### awake -/
theorem Ring.tight {w : World} {g : Nat} {s : List UInt8} {size : Nat} {S : Nat → Prop} (h : Ring w g s size S) : Ring w g s size (fun b => S b ∧ b < w.heap.size) := by
  obtain ⟨v, bs, hb, ho, hp, hz, hg, hv⟩ := h
  exact ⟨v, bs, hb, ho, hp, hz, ⟨hg, hb.lt⟩, fun b h => ⟨hv b h, ho.lt b h⟩⟩
theorem Ring.made (w : World) (size : Nat) (h1 : 1 ≤ size) (h2 : size ≤ 65536) : Ring (w.alloc (.cells #[.slice none 0 0, .int .i64 size, .int .i64 0, .int .i64 0] 71)) w.heap.size [] size (fun b => b = w.heap.size) :=
  ⟨.slice none 0 0, [], by simpa using Blk.new w 71 _, Row.nil _ _ _, Phys.nil size h1, h2, rfl, fun b h => by simp [Value.ownBlock] at h⟩

/-- A ring of the law's own. -/
def Mine (w0 w : World) (g : Nat) (s : List UInt8) (size : Nat) : Prop := ∃ S, Ring w g s size S ∧ (∀ b, S b → w0.heap.size ≤ b ∧ b < w.heap.size) ∧ Pure' w0 w

theorem Mine.made (w : World) (size : Nat) (h1 : 1 ≤ size) (h2 : size ≤ 65536) : Mine w (w.alloc (.cells #[.slice none 0 0, .int .i64 size, .int .i64 0, .int .i64 0] 71)) w.heap.size [] size :=
  ⟨_, Ring.made w size h1 h2, fun b h => by subst h; exact ⟨Nat.le_refl _, by simp⟩, (Keeps.refl _ _).alloc _⟩
theorem Mine.next {w0 w w' : World} {g : Nat} {s' : List UInt8} {size : Nat} {S S' : Nat → Prop} (hS : ∀ b, S b → w0.heap.size ≤ b ∧ b < w.heap.size) (hp : Pure' w0 w) (hr : Ring w' g s' size S') (h2 : ∀ b, S' b → S b ∨ w.heap.size ≤ b) (h3 : Keeps S w w') : Mine w0 w' g s' size :=
  ⟨_, hr.tight, fun b hb => ⟨by
    rcases h2 b hb.1 with h | h
    · exact (hS b h).1
    · exact Nat.le_trans hp.size h, hb.2⟩, hp.trans h3 fun b hb h => absurd (hS b h).1 (by omega)⟩
theorem Mine.write {w0 w : World} {g : Nat} {s : List UInt8} {size : Nat} (h : Mine w0 w g s size) (t : ByteArray) (hs : s.length + t.size < 1000000000000) :
    Calls Try.prog 16 #[.pointer (some ⟨g, 0, none⟩), .string t] w fun e w' => e = .returned (.tuple #[]) ∧ Mine w0 w' g (s ++ t.data.toList) size := by
  obtain ⟨S, hR, hS, hp⟩ := h
  refine (write_ring g s size S t w hR hs).mono ?_
  rintro e w' ⟨rfl, S', h1, h2, h3⟩
  exact ⟨rfl, Mine.next hS hp h1 h2 h3⟩
theorem Mine.push {w0 w : World} {g : Nat} {s : List UInt8} {size : Nat} (h : Mine w0 w g s size) (c : UInt8) (hs : s.length < 1000000000000) :
    Calls Try.prog 15 #[.pointer (some ⟨g, 0, none⟩), .int .u8 (c.toNat : Int)] w fun e w' => e = .returned (.tuple #[]) ∧ Mine w0 w' g (s ++ [c]) size := by
  obtain ⟨S, hR, hS, hp⟩ := h
  refine (push_ring g s size S c w hR hs).mono ?_
  rintro e w' ⟨rfl, S', h1, h2, h3⟩
  exact ⟨rfl, Mine.next hS hp h1 h2 h3⟩

set_option maxHeartbeats 1000000 in
theorem awake07 (w : World) : Calls Try.prog 13 #[] w fun e w' => e = .returned (.bool true) ∧ Pure' w w' := by
  have HM := Lib.hid (Mine.made w 3 (by omega) (by omega))
  generalize hw1 : w.alloc (.cells #[.slice none 0 0, .int .i64 (3 : Nat), .int .i64 0, .int .i64 0] 71) = w1 at HM
  have HN : Hid (∀ W, W = w → Calls Try.prog 14 #[.int .i64 3] W fun e w' => e = .returned (.tuple #[.pointer (some ⟨w.heap.size, 0, none⟩), .int .i64 0]) ∧ w1 = w') := Lib.hid (by
    rintro W rfl
    refine (new_ok 3 W (by omega) (by omega)).mono ?_
    rintro e w' ⟨rfl, rfl⟩
    exact ⟨rfl, hw1.symm⟩)
  clear hw1
  generalize w.heap.size = g at *
  go_enter Try.func13, Try.ntmps13
  go_wp2_with (first
    | (go_at_call 14; refine (HN.out _ rfl).mono ?_; rintro e w' ⟨rfl, rfl⟩)
    | (go_at_call 16; refine (HM.out.write _ (by decide)).mono ?_; rintro e w2 ⟨rfl, hm2⟩; obtain ⟨S2, hR2, hS2, hp2⟩ := hm2; have HR2 : Hid (Ring w2 g [97, 98, 99, 100] 3 S2) := Lib.hid hR2; have HS2 := Lib.hid hS2; have HP2 := Lib.hid hp2; clear hR2 hS2 hp2)
    | (go_at_call 18; refine (at_ring _ _ 3 _ 2 _ HR2.out (by decide) 98 (by decide)).mono ?_; rintro e w' ⟨rfl, rfl⟩)
    | (go_at_call 20; refine (tail_ring _ _ 3 _ 9 _ HR2.out (fun b h => (HS2.out b h).2) 3 (by decide)).mono ?_; rintro e w3 ⟨rfl, hp3⟩; have HR3 := Lib.hid (HR2.out.keep hp3 fun _ _ h => h); have HP3 := Lib.hid (HP2.out.then_ hp3); clear hp3)
    | (go_at_call 19; refine (ends_ring _ _ 3 _ _ _ HR3.out (by decide)).mono ?_; rintro e w' ⟨rfl, rfl⟩)
    | (go_at_call 22; refine (Ring.seens HR3.out).mono ?_; rintro e w' ⟨rfl, rfl⟩)
    | (go_at_call 21; refine (Ring.lens HR3.out).mono ?_; rintro e w' ⟨rfl, rfl⟩))
  go_ret
  exact ⟨rfl, HP3.out⟩
end Go.Proofs.Ytacodojaolnhnaa
