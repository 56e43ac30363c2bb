import Derived.Test.YtacodojaolnhnaaLaw07c
import Derived.Laws.BitsAllLaws
namespace Go.Proofs.Ytacodojaolnhnaa
open Go.RowKit
set_option linter.unusedVariables false
set_option linter.unusedSimpArgs false
set_option maxRecDepth 100000
attribute [local go_sem] gmax2 gmin2 gmax_two gmin_two

/-- Two rings of the law's own, that share nothing. -/
def Two (w0 w : World) (ga gb : Nat) (a b : List UInt8) (za zb : Nat) : Prop :=
  ∃ A B, Ring w ga a za A ∧ Ring w gb b zb B ∧ (∀ x, A x → ¬ B x) ∧ (∀ x, A x ∨ B x → w0.heap.size ≤ x ∧ x < w.heap.size) ∧ Pure' w0 w

theorem Two.made (w : World) (za zb : Nat) (zi : Int) (hzi : zi = zb) (ha : 1 ≤ za) (ha2 : za ≤ 65536) (hb : 1 ≤ zb) (hb2 : zb ≤ 65536) :
    Two w ((w.alloc (.cells #[.slice none 0 0, .int .i64 za, .int .i64 0, .int .i64 0] 71)).alloc (.cells #[.slice none 0 0, .int .i64 zi, .int .i64 0, .int .i64 0] 71)) w.heap.size (w.heap.size + 1) [] [] za zb := by
  subst hzi
  have h2 := Ring.made (w.alloc (.cells #[.slice none 0 0, .int .i64 za, .int .i64 0, .int .i64 0] 71)) zb hb hb2
  have e : (w.alloc (.cells #[.slice none 0 0, .int .i64 za, .int .i64 0, .int .i64 0] 71)).heap.size = w.heap.size + 1 := by simp
  rw [e] at h2
  refine ⟨_, _, (Ring.made w za ha ha2).keep (Keeps.alloc (S := fun _ => False) (Keeps.refl _ _) _) (fun _ _ h => h), h2, ?_, ?_, ((Keeps.refl _ _).alloc _).alloc _⟩
  · intro x h h'; omega
  · intro x h; simp; omega

theorem Two.writeA {w0 w : World} {ga gb : Nat} {a b : List UInt8} {za zb : Nat} (h : Two w0 w ga gb a b za zb) (t : ByteArray) (hs : a.length + t.size < 1000000000000) :
    Calls Try.prog 16 #[.pointer (some ⟨ga, 0, none⟩), .string t] w fun e w' => e = .returned (.tuple #[]) ∧ Two w0 w' ga gb (a ++ t.data.toList) b za zb := by
  obtain ⟨A, B, hA, hB, hd, hs', hp⟩ := h
  refine (write_ring ga a za A t w hA hs).mono ?_
  rintro e w' ⟨rfl, A', h1, h2, h3⟩
  refine ⟨rfl, _, _, h1.tight, (hB.keep h3 fun x hx hx' => hd x hx' hx), ?_, ?_, hp.trans h3 fun x hx hx' => absurd (hs' x (.inl hx')).1 (by omega)⟩
  · rintro x ⟨hx, _⟩ hb
    rcases h2 x hx with h | h
    · exact hd x h hb
    · have := (hs' x (.inr hb)).2; omega
  · rintro x (⟨hx, hlt⟩ | hx)
    · refine ⟨?_, hlt⟩
      rcases h2 x hx with h | h
      · exact (hs' x (.inl h)).1
      · exact Nat.le_trans hp.size h
    · exact ⟨(hs' x (.inr hx)).1, Nat.lt_of_lt_of_le (hs' x (.inr hx)).2 h3.size⟩
theorem Two.swap {w0 w : World} {ga gb : Nat} {a b : List UInt8} {za zb : Nat} (h : Two w0 w ga gb a b za zb) : Two w0 w gb ga b a zb za := by
  obtain ⟨A, B, hA, hB, hd, hs', hp⟩ := h
  exact ⟨B, A, hB, hA, fun x h1 h2 => hd x h2 h1, fun x hx => hs' x hx.symm, hp⟩
theorem Two.writeB {w0 w : World} {ga gb : Nat} {a b : List UInt8} {za zb : Nat} (h : Two w0 w ga gb a b za zb) (t : ByteArray) (hs : b.length + t.size < 1000000000000) :
    Calls Try.prog 16 #[.pointer (some ⟨gb, 0, none⟩), .string t] w fun e w' => e = .returned (.tuple #[]) ∧ Two w0 w' ga gb a (b ++ t.data.toList) za zb :=
  (h.swap.writeA t hs).mono fun _ _ ⟨he, h2⟩ => ⟨he, h2.swap⟩

theorem and511 (x : Int) : 0 ≤ bits .and .i64 x 511 ∧ bits .and .i64 x 511 ≤ 511 := by
  have e : bits .and .i64 x 511 = IntKind.i64.wrap (((BitVec.ofInt 64 x) &&& (BitVec.ofInt 64 511)).toNat : Int) := rfl
  have h : ((BitVec.ofInt 64 x) &&& (BitVec.ofInt 64 511)).toNat ≤ 511 := by
    rw [BitVec.toNat_and]
    exact Nat.le_trans Nat.and_le_right (by decide)
  rw [e, IntKind.wrap_i64]
  omega

theorem endsP_tail (s : List UInt8) (m z : Nat) (hm : m ≤ s.length) (hz : m ≤ z) : endsP s z (s.drop (s.length - m)) = true := by
  unfold endsP
  have hl : (s.drop (s.length - m)).length = m := by simp; omega
  rw [hl]
  simp; omega

structure GrowsAt (w4 : World) (ga gb za : Nat) (d : Int) (c c2 : UInt8) (ok is : Bool) (T : ByteArray) (m : Nat) : Prop where
  atA : Calls Try.prog 18 #[.pointer (some ⟨ga, 0, none⟩), .int .i64 d] w4 fun e w' => e = .returned (.tuple #[.int .u8 (c.toNat : Int), .bool ok]) ∧ w4 = w'
  atB : Calls Try.prog 18 #[.pointer (some ⟨gb, 0, none⟩), .int .i64 d] w4 fun e w' => e = .returned (.tuple #[.int .u8 (c2.toNat : Int), .bool is]) ∧ w4 = w'
  rel : ok = true → is = true ∧ c = c2
  tailA : ∀ W, Pure' w4 W → Calls Try.prog 20 #[.pointer (some ⟨ga, 0, none⟩), .int .i64 za] W fun e w' => e = .returned (.string T) ∧ Pure' w4 w'
  ends : ∀ W, Pure' w4 W → Calls Try.prog 19 #[.pointer (some ⟨gb, 0, none⟩), .string T] W fun e w' => e = .returned (.bool true) ∧ W = w'
  len : ∀ W, Pure' w4 W → Calls Try.prog 21 #[.pointer (some ⟨ga, 0, none⟩)] W fun e w' => e = .returned (.int .i64 (m : Int)) ∧ W = w'
  tailB : ∀ W, Pure' w4 W → Calls Try.prog 20 #[.pointer (some ⟨gb, 0, none⟩), .int .i64 (m : Int)] W fun e w' => e = .returned (.string T) ∧ Pure' w4 w'

theorem at_any {w : World} {g size : Nat} {s : List UInt8} {S : Nat → Prop} (h : Ring w g s size S) (d : Int) : ∃ (c : UInt8) (ok : Bool), Calls Try.prog 18 #[.pointer (some ⟨g, 0, none⟩), .int .i64 d] w (fun e w' => e = .returned (.tuple #[.int .u8 (c.toNat : Int), .bool ok]) ∧ w = w') ∧
    (ok = true → 0 ≤ d ∧ d < (min s.length size : Nat) ∧ s[s.length - 1 - d.toNat]? = some c) ∧ (ok = false → d < 0 ∨ (min s.length size : Nat) ≤ d) := by
  by_cases hd : 0 ≤ d ∧ d < (min s.length size : Nat)
  · obtain ⟨n, rfl⟩ := Int.eq_ofNat_of_zero_le hd.1
    have hlt : s.length - 1 - n < s.length := by omega
    exact ⟨_, true, at_ring g s size S n w h (by omega) _ (List.getElem?_eq_getElem hlt), fun _ => ⟨hd.1, hd.2, List.getElem?_eq_getElem hlt⟩, (fun h => by cases h)⟩
  · exact ⟨0, false, at_no g s size S d w h (by omega), (fun h => by cases h), fun _ => by omega⟩

theorem growsAt {w0 w4 : World} {ga gb za more : Nat} {s : List UInt8} (h : Two w0 w4 ga gb s s za (za + more)) (hs : s.length ≤ 500) (hz : 1 ≤ za) (d : Int) :
    Pure' w0 w4 ∧ ∃ c c2 ok is T m, GrowsAt w4 ga gb za d c c2 ok is T m := by
  obtain ⟨A, B, hA, hB, hd, hs', hp⟩ := h
  refine ⟨hp, ?_⟩
  obtain ⟨c, ok, ca, y1, n1⟩ := at_any hA d
  obtain ⟨c2, is, cb, y2, n2⟩ := at_any hB d
  have kA : ∀ W, Pure' w4 W → Ring W ga s za A := fun W hk => hA.keep hk fun _ _ h => h
  have kB : ∀ W, Pure' w4 W → Ring W gb s (za + more) B := fun W hk => hB.keep hk fun _ _ h => h
  refine ⟨c, c2, ok, is, ⟨(s.drop (s.length - min s.length za)).toArray⟩, min s.length za, ca, cb, fun hok => ?_, fun W hk => ?_, fun W hk => ?_, fun W hk => (kA W hk).lens, fun W hk => ?_⟩
  · obtain ⟨h1, h2, h3⟩ := y1 hok
    cases hi : is with
    | false => have := n2 hi; omega
    | true =>
      obtain ⟨_, _, h4⟩ := y2 hi
      rw [h3] at h4
      exact ⟨rfl, by injection h4⟩
  · exact (tail_ring ga s za A za W (kA W hk) (fun b hb => Nat.lt_of_lt_of_le (hs' b (.inl hb)).2 hk.size) (min s.length za) (by omega)).mono fun e w' ⟨he, hq⟩ => ⟨he, hk.then_ hq⟩
  · refine (ends_ring gb s (za + more) B ⟨(s.drop (s.length - min s.length za)).toArray⟩ W (kB W hk) (by simp [ByteArray.size]; omega)).mono ?_
    rintro e w' ⟨rfl, rfl⟩
    exact ⟨ret_bool (by simpa using endsP_tail s (min s.length za) (za + more) (by omega) (by omega)), rfl⟩
  · exact (tail_ring gb s (za + more) B _ W (kB W hk) (fun b hb => Nat.lt_of_lt_of_le (hs' b (.inr hb)).2 hk.size) (min s.length za) (by omega)).mono fun e w' ⟨he, hq⟩ => ⟨he, hk.then_ hq⟩

set_option maxHeartbeats 2000000 in
theorem grows_law (s : ByteArray) (za more : Nat) (cut d : Int) (w : World) (hs : s.size ≤ 500) (h1 : 1 ≤ za) (h2 : za ≤ 300) (h3 : more ≤ 300) :
    Calls Try.prog 4 #[.string s, .int .i64 za, .int .i64 more, .int .i64 cut, .int .i64 d] w fun e w' => e = .returned (.bool true) ∧ Pure' w w' := by
  have HT := Lib.hid (Two.made w za (za + more) ((za : Int) + more) (by omega) h1 (by omega) (by omega) (by omega))
  obtain ⟨hb0, hb1⟩ := and511 cut
  obtain ⟨ct, hbits⟩ : ∃ ct, bits .and .i64 cut 511 = ct := ⟨_, rfl⟩
  rw [hbits] at hb0 hb1
  have hsl : s.data.toList.length = s.size := by simp
  have HL := Lib.hid hsl
  clear hsl
  go_enter Try.func4, Try.ntmps4
  go_wp2_with (go_at_call 14; refine (new_ok _ _ (by omega) (by omega)).mono ?_; rintro e w1 ⟨rfl, rfl⟩)
  refine (HT.out.writeA s (by simp; omega)).mono ?_
  rintro e w2 ⟨rfl, ht2⟩
  have HT2 := Lib.hid ht2
  clear ht2 HT
  generalize hga : w.heap.size = g at *
  have HG := Lib.hid hga
  clear hga
  by_cases hct : (s.size : Int) < ct
  · go_wp2_with fail
    refine (HT2.out.writeB s (by simp; omega)).mono ?_
    rintro e w3 ⟨rfl, ht3⟩
    have HT3 := Lib.hid ht3
    clear ht3 HT2
    go_wp2_with fail
    refine (HT3.out.writeB ByteArray.empty (by simp; omega)).mono ?_
    rintro e w4 ⟨rfl, ht4⟩
    obtain ⟨hp4, c, c2, ok, is, T, m, hG⟩ := growsAt (show Two w w4 g (g + 1) s.data.toList s.data.toList za (za + more) from by simpa using ht4) (by simpa using hs) h1 d
    have HG4 := Lib.hid hG
    have HP4 := Lib.hid hp4
    have hrel := hG.rel
    clear hG ht4 HT3 hp4
    cases ok with
    | true =>
      obtain ⟨rfl, rfl⟩ := hrel rfl
      go_wp2_with fail
      refine (HG4.out.atA).mono ?_
      rintro e w' ⟨rfl, rfl⟩
      go_wp2_with fail
      refine (HG4.out.atB).mono ?_
      rintro e w' ⟨rfl, rfl⟩
      go_wp2_with fail
      refine (HG4.out.tailA _ (Keeps.refl _ _)).mono ?_
      rintro e w5 ⟨rfl, hp5⟩
      go_wp2_with fail
      refine (HG4.out.ends _ hp5).mono ?_
      rintro e w' ⟨rfl, rfl⟩
      go_wp2_with fail
      refine (HG4.out.tailA _ hp5).mono ?_
      rintro e w6 ⟨rfl, hp6⟩
      go_wp2_with fail
      refine (HG4.out.len _ hp6).mono ?_
      rintro e w' ⟨rfl, rfl⟩
      go_wp2_with fail
      refine (HG4.out.tailB _ hp6).mono ?_
      rintro e w7 ⟨rfl, hp7⟩
      go_wp2_with fail
      refine (awake_ (HP4.out.then_ hp7)).mono ?_
      rintro e w8 ⟨rfl, hp8⟩
      go_wp2
      go_ret
      exact ⟨rfl, hp8⟩
    | false =>
      clear hrel
      go_wp2_with fail
      refine (HG4.out.atA).mono ?_
      rintro e w' ⟨rfl, rfl⟩
      go_wp2_with fail
      refine (HG4.out.atB).mono ?_
      rintro e w' ⟨rfl, rfl⟩
      go_wp2_with fail
      refine (HG4.out.tailA _ (Keeps.refl _ _)).mono ?_
      rintro e w5 ⟨rfl, hp5⟩
      go_wp2_with fail
      refine (HG4.out.ends _ hp5).mono ?_
      rintro e w' ⟨rfl, rfl⟩
      go_wp2_with fail
      refine (HG4.out.tailA _ hp5).mono ?_
      rintro e w6 ⟨rfl, hp6⟩
      go_wp2_with fail
      refine (HG4.out.len _ hp6).mono ?_
      rintro e w' ⟨rfl, rfl⟩
      go_wp2_with fail
      refine (HG4.out.tailB _ hp6).mono ?_
      rintro e w7 ⟨rfl, hp7⟩
      go_wp2_with fail
      refine (awake_ (HP4.out.then_ hp7)).mono ?_
      rintro e w8 ⟨rfl, hp8⟩
      go_wp2
      go_ret
      exact ⟨rfl, hp8⟩
  · obtain ⟨m, rfl⟩ := Int.eq_ofNat_of_zero_le hb0
    have hm : m ≤ s.size := by omega
    have hsp : (s.extract 0 m).data.toList ++ (s.extract m s.size).data.toList = s.data.toList := by
      rw [extract_end]
      simp [ByteArray.extract, ByteArray.copySlice, List.take_append_drop]
    have hx1 : (s.extract 0 m).size ≤ 500 := by simp; omega
    have hx2 : (s.extract m s.size).size ≤ 500 := by simp; omega
    have HSP := Lib.hid hsp
    clear hsp
    go_wp2_with fail
    refine (HT2.out.writeB (s.extract 0 m) (by simp; omega)).mono ?_
    rintro e w3 ⟨rfl, ht3⟩
    have HT3 := Lib.hid ht3
    clear ht3 HT2
    go_wp2_with fail
    refine (HT3.out.writeB (s.extract m s.size) (by simp; omega)).mono ?_
    rintro e w4 ⟨rfl, ht4⟩
    rw [List.nil_append, List.nil_append, HSP.out] at ht4
    obtain ⟨hp4, c, c2, ok, is, T, mm, hG⟩ := growsAt ht4 (by simpa using hs) h1 d
    have HG4 := Lib.hid hG
    have HP4 := Lib.hid hp4
    have hrel := hG.rel
    clear hG ht4 HT3 hp4
    cases ok with
    | true =>
      obtain ⟨rfl, rfl⟩ := hrel rfl
      go_wp2_with fail
      refine (HG4.out.atA).mono ?_
      rintro e w' ⟨rfl, rfl⟩
      go_wp2_with fail
      refine (HG4.out.atB).mono ?_
      rintro e w' ⟨rfl, rfl⟩
      go_wp2_with fail
      refine (HG4.out.tailA _ (Keeps.refl _ _)).mono ?_
      rintro e w5 ⟨rfl, hp5⟩
      go_wp2_with fail
      refine (HG4.out.ends _ hp5).mono ?_
      rintro e w' ⟨rfl, rfl⟩
      go_wp2_with fail
      refine (HG4.out.tailA _ hp5).mono ?_
      rintro e w6 ⟨rfl, hp6⟩
      go_wp2_with fail
      refine (HG4.out.len _ hp6).mono ?_
      rintro e w' ⟨rfl, rfl⟩
      go_wp2_with fail
      refine (HG4.out.tailB _ hp6).mono ?_
      rintro e w7 ⟨rfl, hp7⟩
      go_wp2_with fail
      refine (awake_ (HP4.out.then_ hp7)).mono ?_
      rintro e w8 ⟨rfl, hp8⟩
      go_wp2
      go_ret
      exact ⟨rfl, hp8⟩
    | false =>
      clear hrel
      go_wp2_with fail
      refine (HG4.out.atA).mono ?_
      rintro e w' ⟨rfl, rfl⟩
      go_wp2_with fail
      refine (HG4.out.atB).mono ?_
      rintro e w' ⟨rfl, rfl⟩
      go_wp2_with fail
      refine (HG4.out.tailA _ (Keeps.refl _ _)).mono ?_
      rintro e w5 ⟨rfl, hp5⟩
      go_wp2_with fail
      refine (HG4.out.ends _ hp5).mono ?_
      rintro e w' ⟨rfl, rfl⟩
      go_wp2_with fail
      refine (HG4.out.tailA _ hp5).mono ?_
      rintro e w6 ⟨rfl, hp6⟩
      go_wp2_with fail
      refine (HG4.out.len _ hp6).mono ?_
      rintro e w' ⟨rfl, rfl⟩
      go_wp2_with fail
      refine (HG4.out.tailB _ hp6).mono ?_
      rintro e w7 ⟨rfl, hp7⟩
      go_wp2_with fail
      refine (awake_ (HP4.out.then_ hp7)).mono ?_
      rintro e w8 ⟨rfl, hp8⟩
      go_wp2
      go_ret
      exact ⟨rfl, hp8⟩

theorem grows_row (w : World) (s : ByteArray) (za more cut d : Int) (hs : s.size ≤ maxLen) (h1 : -9223372036854775808 ≤ za ∧ za ≤ 9223372036854775807) (h2 : -9223372036854775808 ≤ more ∧ more ≤ 9223372036854775807)
    (h3 : -9223372036854775808 ≤ cut ∧ cut ≤ 9223372036854775807) (h4 : -9223372036854775808 ≤ d ∧ d ≤ 9223372036854775807) :
    Calls Try.prog 4 #[.string s, .int .i64 za, .int .i64 more, .int .i64 cut, .int .i64 d] w fun e w' => e = .returned (.bool true) ∧ Pure' w w' := by
  by_cases hg : s.size ≤ 500 ∧ 1 ≤ za ∧ za ≤ 300 ∧ 0 ≤ more ∧ more ≤ 300
  · obtain ⟨za, rfl⟩ := Int.eq_ofNat_of_zero_le (show 0 ≤ za by omega)
    obtain ⟨more, rfl⟩ := Int.eq_ofNat_of_zero_le (show 0 ≤ more by omega)
    exact grows_law s za more cut d w hg.1 (by omega) (by omega) (by omega)
  · unfold maxLen at hs
    have hc : 500 < s.size ∨ (s.size ≤ 500 ∧ (za < 1 ∨ (1 ≤ za ∧ (300 < za ∨ (za ≤ 300 ∧ (more < 0 ∨ (0 ≤ more ∧ 300 < more))))))) := by omega
    clear hg h1 h2 h3 h4
    rcases hc with h | ⟨h, h | ⟨h1, h | ⟨h2, h | ⟨h3, h⟩⟩⟩⟩ <;>
    · go_enter Try.func4, Try.ntmps4
      go_wp2_with (go_at_call 13; refine (awake_ (Keeps.refl _ w)).mono ?_; rintro e w2 ⟨rfl, hp2⟩)
      go_ret
      exact ⟨rfl, hp2⟩
end Go.Proofs.Ytacodojaolnhnaa
