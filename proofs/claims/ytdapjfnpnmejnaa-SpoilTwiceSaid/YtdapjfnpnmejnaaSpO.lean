/- A record's bytes, by the program; no condition but the sizes. -/
import Derived.Test.YtdapjfnpnmejnaaSpN
import Derived.Test.YtdapjfnpnmejnaaWb
namespace Go.Proofs.Ytdapjfnpnmejnaa
open Go.RowKit Go.Proofs.YtdapjfnpnmejnaaW.PrintWords Go.Proofs.Ytdapjfnpnmejnaa.GB
set_option linter.unusedVariables false
set_option linter.unusedSimpArgs false
set_option maxRecDepth 100000

/-- A builder of one's own over the world w0, that holds the bytes acc. -/
structure BInv (w0 wr : World) (b : Nat) (acc : List UInt8) : Prop where
  my : MyB wr (b + 1) b acc
  pure : Pure' w0 wr
  new : w0.heap.size ≤ b
  lt : b < wr.heap.size
theorem BInv.fresh (w0 w : World) (hp : Pure' w0 w) : BInv w0 (w.alloc (.cells #[.pointer none, .slice none 0 0] 106)) w.heap.size [] :=
  ⟨.inl ⟨_, Blk.new w _ _, World.ownsRow_nil _ _ _ _, by simp [Value.ownBlock]⟩, hp.alloc _, hp.size, by simp⟩
theorem BInv.wrote {w0 wr w1 : World} {b : Nat} {acc acc' : List UInt8} (h : BInv w0 wr b acc) (hm : MyB w1 (b + 1) b acc') (hk : Keeps (fun x => x = b ∨ b + 1 ≤ x) wr w1) : BInv w0 w1 b acc' :=
  ⟨hm, h.pure.trans hk (fun x hx hs => by have := h.new; rcases hs with hs | hs <;> omega), h.new, Nat.lt_of_lt_of_le h.lt hk.size⟩
theorem BInv.step {w0 wr w1 : World} {b : Nat} {acc : List UInt8} (h : BInv w0 wr b acc) (hk : Pure' wr w1) : BInv w0 w1 b acc := by
  refine ⟨?_, h.pure.then_ hk, h.new, Nat.lt_of_lt_of_le h.lt hk.size⟩
  exact h.my.keep hk (fun h => h) (fun _ _ h => h)
theorem BInv.out {w0 wr : World} {b : Nat} {acc : List UInt8} (h : BInv w0 wr b acc) :
    Calls Try.prog 77 #[.pointer (some ⟨b, 0, none⟩)] wr fun e w' => e = .returned (.string (strL acc)) ∧ Pure' w0 w' := by
  refine (Try.Builder_String_any b b acc wr (h.my.is (by omega) (Nat.le_refl _)) (Nat.le_of_lt h.lt)).mono ?_
  rintro e w' ⟨rfl, hb⟩
  exact ⟨rfl, h.pure.trans (Keeps.of_below' hb) (fun x hx hs => by have h' : b ≤ x := hs; have := h.new; omega)⟩

theorem strL_data (l : List UInt8) : (strL l).data.toList = l := by unfold strL; simp
theorem C_two {W : World} {g : Nat} {t : TypeId} {a b : Int} (h : Blk W g t #[.int .i64 a, .int .i64 b]) : Kd.C (Kd.int .i64) W (some ⟨g, 0, none⟩) 2 [a, b] := by
  refine ⟨rfl, by decide, fun _ => ⟨_, rfl, fun j p hp => ⟨[.int .i64 p], rfl, rfl, fun i u hu => ?_⟩⟩⟩
  match i, hu with
  | 0, hu =>
    simp at hu
    subst hu
    rw [show (⟨g, 0, none⟩ : Addr).add (j * (Kd.int .i64).sz + 0) = ⟨g, j, none⟩ by show (⟨g, 0, none⟩ : Addr).add (j * 1 + 0) = _; unfold Addr.add; split <;> simp_all, h.cell]
    match j, hp with
    | 0, hp => simp at hp; subst hp; rfl
    | 1, hp => simp at hp; subst hp; rfl
/-- What is written to it. -/
theorem bw_ (w0 wr : World) (b : Nat) (acc l : List UInt8) (h : BInv w0 wr b acc) (hl : acc.length + l.length ≤ 140737488355328) :
    Calls Try.prog 74 #[.pointer (some ⟨b, 0, none⟩), .string (strL l)] wr fun e w' => e = .returned (.tuple #[.int .i64 (strL l).size, .nilIface]) ∧ BInv w0 w' b (acc ++ l) := by
  refine (ws_ (b + 1) b acc (strL l) wr h.my (by rw [strL_size]; exact hl) h.lt).mono ?_
  rintro e w' ⟨rfl, hm, hk⟩
  rw [strL_data] at hm
  exact ⟨rfl, h.wrote hm hk⟩
theorem bb_ (w0 wr : World) (b : Nat) (acc : List UInt8) (c : UInt8) (z : Int) (h : BInv w0 wr b acc) (hz : (c.toNat : Int) = z) (hl : acc.length + 1 ≤ 140737488355328) :
    Calls Try.prog 131 #[.pointer (some ⟨b, 0, none⟩), .int .u8 z] wr fun e w' => e = .returned .nilIface ∧ BInv w0 w' b (acc ++ [c]) := by
  subst hz
  refine (wb_ (b + 1) b acc c wr h.my hl h.lt).mono ?_
  rintro e w' ⟨rfl, hm, hk⟩
  exact ⟨rfl, h.wrote hm hk⟩

def PutPost (r : Rec) (w : World) (e : Ending) (w' : World) : Prop :=
  ∃ (s : List UInt8) (er : Int), e = .returned (.tuple #[.string (strL s), .int .i64 er]) ∧ ((er = 0 ∧ checkR r = true ∧ s = encR r) ∨ (er = 2 ∧ checkR r = false ∧ s = [])) ∧ Pure' w w'

set_option maxHeartbeats 4000000 in
theorem rput_no (k n r : Int) (A : Option Addr) (c : Nat) (ids : List Int) (w : World) (hi : Kd.C (Kd.int .i64) w A ids.length ids) (hc : ids.length ≤ c) (hl : ids.length ≤ 1000000) (hck : checkR ⟨k, n, r, ids⟩ = false) :
    Calls Try.prog 99 #[.agg #[.int .i64 k, .int .i64 n, .int .i64 r, .slice A ids.length c]] w fun e w' => PutPost ⟨k, n, r, ids⟩ w e w' := by
  obtain ⟨K, hK⟩ := check_f k n r ids hl
  rw [hck] at hK
  have hkx := (Keeps.refl (fun _ => False) w).alloc (.cells #[.int .i64 k, .int .i64 n, .int .i64 r, .slice A ids.length c] 33)
  have HC := Lib.hid (fun W h => record_Check.calls K k n r A c ids false W h hc hK)
  have HI := Lib.hid (Kd.C_below hi hkx.pure)
  have HK := Lib.hid hkx
  have HCK := Lib.hid hck
  clear hkx hK hi hck
  go_enter Try.func99, Try.ntmps99
  go_wp2_with fail
  refine (HC.out _ HI.out).mono ?_
  rintro e w2 ⟨rfl, hb⟩
  have HB := Lib.hid (Keeps.of_below hb)
  clear hb
  go_wp2
  go_ret2
  exact ⟨[], 2, rfl, .inr ⟨rfl, HCK.out, rfl⟩, HK.out.then_ HB.out⟩
set_option maxHeartbeats 1000000 in
theorem rput_two (k n r : Int) (A : Option Addr) (c : Nat) (ids : List Int) (w : World) (hi : Kd.C (Kd.int .i64) w A ids.length ids) (hc : ids.length ≤ c) (hl : ids.length ≤ 1000000) (hck : checkR ⟨k, n, r, ids⟩ = true) (h4 : k ≠ 4) :
    Calls Try.prog 99 #[.agg #[.int .i64 k, .int .i64 n, .int .i64 r, .slice A ids.length c]] w fun e w' => PutPost ⟨k, n, r, ids⟩ w e w' := by
  obtain ⟨K, hK⟩ := check_f k n r ids hl
  rw [hck] at hK
  have hkx := (Keeps.refl (fun _ => False) w).alloc (.cells #[.int .i64 k, .int .i64 n, .int .i64 r, .slice A ids.length c] 33)
  have hnx := Blk.new w 33 #[.int .i64 k, .int .i64 n, .int .i64 r, .slice A ids.length c]
  have HC := Lib.hid (fun W h => record_Check.calls K k n r A c ids true W h hc hK)
  have HI := Lib.hid (Kd.C_below hi hkx.pure)
  have HK := Lib.hid hkx
  have HN := Lib.hid hnx
  have HCK := Lib.hid hck
  have hkr : (1 ≤ k ∧ k ≤ 6) ∧ (0 ≤ n ∧ n ≤ 4611686018427387903) ∧ (0 ≤ r ∧ r ≤ 4611686018427387903) := by
    unfold checkR at hck
    rw [if_neg h4] at hck
    simp only [Bool.and_eq_true] at hck
    obtain ⟨⟨⟨_, h1⟩, h2⟩, h3⟩ := hck
    refine ⟨?_, isO_iff.1 h1, isO_iff.1 h2⟩
    split at h3
    · omega
    · simp at h3; omega
  obtain ⟨⟨hk1, hk2⟩, ⟨hn1, hn2⟩, ⟨hr1, hr2⟩⟩ := hkr
  have t4 : (k != 4) = true := by simpa using h4
  have hkw : IntKind.u8.wrap k = k := by rw [IntKind.wrap_u8]; omega
  have hkm : k % 256 = k := by omega
  obtain ⟨kc, hkc⟩ : ∃ kc : UInt8, (kc.toNat : Int) = k := ⟨UInt8.ofNat k.toNat, by rw [toNat_ofNat _ (by omega)]; omega⟩
  obtain ⟨Kv, hKv⟩ := vall_f [n, r] (by simp) (by intro z hz; unfold isI64; simp at hz; omega)
  have hE : encR ⟨k, n, r, ids⟩ = [kc] ++ [n, r].flatMap encZ := by
    unfold encR
    simp only
    rw [if_neg h4, show UInt8.ofNat k.toNat = kc by rw [← hkc]; simp]
    simp [encZ]
    rw [if_neg (by omega), if_neg (by omega)]
  have hLl : ([n, r].flatMap encZ).length ≤ 100 := by have h1 := encZ_len n ⟨by omega, by omega⟩; have h2 := encZ_len r ⟨by omega, by omega⟩; simp; omega
  generalize [n, r].flatMap encZ = L at *
  have HE := Lib.hid hE
  have HV := Lib.hid hKv
  have HKC := Lib.hid hkc
  clear hkx hnx hK hi hck hE hKv hkc h4
  go_enter Try.func99, Try.ntmps99
  go_wp2_with fail
  refine (HC.out _ HI.out).mono ?_
  rintro e w2 ⟨rfl, hb⟩
  have hp := Keeps.of_below hb
  have HN2 := Lib.hid (HN.out.keep hp (fun h => h))
  have HP2 := Lib.hid (HK.out.then_ hp)
  have HB0 := Lib.hid (BInv.fresh w2 w2 (Keeps.refl _ _))
  have hlt := HN2.out.lt
  have c0 := HN2.out.cell 0
  clear hb hp
  go_wp2_with fail
  refine (bb_ w2 _ w2.heap.size [] kc k HB0.out HKC.out (by decide)).mono ?_
  rintro e w3 ⟨rfl, hb3⟩
  have HN3 := HN2.out.keep hb3.pure (fun h => h)
  have d0 := HN3.cell 0
  have d1 := HN3.cell 1
  have d2 := HN3.cell 2
  have HNW := Lib.hid (Blk.new w3 3 #[.int .i64 n, .int .i64 r])
  have HB3 := Lib.hid (hb3.step ((Keeps.refl (fun _ => False) w3).alloc (.cells #[.int .i64 n, .int .i64 r] 3)))
  clear hb3 c0 HN3
  go_wp2_with fail
  refine (varint_All.calls Kv (some ⟨w3.heap.size, 0, none⟩) 2 [n, r] _ _ (C_two HNW.out) (Nat.le_refl _) HV.out).mono ?_
  rintro e w4 ⟨rfl, hb4⟩
  have HB4 := Lib.hid (HB3.out.step (Keeps.of_below hb4))
  clear hb4 d0 d1 d2
  go_wp2_with fail
  refine (bw_ w2 _ w2.heap.size ([] ++ [kc]) L HB4.out (by simp; omega)).mono ?_
  rintro e w5 ⟨rfl, hb5⟩
  have HB5 := Lib.hid hb5
  clear hb5
  go_wp2_with fail
  refine (BInv.out HB5.out).mono ?_
  rintro e w6 ⟨rfl, hp6⟩
  have HP6 := Lib.hid hp6
  clear hp6
  go_wp2
  go_ret2
  exact ⟨_, 0, rfl, .inl ⟨rfl, HCK.out, by rw [HE.out]; rfl⟩, HP2.out.then_ HP6.out⟩
theorem C_cell {w : World} {A : Option Addr} {n : Nat} {xs : List Int} (h : Kd.C (Kd.int .i64) w A n xs) {i : Nat} (hi : i < n) (hx : i < xs.length) : ∃ ad, A = some ad ∧ w.cell? (ad.add i) = some (.int .i64 xs[i]) := by
  obtain ⟨ad, c, e, _, hK, hc⟩ := Kd.C_get h 0 (i : Int) (by omega) (by omega)
  have hK' : c = [.int .i64 (xs.getD (i : Int).toNat 0)] := hK
  have h0 := hc 0 _ (by rw [hK']; rfl)
  rw [Int.toNat_natCast, List.getD_eq_getElem?_getD, List.getElem?_eq_getElem hx] at h0
  have e2 : i * (Kd.int .i64).sz + 0 = i := by show i * 1 + 0 = i; omega
  rw [e2] at h0
  exact ⟨ad, e, h0⟩
theorem rises_step {a z : Int} {l : List Int} (h : (a = 0 ∧ risesL (-1) (z :: l) = true) ∨ risesL a (z :: l) = true) (ha : 0 ≤ a) : a ≤ z ∧ z < 65535 ∧ risesL z l = true := by
  rcases h with ⟨rfl, h⟩ | h <;> (rw [risesL] at h; simp at h; exact ⟨by omega, by omega, h.2⟩)

set_option maxHeartbeats 1000000 in
theorem rput_at (A : Option Addr) (c : Nat) (ids : List Int) (w : World) (hi : Kd.C (Kd.int .i64) w A ids.length ids) (hc : ids.length ≤ c) (hl : ids.length ≤ 1000000) (hck : risesL (-1) ids = true) :
    Calls Try.prog 99 #[.agg #[.int .i64 4, .int .i64 0, .int .i64 0, .slice A ids.length c]] w fun e w' => PutPost ⟨4, 0, 0, ids⟩ w e w' := by
  have hck2 : checkR ⟨4, 0, 0, ids⟩ = true := by unfold checkR; rw [if_pos rfl]; simpa using hck
  obtain ⟨K, hK⟩ := check_f 4 0 0 ids hl
  rw [hck2] at hK
  have hkx := (Keeps.refl (fun _ => False) w).alloc (.cells #[.int .i64 4, .int .i64 0, .int .i64 0, .slice A ids.length c] 33)
  have hnx := Blk.new w 33 #[.int .i64 4, .int .i64 0, .int .i64 0, .slice A ids.length c]
  have HC := Lib.hid (fun W h => record_Check.calls K 4 0 0 A c ids true W h hc hK)
  have HI := Lib.hid (Kd.C_below hi hkx.pure)
  have HIB := Lib.hid (fun W (hp : Pure' w W) => Kd.C_below hi hp.pure)
  have HK := Lib.hid hkx
  have HN := Lib.hid hnx
  have HCK := Lib.hid hck2
  have HE : Hid (encR ⟨4, 0, 0, ids⟩ = [4] ++ encZ ids.length ++ encI 0 ids) := Lib.hid (by
    unfold encR
    rw [if_pos (show (⟨4, 0, 0, ids⟩ : Rec).kind = 4 from rfl)]
    have h1 : encZ (ids.length : Int) = encV ids.length := by unfold encZ; rw [if_neg (by omega)]; rfl
    rw [h1]
    rfl)
  have HPL : Hid (varint_Put.f (ids.length : Int) = some (strL (encZ ids.length))) := Lib.hid (by unfold varint_Put.f; exact if_pos ⟨by omega, by omega⟩)
  have hel : (encZ (ids.length : Int)).length ≤ 9 := encZ_len _ ⟨by omega, by omega⟩
  have HRS := Lib.hid hck
  generalize encZ (ids.length : Int) = EL at *
  clear hkx hnx hK hi hck hck2
  go_enter Try.func99, Try.ntmps99
  go_wp2_with fail
  refine (HC.out _ HI.out).mono ?_
  rintro e w2 ⟨rfl, hb⟩
  have hp := Keeps.of_below hb
  have HN2 := Lib.hid (HN.out.keep hp (fun h => h))
  have HP2 := Lib.hid (HK.out.then_ hp)
  have HB0 := Lib.hid (BInv.fresh w2 w2 (Keeps.refl _ _))
  have hlt := HN2.out.lt
  have c0 := HN2.out.cell 0
  clear hb hp
  go_wp2_with fail
  refine (bb_ w2 _ w2.heap.size [] 4 4 HB0.out rfl (by decide)).mono ?_
  rintro e w3 ⟨rfl, hb3⟩
  have HN3 := HN2.out.keep hb3.pure (fun h => h)
  have d0 := HN3.cell 0
  have d3 := HN3.cell 3
  have HB3 := Lib.hid hb3
  clear hb3 c0 HN3
  go_wp2_with fail
  refine (varint_Put.calls _ _ _ HPL.out).mono ?_
  rintro e w4 ⟨rfl, hb4⟩
  have HB4 := Lib.hid (HB3.out.step (Keeps.of_below hb4))
  clear hb4 d0 d3
  go_wp2_with fail
  refine (bw_ w2 _ w2.heap.size ([] ++ [4]) EL HB4.out (by simp; omega)).mono ?_
  rintro e w5 ⟨rfl, hb5⟩
  have HN5 := HN2.out.keep hb5.pure (fun h => h)
  have d3 := HN5.cell 3
  have HB5 := Lib.hid hb5
  clear hb5 HN5
  go_wp2
  clear d3
  generalize hm : ids.length = m at *
  have HM := Lib.hid hm
  clear hm
  go_loopw [5, 34] (fun v5 v34 wr => ∃ (k : Nat) (a : Int) (acc : List UInt8), k ≤ m ∧ v34 = .int .i64 k ∧ v5 = .int .i64 a ∧ 0 ≤ a ∧ a ≤ 65535 ∧ acc.length ≤ 20 + 9 * k ∧ Hid (BInv w2 wr w2.heap.size acc) ∧ Hid (acc ++ encI a (ids.drop k) = encR ⟨4, 0, 0, ids⟩) ∧ Hid ((a = 0 ∧ risesL (-1) (ids.drop k) = true) ∨ risesL a (ids.drop k) = true)) (fun _ v34 _ => m - (intOf v34).toNat)
  case atStart => exact ⟨0, 0, _, Nat.zero_le _, rfl, rfl, by omega, by omega, by simp; omega, HB5, Lib.hid (by rw [HE.out]; simp), Lib.hid (.inl ⟨rfl, HRS.out⟩)⟩
  case round =>
    obtain ⟨k, a, acc, hk, rfl, rfl, ha0, ha1, hal, HB, HEQ, HRR⟩ := hrel
    by_cases hlt2 : k < m
    · have hkl : k < ids.length := by rw [HM.out]; exact hlt2
      obtain ⟨ad, rfl, hcell⟩ := C_cell (HIB.out _ (HP2.out.then_ HB.out.pure)) hlt2 hkl
      have hdr := List.drop_eq_getElem_cons hkl
      have hrr := HRR.out
      have heq := HEQ.out
      rw [hdr] at hrr heq
      rw [encI] at heq
      obtain ⟨hz1, hz2, hz3⟩ := rises_step hrr ha0
      generalize ids[k] = z at *
      have hsub : wrap64 (z - a) = z - a := wrap_in (by omega) (by omega)
      have henc : encZ (z - a) = encV (z - a).toNat := by unfold encZ; rw [if_neg (by omega)]
      rw [← henc] at heq
      have he9 := encZ_len (z - a) ⟨by omega, by omega⟩
      have HPZ : Hid (varint_Put.f (z - a) = some (strL (encZ (z - a)))) := Lib.hid (by unfold varint_Put.f; exact if_pos ⟨by omega, by omega⟩)
      generalize encZ (z - a) = EZ at *
      have HEQ2 := Lib.hid heq
      have HRR2 := Lib.hid hz3
      clear hdr hrr heq hz3 henc hsub
      go_wp2_with fail
      refine (varint_Put.calls _ _ _ HPZ.out).mono ?_
      rintro e w6 ⟨rfl, hb6⟩
      have HB6 := Lib.hid (HB.out.step (Keeps.of_below hb6))
      clear hb6
      go_wp2_with fail
      refine (bw_ w2 _ w2.heap.size acc EZ HB6.out (by omega)).mono ?_
      rintro e w7 ⟨rfl, hb7⟩
      have HB7 := Lib.hid hb7
      clear hb7
      go_wp2
      go_roundw
      case rel => exact ⟨k + 1, z, acc ++ EZ, by omega, by go_num, rfl, by omega, by omega, by rw [List.length_append]; omega, HB7, Lib.hid (by rw [List.append_assoc]; exact HEQ2.out), Lib.hid (.inr HRR2.out)⟩
      case measure => simp [intOf] <;> omega
    · obtain rfl : k = m := by omega
      have HF : Hid (acc = encR ⟨4, 0, 0, ids⟩) := Lib.hid (by
        have h := HEQ.out
        rw [List.drop_eq_nil_of_le (by rw [HM.out]; exact Nat.le_refl _), encI, List.append_nil] at h
        exact h)
      go_wp2_with fail
      refine (BInv.out HB.out).mono ?_
      rintro e w6 ⟨rfl, hp6⟩
      have HP6 := Lib.hid hp6
      clear hp6
      go_wp2
      go_ret2
      exact ⟨_, 0, rfl, .inl ⟨rfl, HCK.out, HF.out⟩, HP2.out.then_ HP6.out⟩
theorem rput_ (k n r : Int) (A : Option Addr) (c : Nat) (ids : List Int) (w : World) (hi : Kd.C (Kd.int .i64) w A ids.length ids) (hc : ids.length ≤ c) (hl : ids.length ≤ 1000000) :
    Calls Try.prog 99 #[.agg #[.int .i64 k, .int .i64 n, .int .i64 r, .slice A ids.length c]] w fun e w' => PutPost ⟨k, n, r, ids⟩ w e w' := by
  cases hck : checkR ⟨k, n, r, ids⟩ with
  | false => exact rput_no k n r A c ids w hi hc hl hck
  | true =>
    by_cases h4 : k = 4
    · subst h4
      have h := hck
      unfold checkR at h
      rw [if_pos rfl] at h
      simp only [Bool.and_eq_true, decide_eq_true_eq] at h
      obtain ⟨⟨h1, h2⟩, h3⟩ := h
      subst h1; subst h2
      exact rput_at A c ids w hi hc hl h3
    · exact rput_two k n r A c ids w hi hc hl hck h4
end Go.Proofs.Ytdapjfnpnmejnaa
