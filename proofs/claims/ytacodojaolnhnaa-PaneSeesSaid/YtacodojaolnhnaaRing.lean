import Derived.Test.YtacodojaolnhnaaProg
import Derived.Test.YtacodojaolnhnaaMem
namespace Go.Proofs.Ytacodojaolnhnaa
open Go.RowKit
set_option linter.unusedVariables false
set_option linter.unusedSimpArgs false
set_option maxRecDepth 100000

theorem u8info : (Try.prog.info? 5).map (fun i => (i.zero, i.size, i.bytes)) = some (some (.int .u8 0), 1, 1) := by kernel_rfl

/-- What lies in a ring's row, of the bytes s that came. -/
structure Phys (s : List UInt8) (size : Nat) (bs : List UInt8) : Prop where
  pos : 1 ≤ size
  len : bs.length = min s.length size
  at_ : ∀ d, d < bs.length → bs[(s.length - 1 - d) % size]? = s[s.length - 1 - d]?

theorem Phys.nil (size : Nat) (h : 1 ≤ size) : Phys [] size [] := ⟨h, by simp, fun d hd => by simp at hd⟩

theorem Phys.grow {s bs : List UInt8} {size : Nat} (h : Phys s size bs) (hl : bs.length < size) (c : UInt8) : Phys (s ++ [c]) size (bs ++ [c]) := by
  have h1 := h.len
  have hsl : s.length = bs.length := by omega
  refine ⟨h.pos, by simp; omega, fun d hd => ?_⟩
  simp only [List.length_append, List.length_cons, List.length_nil] at hd ⊢
  rw [Nat.mod_eq_of_lt (by omega)]
  rcases Nat.eq_zero_or_pos d with h0 | h0
  · subst h0; simp [hsl]
  · have := h.at_ (d - 1) (by omega)
    rw [Nat.mod_eq_of_lt (by omega)] at this
    rw [List.getElem?_append_left (by omega), List.getElem?_append_left (by omega)]
    rw [show s.length + (0 + 1) - 1 - d = s.length - 1 - (d - 1) from by omega]; exact this

theorem Phys.over {s bs : List UInt8} {size : Nat} (h : Phys s size bs) (hl : bs.length = size) (c : UInt8) : Phys (s ++ [c]) size (bs.set (s.length % size) c) := by
  have h1 := h.len
  have hp := h.pos
  refine ⟨h.pos, by simp; omega, fun d hd => ?_⟩
  simp only [List.length_set] at hd
  simp only [List.length_append, List.length_cons, List.length_nil]
  rcases Nat.eq_zero_or_pos d with h0 | h0
  · subst h0
    have : s.length % size < bs.length := by rw [hl]; exact Nat.mod_lt _ hp
    simp [this]
  · have h2 := h.at_ (d - 1) (by omega)
    have hne : s.length % size ≠ (s.length + (0 + 1) - 1 - d) % size := by
      intro he
      have e1 : (s.length + (0 + 1) - 1 - d) = s.length - d := by omega
      rw [e1] at he
      have h3 : (s.length - (s.length - d)) % size = 0 := Nat.sub_mod_eq_zero_of_mod_eq he
      rw [show s.length - (s.length - d) = d by omega, Nat.mod_eq_of_lt (by omega)] at h3
      omega
    rw [List.getElem?_set_ne hne, List.getElem?_append_left (by omega)]
    rw [show s.length + (0 + 1) - 1 - d = s.length - 1 - (d - 1) from by omega]; exact h2

theorem Phys.next {s : List UInt8} {size : Nat} (hp : 1 ≤ size) : (if s.length % size + 1 = size then 0 else s.length % size + 1) = (s.length + 1) % size := by
  have h := Nat.mod_lt s.length hp
  rw [Nat.add_mod]
  rcases Nat.lt_or_ge 1 size with h1 | h1
  · rw [Nat.mod_eq_of_lt h1]
    split
    · rename_i he; rw [he, Nat.mod_self]
    · rw [Nat.mod_eq_of_lt (a := s.length % size + 1) (by omega)]
  · have : size = 1 := by omega
    subst this; simp [Nat.mod_one]

/-- The ring at block g got the bytes s; its blocks lie in S. -/
def Ring (w : World) (g : Nat) (s : List UInt8) (size : Nat) (S : Nat → Prop) : Prop :=
  ∃ v bs, Blk w g 71 #[v, .int .i64 size, .int .i64 (s.length % size : Nat), .int .i64 s.length] ∧ Row w 5 1 v bs.length (bs.map byteV) ∧ Phys s size bs ∧
    size ≤ 65536 ∧ S g ∧ ∀ b, v.ownBlock = some b → S b

theorem Ring.keep {w w' : World} {g : Nat} {s : List UInt8} {size : Nat} {S S' : Nat → Prop} (h : Ring w g s size S) (hk : Keeps S' w w') (hd : ∀ b, S b → ¬ S' b) : Ring w' g s size S := by
  obtain ⟨v, bs, h1, h2, h3, h4, h5, h6⟩ := h
  exact ⟨v, bs, h1.keep hk (hd g h5), h2.keep hk fun b hb => hd b (h6 b hb), h3, h4, h5, h6⟩

theorem len_nil (w : World) : Calls Try.prog 21 #[.pointer none] w fun e w' => e = .returned (.int .i64 0) ∧ w = w' := by
  go_enter Try.func21, Try.ntmps21
  go_wp2
  go_ret
  exact ⟨rfl, rfl⟩

theorem len_blk (g : Nat) (a : Option Addr) (n c : Nat) (x y z : Value) (w : World) (h : Blk w g 71 #[.slice a n c, x, y, z]) : Calls Try.prog 21 #[.pointer (some ⟨g, 0, none⟩)] w fun e w' => e = .returned (.int .i64 n) ∧ w = w' := by
  have h0 := h.cell 0
  go_enter Try.func21, Try.ntmps21
  go_wp2
  go_ret
  exact ⟨rfl, rfl⟩

theorem seen_nil (w : World) : Calls Try.prog 22 #[.pointer none] w fun e w' => e = .returned (.int .i64 0) ∧ w = w' := by
  go_enter Try.func22, Try.ntmps22
  go_wp2
  go_ret
  exact ⟨rfl, rfl⟩

theorem seen_blk (g : Nat) (n : Int) (x y z : Value) (w : World) (h : Blk w g 71 #[x, y, z, .int .i64 n]) : Calls Try.prog 22 #[.pointer (some ⟨g, 0, none⟩)] w fun e w' => e = .returned (.int .i64 n) ∧ w = w' := by
  have h0 := h.cell 3
  go_enter Try.func22, Try.ntmps22
  go_wp2
  go_ret
  exact ⟨rfl, rfl⟩

theorem new_bad (size : Int) (w : World) (h : size < 1 ∨ 65536 < size) : Calls Try.prog 14 #[.int .i64 size] w fun e w' => e = .returned (.tuple #[.pointer none, .int .i64 2]) ∧ w = w' := by
  rcases h with h | h
  · go_enter Try.func14, Try.ntmps14
    go_wp2
    go_ret2
    exact ⟨rfl, rfl⟩
  · have h' : ¬ size < 1 := by omega
    go_enter Try.func14, Try.ntmps14
    go_wp2
    go_ret2
    exact ⟨rfl, rfl⟩

theorem new_ok (size : Int) (w : World) (h : 1 ≤ size) (h2 : size ≤ 65536) : Calls Try.prog 14 #[.int .i64 size] w fun e w' => e = .returned (.tuple #[.pointer (some ⟨w.heap.size, 0, none⟩), .int .i64 0]) ∧
    w' = w.alloc (.cells #[.slice none 0 0, .int .i64 size, .int .i64 0, .int .i64 0] 71) := by
  have h' : ¬ size < 1 := by omega
  go_enter Try.func14, Try.ntmps14
  go_wp2
  go_ret2
  exact ⟨rfl, rfl⟩


set_option maxHeartbeats 1000000 in
theorem push_set (g b n cap next seen : Nat) (xs : List Value) (c : UInt8) (w : World) (hb : Blk w g 71 #[.slice (some ⟨b, 0, none⟩) n cap, .int .i64 n, .int .i64 next, .int .i64 seen])
    (ho : Row w 5 1 (.slice (some ⟨b, 0, none⟩) n cap) n xs) (hn : next < n) (hm : n ≤ 65536) (hs2 : seen < 1000000000000) :
    Calls Try.prog 15 #[.pointer (some ⟨g, 0, none⟩), .int .u8 (c.toNat : Int)] w fun e w' => e = .returned (.tuple #[]) ∧
      Blk w' g 71 #[.slice (some ⟨b, 0, none⟩) n cap, .int .i64 n, .int .i64 (if next + 1 = n then 0 else next + 1 : Nat), .int .i64 (seen + 1 : Nat)] ∧
      Row w' 5 1 (.slice (some ⟨b, 0, none⟩) n cap) n (xs.set next (byteV c)) ∧ Keeps (fun k => k = g ∨ k = b) w w' := by
  have hbo := ho.blk_ne hb (by decide)
  have hbg : b ≠ g := by simpa [Value.ownBlock] using ho.blk_ne hb (by decide)
  obtain ⟨y, _, hc⟩ := ho.at_ (i := next) (by omega)
  have hf := ho.free (i := next)
  have h0 := hb.cell 0
  have h1 := hb.cell 1
  have h2 := hb.cell 2
  have h3 := hb.cell 3
  have f2 := hb.frozen 2
  have f3 := hb.frozen 3
  have HB := Lib.hid hb
  clear hb
  unfold byteV
  go_enter Try.func15, Try.ntmps15
  go_wp2
  go_quiet (fail)
  go_wp2
  go_region
  go_wp2
  go_quiet (fail)
  by_cases he : next + 1 = n
  · have hd : ((next : Int) + 1 == (n : Int)) = true := by simp; omega
    go_wp2
    go_end0
    refine ⟨rfl, ?_, ?_, ?_⟩
    · apply Blk.to
      · repeat (with_reducible first | exact HB.out | apply Blk.drewN | apply Blk.set_ | apply Blk.off (Ne.symm hbg))
      · simp
    · repeat (with_reducible first | exact ho | refine Row.drewN ?_ _ | refine Row.set_ ?_ _ | apply Row.off hbo)
    · repeat (with_reducible first | exact Keeps.refl _ _ | refine Keeps.drewN ?_ _ | refine Keeps.setCell ?_ (.inl (by simp)) _)
  · have hd : ((next : Int) + 1 == (n : Int)) = false := by simp; omega
    go_wp2
    go_end0
    refine ⟨rfl, ?_, ?_, ?_⟩
    · apply Blk.to
      · repeat (with_reducible first | exact HB.out | apply Blk.drewN | apply Blk.set_ | apply Blk.off (Ne.symm hbg))
      · simp
    · repeat (with_reducible first | exact ho | refine Row.drewN ?_ _ | refine Row.set_ ?_ _ | apply Row.off hbo)
    · repeat (with_reducible first | exact Keeps.refl _ _ | refine Keeps.drewN ?_ _ | refine Keeps.setCell ?_ (.inl (by simp)) _)

theorem byteV_one (c : UInt8) : ∀ u ∈ [Value.int .u8 (c.toNat : Int)], u.oneCell' = true := by intro u hu; simp at hu; subst hu; rfl

set_option maxHeartbeats 1000000 in
theorem push_grow (g n size next seen : Nat) (v : Value) (xs : List Value) (c : UInt8) (w : World) (hb : Blk w g 71 #[v, .int .i64 size, .int .i64 next, .int .i64 seen])
    (ho : Row w 5 1 v n xs) (hn : n < size) (hx : next < size) (hm : size ≤ 65536) (hs2 : seen < 1000000000000) :
    Calls Try.prog 15 #[.pointer (some ⟨g, 0, none⟩), .int .u8 (c.toNat : Int)] w fun e w' => e = .returned (.tuple #[]) ∧ ∃ b cap,
      Blk w' g 71 #[.slice (some ⟨b, 0, none⟩) (n + 1) cap, .int .i64 size, .int .i64 (if next + 1 = size then 0 else next + 1 : Nat), .int .i64 (seen + 1 : Nat)] ∧
      Row w' 5 1 (.slice (some ⟨b, 0, none⟩) (n + 1) cap) (n + 1) (xs ++ [byteV c]) ∧ Keeps (fun k => k = g ∨ v.ownBlock = some k) w w' ∧ (v.ownBlock = some b ∨ w.heap.size ≤ b) := by
  obtain ⟨a, cp, rfl, hcp⟩ := ho.form
  obtain ⟨i0, hi, hz0, hz1, hz2⟩ := info_parts u8info
  have hbo := ho.blk_ne hb (by decide)
  have h0 := hb.cell 0
  have h1 := hb.cell 1
  have f0 := hb.frozen 0
  have HB := Lib.hid hb
  have HO := Lib.hid ho
  clear hb ho
  unfold byteV
  go_enter Try.func15, Try.ntmps15
  go_wp2
  go_quiet (fail)
  go_wp2_with (at_builtin; refine wpl_append _ rfl (.tmp 20) (.tmp 22) 69 rfl 5 i0 (.int .u8 0) 1 1 Try.underlying69 hi hz0 hz1 hz2 rfl (by decide) (.slice a n cp) n xs rfl ?own ⟨w.heap.size, 0, none⟩ 1 1 [.int .u8 c.toNat] rfl rfl ?news ?one (by decide) ?b1 ?b2 ?k)
  case own => exact (Row.alloc HO.out _).drewN _
  case news => exact news1
  case one => exact byteV_one c
  case b1 => unfold maxLen; omega
  case b2 => omega
  case k =>
    intro b1 cap1 w1 ho1 hg1 hb1 hl1
    have HK := Lib.hid ((((Keeps.refl (fun k => k = g ∨ (Value.slice a n cp).ownBlock = some k) w).alloc _).drewN _).grown hg1 (fun k hk => .inl (.inr hk)))
    have hb2 := Blk.grown (g := g) ((HB.out.alloc _).drewN _) hg1 hbo
    have hne := ho1.blk_ne hb2 (by decide)
    have hgb : g ≠ b1 := fun e => by subst e; exact hne rfl
    have HD : Hid ((Value.slice a n cp).ownBlock = some b1 ∨ w.heap.size ≤ b1) := by
      rcases hb1 with h | h
      · exact .inl h
      · exact .inr (by rw [h]; exact Nat.le_succ _)
    have HB2 := Lib.hid hb2
    have HO2 := Lib.hid ho1
    have c0 := hb2.cell 0
    have c1 := hb2.cell 1
    have c2 := hb2.cell 2
    have c3 := hb2.cell 3
    have e0 := hb2.frozen 0
    have e2 := hb2.frozen 2
    have e3 := hb2.frozen 3
    clear h0 h1 f0 hb1 hg1 ho1 hb2 hbo
    go_wp2
    go_quiet (fail)
    by_cases he : next + 1 = size
    · have hd : ((next : Int) + 1 == (size : Int)) = true := by simp; omega
      go_wp2
      go_end0
      refine ⟨rfl, b1, cap1, ?_, ?_, ?_, HD.out⟩
      · apply Blk.to
        · repeat (with_reducible first | exact HB2.out | apply Blk.drewN | apply Blk.set_ | apply Blk.off hgb)
        · simp
      · repeat (with_reducible first | exact HO2.out | apply Row.drewN | apply Row.off hne)
      · repeat (with_reducible first | exact HK.out | refine Keeps.drewN ?_ _ | refine Keeps.setCell ?_ (.inl (by simp)) _)
    · have hd : ((next : Int) + 1 == (size : Int)) = false := by simp; omega
      go_wp2
      go_end0
      refine ⟨rfl, b1, cap1, ?_, ?_, ?_, HD.out⟩
      · apply Blk.to
        · repeat (with_reducible first | exact HB2.out | apply Blk.drewN | apply Blk.set_ | apply Blk.off hgb)
        · simp
      · repeat (with_reducible first | exact HO2.out | apply Row.drewN | apply Row.off hne)
      · repeat (with_reducible first | exact HK.out | refine Keeps.drewN ?_ _ | refine Keeps.setCell ?_ (.inl (by simp)) _)

theorem push_ring (g : Nat) (s : List UInt8) (size : Nat) (S : Nat → Prop) (c : UInt8) (w : World) (h : Ring w g s size S) (hs : s.length < 1000000000000) :
    Calls Try.prog 15 #[.pointer (some ⟨g, 0, none⟩), .int .u8 (c.toNat : Int)] w fun e w' => e = .returned (.tuple #[]) ∧ ∃ S', Ring w' g (s ++ [c]) size S' ∧ (∀ b, S' b → S b ∨ w.heap.size ≤ b) ∧ Keeps S w w' := by
  obtain ⟨v, bs, hb, ho, hp, hz, hg, hv⟩ := h
  have hpos := hp.pos
  have hlt : s.length % size < size := Nat.mod_lt _ hpos
  have hl := hp.len
  rcases Nat.lt_or_ge bs.length size with h1 | h1
  · refine (push_grow g _ size _ s.length v _ c w hb ho h1 hlt hz hs).mono ?_
    rintro e w' ⟨rfl, b, cap, hb', ho', hk, hd⟩
    rw [Phys.next hpos] at hb'
    refine ⟨rfl, fun x => S x ∨ w.heap.size ≤ x, ⟨_, bs ++ [c], by simpa using hb', by simpa using ho', hp.grow h1 c, hz, .inl hg, ?_⟩, fun _ h => h, hk.mono ?_⟩
    · intro x hx
      simp only [Value.ownBlock, Option.some.injEq] at hx
      subst hx
      rcases hd with hd | hd
      · exact .inl (hv _ hd)
      · exact .inr hd
    · rintro x _ (rfl | hx)
      · exact hg
      · exact hv x hx
  · have he : bs.length = size := by omega
    obtain ⟨b, cap, rfl, _, _⟩ := ho.some_ (by omega)
    refine (push_set g b bs.length cap _ s.length _ c w (by rw [he] at hb ⊢; exact hb) ho (by omega) (by omega) hs).mono ?_
    rintro e w' ⟨rfl, hb', ho', hk⟩
    rw [he, Phys.next hpos, ← he] at hb'
    refine ⟨rfl, S, ⟨_, bs.set (s.length % size) c, ?_, ?_, hp.over he c, hz, hg, hv⟩, fun _ h => .inl h, hk.mono ?_⟩
    · rw [he] at hb'; simpa [he] using hb'
    · rw [List.map_set, List.length_set]; exact ho'
    · rintro x _ (rfl | rfl)
      · exact hg
      · exact hv x rfl

theorem push_nil (c : Int) (w : World) : Calls Try.prog 15 #[.pointer none, .int .u8 c] w fun e w' => e = .returned (.tuple #[]) ∧ w = w' := by
  go_enter Try.func15, Try.ntmps15
  go_wp2
  exact bodyPost_ret (results_none rfl _ _ _) rfl ⟨rfl, rfl⟩

theorem take_snoc (l : List UInt8) (k : Nat) (h : k < l.length) : l.take (k + 1) = l.take k ++ [l[k]] := List.take_succ_eq_append_getElem h

/-- What a round of Write hands on. -/
def WriteInv (w wr : World) (g : Nat) (s t : List UInt8) (size : Nat) (S : Nat → Prop) (k : Nat) : Prop :=
  ∃ S', Ring wr g (s ++ t.take k) size S' ∧ (∀ b, S' b → S b ∨ w.heap.size ≤ b) ∧ Keeps S w wr

theorem WriteInv.step {w wr w' : World} {g : Nat} {s t : List UInt8} {size : Nat} {S S1 S2 : Nat → Prop} {k : Nat} (hk : k < t.length) (hS : ∀ b, S1 b → S b ∨ w.heap.size ≤ b) (hK : Keeps S w wr)
    (h1 : Ring w' g (s ++ t.take k ++ [t[k]]) size S2) (h2 : ∀ b, S2 b → S1 b ∨ wr.heap.size ≤ b) (h3 : Keeps S1 wr w') : WriteInv w w' g s t size S (k + 1) := by
  refine ⟨S2, ?_, fun b hb => ?_, hK.trans h3 fun b hb h => ?_⟩
  · rw [take_snoc t k hk, ← List.append_assoc]; exact h1
  · rcases h2 b hb with h | h
    · exact hS b h
    · exact .inr (Nat.le_trans hK.size h)
  · rcases hS b h with h | h
    · exact h
    · omega

set_option maxHeartbeats 1000000 in
theorem write_ring (g : Nat) (s : List UInt8) (size : Nat) (S : Nat → Prop) (t : ByteArray) (w : World) (h : Ring w g s size S) (hs : s.length + t.size < 1000000000000) :
    Calls Try.prog 16 #[.pointer (some ⟨g, 0, none⟩), .string t] w fun e w' => e = .returned (.tuple #[]) ∧ ∃ S', Ring w' g (s ++ t.data.toList) size S' ∧ (∀ b, S' b → S b ∨ w.heap.size ≤ b) ∧ Keeps S w w' := by
  have hinv : WriteInv w w g s t.data.toList size S 0 := ⟨S, by simpa using h, fun _ h => .inl h, Keeps.refl _ _⟩
  have HI := Lib.hid hinv
  clear h hinv
  go_enter Try.func16, Try.ntmps16
  go_wp2
  go_loopw [7] (fun v wr => ∃ k : Nat, k ≤ t.size ∧ v = .int .i64 k ∧ WriteInv w wr g s t.data.toList size S k) (fun v _ => t.size - (intOf v).toNat)
  case atStart => exact ⟨0, Nat.zero_le _, rfl, HI.out⟩
  case round =>
    obtain ⟨k, hk, rfl, hI⟩ := hrel
    have HI := Lib.hid hI
    clear hI
    by_cases hlt : k < t.size
    · go_wp2_with fail
      obtain ⟨S1, hR, hS, hK⟩ := HI.out
      refine (push_ring g _ size S1 t[k] _ hR (by simp; omega)).mono ?_
      rintro e w' ⟨rfl, S2, h1, h2, h3⟩
      have HJ := Lib.hid (WriteInv.step (t := t.data.toList) (by simpa using hlt) hS hK h1 h2 h3)
      clear h1 h2 h3 hR hS hK HI
      go_wp2
      go_roundw
      case rel => exact ⟨k + 1, by omega, by go_num, HJ.out⟩
      case measure => simp [intOf]; omega
    · obtain rfl : k = t.size := by omega
      go_wp2
      go_end0
      obtain ⟨S1, hR, hS, hK⟩ := HI.out
      exact ⟨rfl, S1, by rwa [List.take_of_length_le (by simp)] at hR, hS, hK⟩

set_option maxHeartbeats 1000000 in
theorem write_nil (t : ByteArray) (w : World) (hs : t.size < 1000000000000) : Calls Try.prog 16 #[.pointer none, .string t] w fun e w' => e = .returned (.tuple #[]) ∧ w = w' := by
  go_enter Try.func16, Try.ntmps16
  go_wp2
  go_loop [7] (fun v => ∃ k : Nat, k ≤ t.size ∧ v = .int .i64 k) (fun v => t.size - (intOf v).toNat)
  case atStart => exact ⟨0, Nat.zero_le _, rfl⟩
  case round =>
    obtain ⟨k, hk, rfl⟩ := hrel
    by_cases hlt : k < t.size
    · go_wp2_with fail
      refine (push_nil _ _).mono ?_
      rintro e w' ⟨rfl, rfl⟩
      go_wp2
      go_round
      case rel => exact ⟨k + 1, by omega, by go_num⟩
      case measure => simp [intOf]; omega
    · obtain rfl : k = t.size := by omega
      go_wp2
      go_end0
      exact ⟨rfl, rfl⟩

/-- What At answers. -/
def atSpec (s : List UInt8) (size : Nat) (d : Int) : Option UInt8 := if 0 ≤ d ∧ d < min s.length size then s[s.length - 1 - d.toNat]? else none

theorem at_nil (d : Int) (w : World) : Calls Try.prog 18 #[.pointer none, .int .i64 d] w fun e w' => e = .returned (.tuple #[.int .u8 0, .bool false]) ∧ w = w' := by
  by_cases hd : d < 0
  · go_enter Try.func18, Try.ntmps18
    go_wp2
    go_ret2
    exact ⟨rfl, rfl⟩
  · go_enter Try.func18, Try.ntmps18
    go_wp2_with (go_at_call 21; refine (len_nil _).mono ?_; rintro e w' ⟨rfl, rfl⟩)
    go_ret2
    exact ⟨rfl, rfl⟩

set_option maxHeartbeats 1000000 in
theorem at_no (g : Nat) (s : List UInt8) (size : Nat) (S : Nat → Prop) (d : Int) (w : World) (h : Ring w g s size S) (hd : d < 0 ∨ (min s.length size : Nat) ≤ d) :
    Calls Try.prog 18 #[.pointer (some ⟨g, 0, none⟩), .int .i64 d] w fun e w' => e = .returned (.tuple #[.int .u8 0, .bool false]) ∧ w = w' := by
  obtain ⟨v, bs, hb, ho, hp, hz, hg, hv⟩ := h
  obtain ⟨a, cp, rfl, hcp⟩ := ho.form
  have hl := hp.len
  by_cases hd0 : d < 0
  · go_enter Try.func18, Try.ntmps18
    go_wp2
    go_ret2
    exact ⟨rfl, rfl⟩
  · have hd1 : (bs.length : Int) ≤ d := by omega
    have HC := len_blk g a bs.length cp _ _ _ w hb
    clear hb ho hp hl
    go_enter Try.func18, Try.ntmps18
    go_wp2_with (go_at_call 21; refine (HC).mono ?_; rintro e w' ⟨rfl, rfl⟩)
    go_ret2
    exact ⟨rfl, rfl⟩

set_option maxHeartbeats 1000000 in
theorem at_blk (g b n cap next d j : Nat) (xs : List Value) (u : UInt8) (y z : Value) (w : World) (hb : Blk w g 71 #[.slice (some ⟨b, 0, none⟩) n cap, y, .int .i64 next, z])
    (ho : Row w 5 1 (.slice (some ⟨b, 0, none⟩) n cap) n xs) (hd : d < n) (hm : n ≤ 65536) (hnx : next ≤ n) (hj : j + d + 1 = if d < next then next else next + n) (hu : xs[j]? = some (byteV u)) :
    Calls Try.prog 18 #[.pointer (some ⟨g, 0, none⟩), .int .i64 d] w fun e w' => e = .returned (.tuple #[.int .u8 (u.toNat : Int), .bool true]) ∧ w = w' := by
  have HC := Lib.hid (len_blk g _ n cap _ _ _ w hb)
  have hc := ho.cell hu
  unfold byteV at hc
  have h0 := hb.cell 0
  have h2 := hb.cell 2
  clear hb ho hu
  by_cases hlt : d < next
  · rw [if_pos hlt] at hj
    obtain rfl : next = j + d + 1 := hj.symm
    go_enter Try.func18, Try.ntmps18
    go_wp2_with (go_at_call 21; refine (HC.out).mono ?_; rintro e w' ⟨rfl, rfl⟩)
    go_ret2
    exact ⟨rfl, rfl⟩
  · rw [if_neg hlt] at hj
    rw [show j = ((next : Int) - 1 - d + n).toNat from by omega] at hc
    have b1 : (0 : Int) ≤ (next : Int) - 1 - d + n := by omega
    have b2 : (next : Int) - 1 - d + n < n := by omega
    clear hj
    go_enter Try.func18, Try.ntmps18
    go_wp2_with (go_at_call 21; refine (HC.out).mono ?_; rintro e w' ⟨rfl, rfl⟩)
    go_ret2
    exact ⟨rfl, rfl⟩


/-- The bytes that a ring keeps. -/
def kept (s : List UInt8) (size : Nat) : List UInt8 := s.drop (s.length - size)
theorem kept_length (s : List UInt8) (size : Nat) : (kept s size).length = min s.length size := by simp [kept]; omega

theorem at_ring (g : Nat) (s : List UInt8) (size : Nat) (S : Nat → Prop) (d : Nat) (w : World) (h : Ring w g s size S) (hd : d < min s.length size) (u : UInt8) (hu : s[s.length - 1 - d]? = some u) :
    Calls Try.prog 18 #[.pointer (some ⟨g, 0, none⟩), .int .i64 d] w fun e w' => e = .returned (.tuple #[.int .u8 (u.toNat : Int), .bool true]) ∧ w = w' := by
  obtain ⟨v, bs, hb, ho, hp, hz, hg, hv⟩ := h
  have hl := hp.len
  have hpos := hp.pos
  have hlt : s.length % size < size := Nat.mod_lt _ hpos
  obtain ⟨b, cap, rfl, _, _⟩ := ho.some_ (by omega)
  have ha := hp.at_ d (by omega)
  rw [hu] at ha
  have hx : (bs.map byteV)[(s.length - 1 - d) % size]? = some (byteV u) := by rw [List.getElem?_map, ha]; rfl
  refine at_blk g b bs.length cap (s.length % size) d ((s.length - 1 - d) % size) (bs.map byteV) u _ _ w hb ho (by omega) (by omega) ?_ ?_ hx
  · rcases Nat.lt_or_ge s.length size with h1 | h1
    · rw [Nat.mod_eq_of_lt h1]; omega
    · omega
  · rcases Nat.lt_or_ge s.length size with h1 | h1
    · rw [Nat.mod_eq_of_lt h1, Nat.mod_eq_of_lt (by omega), if_pos (by omega)]; omega
    · have he : bs.length = size := by omega
      have hdiv := Nat.div_add_mod s.length size
      generalize hq : s.length / size = q at hdiv
      generalize hr : s.length % size = r at hdiv hlt ⊢
      rw [he]
      split
      · rename_i hdr
        rw [show s.length - 1 - d = (r - 1 - d) + size * q from by omega, Nat.add_mul_mod_self_left, Nat.mod_eq_of_lt (by omega)]
        omega
      · rename_i hdr
        obtain ⟨q', rfl⟩ : ∃ q', q = q' + 1 := by
          cases q with
          | zero => simp at hdiv; omega
          | succ q' => exact ⟨q', rfl⟩
        rw [Nat.mul_add, Nat.mul_one] at hdiv
        rw [show s.length - 1 - d = (r + size - 1 - d) + size * q' from by omega, Nat.add_mul_mod_self_left, Nat.mod_eq_of_lt (by omega)]
        omega
end Go.Proofs.Ytacodojaolnhnaa
