/- A ring and a pane in memory; no condition but the sizes. -/
import Derived.Test.YtkbdfnmeomkpjaaGreatProg
import Derived.Test.YtkbdfnmeomkpjaaGreatMem
import Derived.Deep.RegionWith
namespace Go.Proofs.YtkbdfnmeomkpjaaGreat.Pn
open Go.RowKit
set_option linter.unusedVariables false
set_option linter.unusedSimpArgs false
set_option maxRecDepth 100000

theorem u8info : (Tryz.prog.info? 5).map (fun i => (i.zero, i.size, i.bytes)) = some (some (.int .u8 0), 1, 1) := by kernel_rfl
/-- What lies in a ring's row, of the bytes s that came. -/
structure Phys (s : List UInt8) (size : Nat) (bs : List UInt8) : Prop where
  pos : 1 ≤ size
  len : bs.length = min s.length size
  at_ : ∀ d, d < bs.length → bs[(s.length - 1 - d) % size]? = s[s.length - 1 - d]?
theorem Phys.nil (size : Nat) (h : 1 ≤ size) : Phys [] size [] := ⟨h, by simp, fun d hd => by simp at hd⟩
theorem Phys.grow {s bs : List UInt8} {size : Nat} (h : Phys s size bs) (hl : bs.length < size) (c : UInt8) : Phys (s ++ [c]) size (bs ++ [c]) := by
  have h1 := h.len
  have hsl : s.length = bs.length := by omega
  refine ⟨h.pos, by simp; omega, fun d hd => ?_⟩
  simp only [List.length_append, List.length_cons, List.length_nil] at hd ⊢
  rw [Nat.mod_eq_of_lt (by omega)]
  rcases Nat.eq_zero_or_pos d with h0 | h0
  · subst h0; simp [hsl]
  · have := h.at_ (d - 1) (by omega)
    rw [Nat.mod_eq_of_lt (by omega)] at this
    rw [List.getElem?_append_left (by omega), List.getElem?_append_left (by omega)]
    rw [show s.length + (0 + 1) - 1 - d = s.length - 1 - (d - 1) from by omega]; exact this
theorem Phys.over {s bs : List UInt8} {size : Nat} (h : Phys s size bs) (hl : bs.length = size) (c : UInt8) : Phys (s ++ [c]) size (bs.set (s.length % size) c) := by
  have h1 := h.len
  have hp := h.pos
  refine ⟨h.pos, by simp; omega, fun d hd => ?_⟩
  simp only [List.length_set] at hd
  simp only [List.length_append, List.length_cons, List.length_nil]
  rcases Nat.eq_zero_or_pos d with h0 | h0
  · subst h0
    have : s.length % size < bs.length := by rw [hl]; exact Nat.mod_lt _ hp
    simp [this]
  · have h2 := h.at_ (d - 1) (by omega)
    have hne : s.length % size ≠ (s.length + (0 + 1) - 1 - d) % size := by
      intro he
      have e1 : (s.length + (0 + 1) - 1 - d) = s.length - d := by omega
      rw [e1] at he
      have h3 : (s.length - (s.length - d)) % size = 0 := Nat.sub_mod_eq_zero_of_mod_eq he
      rw [show s.length - (s.length - d) = d by omega, Nat.mod_eq_of_lt (by omega)] at h3
      omega
    rw [List.getElem?_set_ne hne, List.getElem?_append_left (by omega)]
    rw [show s.length + (0 + 1) - 1 - d = s.length - 1 - (d - 1) from by omega]; exact h2
theorem Phys.next {s : List UInt8} {size : Nat} (hp : 1 ≤ size) : (if s.length % size + 1 = size then 0 else s.length % size + 1) = (s.length + 1) % size := by
  have h := Nat.mod_lt s.length hp
  rw [Nat.add_mod]
  rcases Nat.lt_or_ge 1 size with h1 | h1
  · rw [Nat.mod_eq_of_lt h1]
    split
    · rename_i he; rw [he, Nat.mod_self]
    · rw [Nat.mod_eq_of_lt (a := s.length % size + 1) (by omega)]
  · have : size = 1 := by omega
    subst this; simp [Nat.mod_one]
/-- The ring at block g got the bytes s; its blocks lie in S. -/
def Ring (w : World) (g : Nat) (s : List UInt8) (size : Nat) (S : Nat → Prop) : Prop :=
  ∃ v bs, Blk w g 113 #[v, .int .i64 size, .int .i64 (s.length % size : Nat), .int .i64 s.length] ∧ Row w 5 1 v bs.length (bs.map byteV) ∧ Phys s size bs ∧
    size ≤ 65536 ∧ S g ∧ ∀ b, v.ownBlock = some b → S b
theorem Ring.keep {w w' : World} {g : Nat} {s : List UInt8} {size : Nat} {S S' : Nat → Prop} (h : Ring w g s size S) (hk : Keeps S' w w') (hd : ∀ b, S b → ¬ S' b) : Ring w' g s size S := by
  obtain ⟨v, bs, h1, h2, h3, h4, h5, h6⟩ := h
  exact ⟨v, bs, h1.keep hk (hd g h5), h2.keep hk fun b hb => hd b (h6 b hb), h3, h4, h5, h6⟩
theorem len_nil (w : World) : Calls Tryz.prog 119 #[.pointer none] w fun e w' => e = .returned (.int .i64 0) ∧ w = w' := by
  go_enter Tryz.func119, Tryz.ntmps119
  go_wp2
  go_ret
  exact ⟨rfl, rfl⟩
theorem len_blk (g : Nat) (a : Option Addr) (n c : Nat) (x y z : Value) (w : World) (h : Blk w g 113 #[.slice a n c, x, y, z]) : Calls Tryz.prog 119 #[.pointer (some ⟨g, 0, none⟩)] w fun e w' => e = .returned (.int .i64 n) ∧ w = w' := by
  have h0 := h.cell 0
  go_enter Tryz.func119, Tryz.ntmps119
  go_wp2
  go_ret
  exact ⟨rfl, rfl⟩
theorem seen_nil (w : World) : Calls Tryz.prog 42 #[.pointer none] w fun e w' => e = .returned (.int .i64 0) ∧ w = w' := by
  go_enter Tryz.func42, Tryz.ntmps42
  go_wp2
  go_ret
  exact ⟨rfl, rfl⟩
theorem seen_blk (g : Nat) (n : Int) (x y z : Value) (w : World) (h : Blk w g 113 #[x, y, z, .int .i64 n]) : Calls Tryz.prog 42 #[.pointer (some ⟨g, 0, none⟩)] w fun e w' => e = .returned (.int .i64 n) ∧ w = w' := by
  have h0 := h.cell 3
  go_enter Tryz.func42, Tryz.ntmps42
  go_wp2
  go_ret
  exact ⟨rfl, rfl⟩
theorem new_bad (size : Int) (w : World) (h : size < 1 ∨ 65536 < size) : Calls Tryz.prog 52 #[.int .i64 size] w fun e w' => e = .returned (.tuple #[.pointer none, .int .i64 2]) ∧ w = w' := by
  rcases h with h | h
  · go_enter Tryz.func52, Tryz.ntmps52
    go_wp2
    go_ret2
    exact ⟨rfl, rfl⟩
  · have h' : ¬ size < 1 := by omega
    go_enter Tryz.func52, Tryz.ntmps52
    go_wp2
    go_ret2
    exact ⟨rfl, rfl⟩
theorem new_ok (size : Int) (w : World) (h : 1 ≤ size) (h2 : size ≤ 65536) : Calls Tryz.prog 52 #[.int .i64 size] w fun e w' => e = .returned (.tuple #[.pointer (some ⟨w.heap.size, 0, none⟩), .int .i64 0]) ∧
    w' = w.alloc (.cells #[.slice none 0 0, .int .i64 size, .int .i64 0, .int .i64 0] 113) := by
  have h' : ¬ size < 1 := by omega
  go_enter Tryz.func52, Tryz.ntmps52
  go_wp2
  go_ret2
  exact ⟨rfl, rfl⟩
set_option maxHeartbeats 1000000 in
theorem push_set (g b n cap next seen : Nat) (xs : List Value) (c : UInt8) (w : World) (hb : Blk w g 113 #[.slice (some ⟨b, 0, none⟩) n cap, .int .i64 n, .int .i64 next, .int .i64 seen])
    (ho : Row w 5 1 (.slice (some ⟨b, 0, none⟩) n cap) n xs) (hn : next < n) (hm : n ≤ 65536) (hs2 : seen < 1000000000000) :
    Calls Tryz.prog 83 #[.pointer (some ⟨g, 0, none⟩), .int .u8 (c.toNat : Int)] w fun e w' => e = .returned (.tuple #[]) ∧
      Blk w' g 113 #[.slice (some ⟨b, 0, none⟩) n cap, .int .i64 n, .int .i64 (if next + 1 = n then 0 else next + 1 : Nat), .int .i64 (seen + 1 : Nat)] ∧
      Row w' 5 1 (.slice (some ⟨b, 0, none⟩) n cap) n (xs.set next (byteV c)) ∧ Keeps (fun k => k = g ∨ k = b) w w' := by
  have hbo := ho.blk_ne hb (by decide)
  have hbg : b ≠ g := by simpa [Value.ownBlock] using ho.blk_ne hb (by decide)
  obtain ⟨y, _, hc⟩ := ho.at_ (i := next) (by omega)
  have hf := ho.free (i := next)
  have h0 := hb.cell 0
  have h1 := hb.cell 1
  have h2 := hb.cell 2
  have h3 := hb.cell 3
  have f2 := hb.frozen 2
  have f3 := hb.frozen 3
  have HB := Lib.hid hb
  clear hb
  unfold byteV
  go_enter Tryz.func83, Tryz.ntmps83
  go_wp2
  go_quiet (fail)
  go_wp2
  go_region
  go_wp2
  go_quiet (fail)
  by_cases he : next + 1 = n
  · have hd : ((next : Int) + 1 == (n : Int)) = true := by simp; omega
    go_wp2
    go_end0
    refine ⟨rfl, ?_, ?_, ?_⟩
    · apply Blk.to
      · repeat (with_reducible first | exact HB.out | apply Blk.drewN | apply Blk.set_ | apply Blk.off (Ne.symm hbg))
      · simp
    · repeat (with_reducible first | exact ho | refine Row.drewN ?_ _ | refine Row.set_ ?_ _ | apply Row.off hbo)
    · repeat (with_reducible first | exact Keeps.refl _ _ | refine Keeps.drewN ?_ _ | refine Keeps.setCell ?_ (.inl (by simp)) _)
  · have hd : ((next : Int) + 1 == (n : Int)) = false := by simp; omega
    go_wp2
    go_end0
    refine ⟨rfl, ?_, ?_, ?_⟩
    · apply Blk.to
      · repeat (with_reducible first | exact HB.out | apply Blk.drewN | apply Blk.set_ | apply Blk.off (Ne.symm hbg))
      · simp
    · repeat (with_reducible first | exact ho | refine Row.drewN ?_ _ | refine Row.set_ ?_ _ | apply Row.off hbo)
    · repeat (with_reducible first | exact Keeps.refl _ _ | refine Keeps.drewN ?_ _ | refine Keeps.setCell ?_ (.inl (by simp)) _)
theorem byteV_one (c : UInt8) : ∀ u ∈ [Value.int .u8 (c.toNat : Int)], u.oneCell' = true := by intro u hu; simp at hu; subst hu; rfl
set_option maxHeartbeats 1000000 in
theorem push_grow (g n size next seen : Nat) (v : Value) (xs : List Value) (c : UInt8) (w : World) (hb : Blk w g 113 #[v, .int .i64 size, .int .i64 next, .int .i64 seen])
    (ho : Row w 5 1 v n xs) (hn : n < size) (hx : next < size) (hm : size ≤ 65536) (hs2 : seen < 1000000000000) :
    Calls Tryz.prog 83 #[.pointer (some ⟨g, 0, none⟩), .int .u8 (c.toNat : Int)] w fun e w' => e = .returned (.tuple #[]) ∧ ∃ b cap,
      Blk w' g 113 #[.slice (some ⟨b, 0, none⟩) (n + 1) cap, .int .i64 size, .int .i64 (if next + 1 = size then 0 else next + 1 : Nat), .int .i64 (seen + 1 : Nat)] ∧
      Row w' 5 1 (.slice (some ⟨b, 0, none⟩) (n + 1) cap) (n + 1) (xs ++ [byteV c]) ∧ Keeps (fun k => k = g ∨ v.ownBlock = some k) w w' ∧ (v.ownBlock = some b ∨ w.heap.size ≤ b) := by
  obtain ⟨a, cp, rfl, hcp⟩ := ho.form
  obtain ⟨i0, hi, hz0, hz1, hz2⟩ := info_parts u8info
  have hbo := ho.blk_ne hb (by decide)
  have h0 := hb.cell 0
  have h1 := hb.cell 1
  have f0 := hb.frozen 0
  have HB := Lib.hid hb
  have HO := Lib.hid ho
  clear hb ho
  unfold byteV
  go_enter Tryz.func83, Tryz.ntmps83
  go_wp2
  go_quiet (fail)
  go_wp2_with (at_builtin; refine wpl_append _ rfl (.tmp 20) (.tmp 22) 111 rfl 5 i0 (.int .u8 0) 1 1 Tryz.underlying111 hi hz0 hz1 hz2 rfl (by decide) (.slice a n cp) n xs rfl ?own ⟨w.heap.size, 0, none⟩ 1 1 [.int .u8 c.toNat] rfl rfl ?news ?one (by decide) ?b1 ?b2 ?k)
  case own => exact (Row.alloc HO.out _).drewN _
  case news => exact news1
  case one => exact byteV_one c
  case b1 => unfold maxLen; omega
  case b2 => omega
  case k =>
    intro b1 cap1 w1 ho1 hg1 hb1 hl1
    have HK := Lib.hid ((((Keeps.refl (fun k => k = g ∨ (Value.slice a n cp).ownBlock = some k) w).alloc _).drewN _).grown hg1 (fun k hk => .inl (.inr hk)))
    have hb2 := Blk.grown (g := g) ((HB.out.alloc _).drewN _) hg1 hbo
    have hne := ho1.blk_ne hb2 (by decide)
    have hgb : g ≠ b1 := fun e => by subst e; exact hne rfl
    have HD : Hid ((Value.slice a n cp).ownBlock = some b1 ∨ w.heap.size ≤ b1) := by
      rcases hb1 with h | h
      · exact .inl h
      · exact .inr (by rw [h]; exact Nat.le_succ _)
    have HB2 := Lib.hid hb2
    have HO2 := Lib.hid ho1
    have c0 := hb2.cell 0
    have c1 := hb2.cell 1
    have c2 := hb2.cell 2
    have c3 := hb2.cell 3
    have e0 := hb2.frozen 0
    have e2 := hb2.frozen 2
    have e3 := hb2.frozen 3
    clear h0 h1 f0 hb1 hg1 ho1 hb2 hbo
    go_wp2
    go_quiet (fail)
    by_cases he : next + 1 = size
    · have hd : ((next : Int) + 1 == (size : Int)) = true := by simp; omega
      go_wp2
      go_end0
      refine ⟨rfl, b1, cap1, ?_, ?_, ?_, HD.out⟩
      · apply Blk.to
        · repeat (with_reducible first | exact HB2.out | apply Blk.drewN | apply Blk.set_ | apply Blk.off hgb)
        · simp
      · repeat (with_reducible first | exact HO2.out | apply Row.drewN | apply Row.off hne)
      · repeat (with_reducible first | exact HK.out | refine Keeps.drewN ?_ _ | refine Keeps.setCell ?_ (.inl (by simp)) _)
    · have hd : ((next : Int) + 1 == (size : Int)) = false := by simp; omega
      go_wp2
      go_end0
      refine ⟨rfl, b1, cap1, ?_, ?_, ?_, HD.out⟩
      · apply Blk.to
        · repeat (with_reducible first | exact HB2.out | apply Blk.drewN | apply Blk.set_ | apply Blk.off hgb)
        · simp
      · repeat (with_reducible first | exact HO2.out | apply Row.drewN | apply Row.off hne)
      · repeat (with_reducible first | exact HK.out | refine Keeps.drewN ?_ _ | refine Keeps.setCell ?_ (.inl (by simp)) _)
theorem push_ring (g : Nat) (s : List UInt8) (size : Nat) (S : Nat → Prop) (c : UInt8) (w : World) (h : Ring w g s size S) (hs : s.length < 1000000000000) :
    Calls Tryz.prog 83 #[.pointer (some ⟨g, 0, none⟩), .int .u8 (c.toNat : Int)] w fun e w' => e = .returned (.tuple #[]) ∧ ∃ S', Ring w' g (s ++ [c]) size S' ∧ (∀ b, S' b → S b ∨ w.heap.size ≤ b) ∧ Keeps S w w' := by
  obtain ⟨v, bs, hb, ho, hp, hz, hg, hv⟩ := h
  have hpos := hp.pos
  have hlt : s.length % size < size := Nat.mod_lt _ hpos
  have hl := hp.len
  rcases Nat.lt_or_ge bs.length size with h1 | h1
  · refine (push_grow g _ size _ s.length v _ c w hb ho h1 hlt hz hs).mono ?_
    rintro e w' ⟨rfl, b, cap, hb', ho', hk, hd⟩
    rw [Phys.next hpos] at hb'
    refine ⟨rfl, fun x => S x ∨ w.heap.size ≤ x, ⟨_, bs ++ [c], by simpa using hb', by simpa using ho', hp.grow h1 c, hz, .inl hg, ?_⟩, fun _ h => h, hk.mono ?_⟩
    · intro x hx
      simp only [Value.ownBlock, Option.some.injEq] at hx
      subst hx
      rcases hd with hd | hd
      · exact .inl (hv _ hd)
      · exact .inr hd
    · rintro x _ (rfl | hx)
      · exact hg
      · exact hv x hx
  · have he : bs.length = size := by omega
    obtain ⟨b, cap, rfl, _, _⟩ := ho.some_ (by omega)
    refine (push_set g b bs.length cap _ s.length _ c w (by rw [he] at hb ⊢; exact hb) ho (by omega) (by omega) hs).mono ?_
    rintro e w' ⟨rfl, hb', ho', hk⟩
    rw [he, Phys.next hpos, ← he] at hb'
    refine ⟨rfl, S, ⟨_, bs.set (s.length % size) c, ?_, ?_, hp.over he c, hz, hg, hv⟩, fun _ h => .inl h, hk.mono ?_⟩
    · rw [he] at hb'; simpa [he] using hb'
    · rw [List.map_set, List.length_set]; exact ho'
    · rintro x _ (rfl | rfl)
      · exact hg
      · exact hv x rfl
theorem push_nil (c : Int) (w : World) : Calls Tryz.prog 83 #[.pointer none, .int .u8 c] w fun e w' => e = .returned (.tuple #[]) ∧ w = w' := by
  go_enter Tryz.func83, Tryz.ntmps83
  go_wp2
  exact bodyPost_ret (results_none rfl _ _ _) rfl ⟨rfl, rfl⟩
theorem take_snoc (l : List UInt8) (k : Nat) (h : k < l.length) : l.take (k + 1) = l.take k ++ [l[k]] := List.take_succ_eq_append_getElem h
/-- What At answers. -/
def atSpec (s : List UInt8) (size : Nat) (d : Int) : Option UInt8 := if 0 ≤ d ∧ d < min s.length size then s[s.length - 1 - d.toNat]? else none
theorem at_nil (d : Int) (w : World) : Calls Tryz.prog 86 #[.pointer none, .int .i64 d] w fun e w' => e = .returned (.tuple #[.int .u8 0, .bool false]) ∧ w = w' := by
  by_cases hd : d < 0
  · go_enter Tryz.func86, Tryz.ntmps86
    go_wp2
    go_ret2
    exact ⟨rfl, rfl⟩
  · go_enter Tryz.func86, Tryz.ntmps86
    go_wp2_with (go_at_call 119; refine (len_nil _).mono ?_; rintro e w' ⟨rfl, rfl⟩)
    go_ret2
    exact ⟨rfl, rfl⟩
set_option maxHeartbeats 1000000 in
theorem at_no (g : Nat) (s : List UInt8) (size : Nat) (S : Nat → Prop) (d : Int) (w : World) (h : Ring w g s size S) (hd : d < 0 ∨ (min s.length size : Nat) ≤ d) :
    Calls Tryz.prog 86 #[.pointer (some ⟨g, 0, none⟩), .int .i64 d] w fun e w' => e = .returned (.tuple #[.int .u8 0, .bool false]) ∧ w = w' := by
  obtain ⟨v, bs, hb, ho, hp, hz, hg, hv⟩ := h
  obtain ⟨a, cp, rfl, hcp⟩ := ho.form
  have hl := hp.len
  by_cases hd0 : d < 0
  · go_enter Tryz.func86, Tryz.ntmps86
    go_wp2
    go_ret2
    exact ⟨rfl, rfl⟩
  · have hd1 : (bs.length : Int) ≤ d := by omega
    have HC := len_blk g a bs.length cp _ _ _ w hb
    clear hb ho hp hl
    go_enter Tryz.func86, Tryz.ntmps86
    go_wp2_with (go_at_call 119; refine (HC).mono ?_; rintro e w' ⟨rfl, rfl⟩)
    go_ret2
    exact ⟨rfl, rfl⟩
set_option maxHeartbeats 1000000 in
theorem at_blk (g b n cap next d j : Nat) (xs : List Value) (u : UInt8) (y z : Value) (w : World) (hb : Blk w g 113 #[.slice (some ⟨b, 0, none⟩) n cap, y, .int .i64 next, z])
    (ho : Row w 5 1 (.slice (some ⟨b, 0, none⟩) n cap) n xs) (hd : d < n) (hm : n ≤ 65536) (hnx : next ≤ n) (hj : j + d + 1 = if d < next then next else next + n) (hu : xs[j]? = some (byteV u)) :
    Calls Tryz.prog 86 #[.pointer (some ⟨g, 0, none⟩), .int .i64 d] w fun e w' => e = .returned (.tuple #[.int .u8 (u.toNat : Int), .bool true]) ∧ w = w' := by
  have HC := Lib.hid (len_blk g _ n cap _ _ _ w hb)
  have hc := ho.cell hu
  unfold byteV at hc
  have h0 := hb.cell 0
  have h2 := hb.cell 2
  clear hb ho hu
  by_cases hlt : d < next
  · rw [if_pos hlt] at hj
    obtain rfl : next = j + d + 1 := hj.symm
    go_enter Tryz.func86, Tryz.ntmps86
    go_wp2_with (go_at_call 119; refine (HC.out).mono ?_; rintro e w' ⟨rfl, rfl⟩)
    go_ret2
    exact ⟨rfl, rfl⟩
  · rw [if_neg hlt] at hj
    rw [show j = ((next : Int) - 1 - d + n).toNat from by omega] at hc
    have b1 : (0 : Int) ≤ (next : Int) - 1 - d + n := by omega
    have b2 : (next : Int) - 1 - d + n < n := by omega
    clear hj
    go_enter Tryz.func86, Tryz.ntmps86
    go_wp2_with (go_at_call 119; refine (HC.out).mono ?_; rintro e w' ⟨rfl, rfl⟩)
    go_ret2
    exact ⟨rfl, rfl⟩
/-- The bytes that a ring keeps. -/
def kept (s : List UInt8) (size : Nat) : List UInt8 := s.drop (s.length - size)
theorem kept_length (s : List UInt8) (size : Nat) : (kept s size).length = min s.length size := by simp [kept]; omega
theorem at_ring (g : Nat) (s : List UInt8) (size : Nat) (S : Nat → Prop) (d : Nat) (w : World) (h : Ring w g s size S) (hd : d < min s.length size) (u : UInt8) (hu : s[s.length - 1 - d]? = some u) :
    Calls Tryz.prog 86 #[.pointer (some ⟨g, 0, none⟩), .int .i64 d] w fun e w' => e = .returned (.tuple #[.int .u8 (u.toNat : Int), .bool true]) ∧ w = w' := by
  obtain ⟨v, bs, hb, ho, hp, hz, hg, hv⟩ := h
  have hl := hp.len
  have hpos := hp.pos
  have hlt : s.length % size < size := Nat.mod_lt _ hpos
  obtain ⟨b, cap, rfl, _, _⟩ := ho.some_ (by omega)
  have ha := hp.at_ d (by omega)
  rw [hu] at ha
  have hx : (bs.map byteV)[(s.length - 1 - d) % size]? = some (byteV u) := by rw [List.getElem?_map, ha]; rfl
  refine at_blk g b bs.length cap (s.length % size) d ((s.length - 1 - d) % size) (bs.map byteV) u _ _ w hb ho (by omega) (by omega) ?_ ?_ hx
  · rcases Nat.lt_or_ge s.length size with h1 | h1
    · rw [Nat.mod_eq_of_lt h1]; omega
    · omega
  · rcases Nat.lt_or_ge s.length size with h1 | h1
    · rw [Nat.mod_eq_of_lt h1, Nat.mod_eq_of_lt (by omega), if_pos (by omega)]; omega
    · have he : bs.length = size := by omega
      have hdiv := Nat.div_add_mod s.length size
      generalize hq : s.length / size = q at hdiv
      generalize hr : s.length % size = r at hdiv hlt ⊢
      rw [he]
      split
      · rename_i hdr
        rw [show s.length - 1 - d = (r - 1 - d) + size * q from by omega, Nat.add_mul_mod_self_left, Nat.mod_eq_of_lt (by omega)]
        omega
      · rename_i hdr
        obtain ⟨q', rfl⟩ : ∃ q', q = q' + 1 := by
          cases q with
          | zero => simp at hdiv; omega
          | succ q' => exact ⟨q', rfl⟩
        rw [Nat.mul_add, Nat.mul_one] at hdiv
        rw [show s.length - 1 - d = (r + size - 1 - d) + size * q' from by omega, Nat.add_mul_mod_self_left, Nat.mod_eq_of_lt (by omega)]
        omega
attribute [local go_sem] gmax2 gmin2 gmax_two gmin_two
theorem Ring.lens {w : World} {g : Nat} {s : List UInt8} {size : Nat} {S : Nat → Prop} (h : Ring w g s size S) : Calls Tryz.prog 119 #[.pointer (some ⟨g, 0, none⟩)] w fun e w' => e = .returned (.int .i64 (min s.length size : Nat)) ∧ w = w' := by
  obtain ⟨v, bs, hb, ho, hp, hz, hg, hv⟩ := h
  obtain ⟨a, cp, rfl, hcp⟩ := ho.form
  rw [← hp.len]
  exact len_blk g a bs.length cp _ _ _ w hb
theorem Ring.seens {w : World} {g : Nat} {s : List UInt8} {size : Nat} {S : Nat → Prop} (h : Ring w g s size S) : Calls Tryz.prog 42 #[.pointer (some ⟨g, 0, none⟩)] w fun e w' => e = .returned (.int .i64 s.length) ∧ w = w' := by
  obtain ⟨v, bs, hb, ho, hp, hz, hg, hv⟩ := h
  exact seen_blk g _ _ _ _ w hb
/-- Do the kept bytes end with t? -/
def endsP (s : List UInt8) (size : Nat) (t : List UInt8) : Bool := decide (t.length ≤ min s.length size) && (s.drop (s.length - t.length) == t)
/-- The last k bytes of t are those of s, all kept. -/
def EndsTo (s : List UInt8) (size : Nat) (t : List UInt8) (k : Nat) : Prop := k ≤ min s.length size ∧ ∀ d, d < k → s[s.length - 1 - d]? = t[t.length - 1 - d]?
theorem ends_true {s t : List UInt8} {size : Nat} (h : EndsTo s size t t.length) : endsP s size t = true := by
  unfold endsP
  rw [Bool.and_eq_true, decide_eq_true_eq, beq_iff_eq]
  refine ⟨h.1, ?_⟩
  apply List.ext_getElem?
  intro i
  rcases Nat.lt_or_ge i t.length with hi | hi
  · have := h.2 (t.length - 1 - i) (by omega)
    rw [show t.length - 1 - (t.length - 1 - i) = i from by omega] at this
    rw [List.getElem?_drop, ← this]
    congr 1
    have := h.1
    omega
  · rw [List.getElem?_eq_none hi, List.getElem?_eq_none (by simp; have := h.1; omega)]
theorem ends_short {s t : List UInt8} {size : Nat} (h : min s.length size < t.length) : endsP s size t = false := by
  unfold endsP; simp; omega
theorem ends_differ {s t : List UInt8} {size k : Nat} (hk : k < t.length) (h1 : s[s.length - 1 - k]? ≠ t[t.length - 1 - k]?) : endsP s size t = false := by
  unfold endsP
  cases hd : decide (t.length ≤ min s.length size) with
  | false => rfl
  | true =>
    rw [decide_eq_true_eq] at hd
    rw [Bool.true_and, beq_eq_false_iff_ne]
    intro he
    apply h1
    have : (s.drop (s.length - t.length))[t.length - 1 - k]? = t[t.length - 1 - k]? := by rw [he]
    rw [List.getElem?_drop] at this
    rw [← this]
    congr 1
    omega
set_option maxHeartbeats 1000000 in
theorem ends_ring (g : Nat) (s : List UInt8) (size : Nat) (S : Nat → Prop) (t : ByteArray) (w : World) (h : Ring w g s size S) (hs : t.size < 1000000000000) :
    Calls Tryz.prog 63 #[.pointer (some ⟨g, 0, none⟩), .string t] w fun e w' => e = .returned (.bool (endsP s size t.data.toList)) ∧ w = w' := by
  have HR := Lib.hid h
  have HE : Hid (EndsTo s size t.data.toList 0) := Lib.hid ⟨Nat.zero_le _, fun d hd => absurd hd (Nat.not_lt_zero _)⟩
  have htl : t.data.toList.length = t.size := by simp
  have HT := Lib.hid htl
  clear h htl
  go_enter Tryz.func63, Tryz.ntmps63
  go_wp2
  go_loop [10] (fun v => ∃ k : Nat, k ≤ t.size ∧ v = .int .i64 k ∧ Hid (EndsTo s size t.data.toList k)) (fun v => t.size - (intOf v).toNat)
  case atStart => exact ⟨0, Nat.zero_le _, rfl, HE⟩
  case round =>
    obtain ⟨k, hk, rfl, HI⟩ := hrel
    by_cases hlt : k < t.size
    · by_cases hkm : k < min s.length size
      · have hsl : s.length - 1 - k < s.length := by omega
        have htk : t.size - 1 - k < t.size := by omega
        by_cases heq : s[s.length - 1 - k] = t[t.size - 1 - k]
        · have hb : ((s[s.length - 1 - k].toNat : Int) != (t[t.size - 1 - k].toNat : Int)) = false := by simp [heq]
          go_wp2_with (go_at_call 86; refine (at_ring g s size S k w HR.out hkm _ (List.getElem?_eq_getElem hsl)).mono ?_; rintro e w' ⟨rfl, rfl⟩)
          have HJ : Hid (EndsTo s size t.data.toList (k + 1)) := by
            refine Lib.hid ⟨by omega, fun d hd => ?_⟩
            rcases Nat.lt_or_ge d k with h1 | h1
            · exact HI.out.2 d h1
            · obtain rfl : d = k := by omega
              rw [HT.out, List.getElem?_eq_getElem hsl, List.getElem?_eq_getElem (by rw [HT.out]; exact htk), heq]; rfl
          go_round
          case rel => exact ⟨k + 1, by omega, by go_num, HJ⟩
          case measure => simp [intOf]; omega
        · have hb : ((s[s.length - 1 - k].toNat : Int) != (t[t.size - 1 - k].toNat : Int)) = true := by
            rw [bne_iff_ne]; intro h; apply heq; exact UInt8.toNat_inj.1 (by omega)
          have HF := Lib.hid (ends_differ (s := s) (t := t.data.toList) (size := size) (k := k) (by rw [HT.out]; exact hlt) (by
            rw [HT.out, List.getElem?_eq_getElem hsl, List.getElem?_eq_getElem (by rw [HT.out]; exact htk)]
            intro h; apply heq; injection h))
          clear heq
          go_wp2_with (go_at_call 86; refine (at_ring g s size S k w HR.out hkm _ (List.getElem?_eq_getElem hsl)).mono ?_; rintro e w' ⟨rfl, rfl⟩)
          go_ret
          exact ⟨by rw [HF.out]; rfl, rfl⟩
      · have HF := Lib.hid (ends_short (s := s) (t := t.data.toList) (size := size) (by rw [HT.out]; omega))
        go_wp2_with (go_at_call 86; refine (at_no g s size S k w HR.out (.inr (by omega))).mono ?_; rintro e w' ⟨rfl, rfl⟩)
        go_ret
        exact ⟨by rw [HF.out]; rfl, rfl⟩
    · obtain rfl : k = t.size := by omega
      go_wp2
      go_ret
      exact ⟨by rw [ends_true (by rw [HT.out]; exact HI.out)]; rfl, rfl⟩
attribute [local go_sem] gmax2 gmin2 gmax_two gmin_two
def str (l : List UInt8) : ByteArray := ⟨l.toArray⟩
theorem str_data (l : List UInt8) : (str l).data.toList = l := by simp [str]
theorem str_size (l : List UInt8) : (str l).size = l.length := by simp [str, ByteArray.size]
theorem ret_string {a b : ByteArray} (h : a = b) : Ending.returned (.string a) = .returned (.string b) := by rw [h]
theorem ret_int {k : IntKind} {a b : Int} (h : a = b) : Ending.returned (.int k a) = .returned (.int k b) := by rw [h]
theorem ret_bool {a b : Bool} (h : a = b) : Ending.returned (.bool a) = .returned (.bool b) := by rw [h]
theorem w64byte (u : UInt8) : wrap64 (u.toNat : Int) = u.toNat := by have := u.toNat_lt; unfold wrap64; omega
theorem Ring.tight {w : World} {g : Nat} {s : List UInt8} {size : Nat} {S : Nat → Prop} (h : Ring w g s size S) : Ring w g s size (fun b => S b ∧ b < w.heap.size) := by
  obtain ⟨v, bs, hb, ho, hp, hz, hg, hv⟩ := h
  exact ⟨v, bs, hb, ho, hp, hz, ⟨hg, hb.lt⟩, fun b h => ⟨hv b h, ho.lt b h⟩⟩
theorem Ring.made (w : World) (size : Nat) (h1 : 1 ≤ size) (h2 : size ≤ 65536) : Ring (w.alloc (.cells #[.slice none 0 0, .int .i64 size, .int .i64 0, .int .i64 0] 113)) w.heap.size [] size (fun b => b = w.heap.size) :=
  ⟨.slice none 0 0, [], by simpa using Blk.new w 113 _, Row.nil _ _ _, Phys.nil size h1, h2, rfl, fun b h => by simp [Value.ownBlock] at h⟩
/-- A ring of the law's own. -/
def Mine (w0 w : World) (g : Nat) (s : List UInt8) (size : Nat) : Prop := ∃ S, Ring w g s size S ∧ (∀ b, S b → w0.heap.size ≤ b ∧ b < w.heap.size) ∧ Pure' w0 w
theorem Mine.made (w : World) (size : Nat) (h1 : 1 ≤ size) (h2 : size ≤ 65536) : Mine w (w.alloc (.cells #[.slice none 0 0, .int .i64 size, .int .i64 0, .int .i64 0] 113)) w.heap.size [] size :=
  ⟨_, Ring.made w size h1 h2, fun b h => by subst h; exact ⟨Nat.le_refl _, by simp⟩, (Keeps.refl _ _).alloc _⟩
theorem Mine.next {w0 w w' : World} {g : Nat} {s' : List UInt8} {size : Nat} {S S' : Nat → Prop} (hS : ∀ b, S b → w0.heap.size ≤ b ∧ b < w.heap.size) (hp : Pure' w0 w) (hr : Ring w' g s' size S') (h2 : ∀ b, S' b → S b ∨ w.heap.size ≤ b) (h3 : Keeps S w w') : Mine w0 w' g s' size :=
  ⟨_, hr.tight, fun b hb => ⟨by
    rcases h2 b hb.1 with h | h
    · exact (hS b h).1
    · exact Nat.le_trans hp.size h, hb.2⟩, hp.trans h3 fun b hb h => absurd (hS b h).1 (by omega)⟩
theorem Mine.push {w0 w : World} {g : Nat} {s : List UInt8} {size : Nat} (h : Mine w0 w g s size) (c : UInt8) (hs : s.length < 1000000000000) :
    Calls Tryz.prog 83 #[.pointer (some ⟨g, 0, none⟩), .int .u8 (c.toNat : Int)] w fun e w' => e = .returned (.tuple #[]) ∧ Mine w0 w' g (s ++ [c]) size := by
  obtain ⟨S, hR, hS, hp⟩ := h
  refine (push_ring g s size S c w hR hs).mono ?_
  rintro e w' ⟨rfl, S', h1, h2, h3⟩
  exact ⟨rfl, Mine.next hS hp h1 h2 h3⟩
attribute [local go_sem] gmax2 gmin2 gmax_two gmin_two
theorem drewN_pure (w : World) (k : Nat) : Pure' w (w.drewN k) := (Keeps.refl _ w).drewN k
attribute [local go_sem] gmax2 gmin2 gmax_two gmin_two
theorem str_empty (l : List UInt8) : (str l).toList.isEmpty = l.isEmpty := by rw [ByteArray.toList_eq, str_data]
theorem str_drop (l : List UInt8) (k : Nat) : (str l).extract k (str l).size = str (l.drop k) := by rw [extract_end, str_data]; rfl
theorem offer_nil (s : ByteArray) (w : World) : Calls Tryz.prog 15 #[.pointer none, .string s] w fun e w' => e = .returned (.int .i64 1) ∧ w = w' := by
  go_enter Tryz.func15, Tryz.ntmps15
  go_wp2
  go_ret
  exact ⟨rfl, rfl⟩
theorem offer_no (g : Nat) (x : Value) (r s : ByteArray) (c : Bool) (w : World) (h : Blk w g 73 #[x, .string r, .bool c]) (hc : c = true ∨ (c = false ∧ r.toList.isEmpty = false)) :
    Calls Tryz.prog 15 #[.pointer (some ⟨g, 0, none⟩), .string s] w fun e w' => e = .returned (.int .i64 12) ∧ w = w' := by
  have h1 := h.cell 1
  have h2 := h.cell 2
  clear h
  rcases hc with rfl | ⟨rfl, he⟩ <;>
  · go_enter Tryz.func15, Tryz.ntmps15
    go_wp2
    go_ret
    exact ⟨rfl, rfl⟩
theorem offer_yes (g : Nat) (x : Value) (r s : ByteArray) (w : World) (h : Blk w g 73 #[x, .string r, .bool false]) (he : r.toList.isEmpty = true) :
    Calls Tryz.prog 15 #[.pointer (some ⟨g, 0, none⟩), .string s] w fun e w' => e = .returned (.int .i64 0) ∧ w' = w.setCell ⟨g, 1, none⟩ (.string s) := by
  have h1 := h.cell 1
  have h2 := h.cell 2
  have f1 := h.frozen 1
  clear h
  go_enter Tryz.func15, Tryz.ntmps15
  go_wp2
  go_ret
  exact ⟨rfl, rfl⟩
theorem last_nil (d : Int) (w : World) : Calls Tryz.prog 60 #[.pointer none, .int .i64 d] w fun e w' => e = .returned (.tuple #[.int .u8 0, .bool false]) ∧ w = w' := by
  go_enter Tryz.func60, Tryz.ntmps60
  go_wp2
  go_ret2
  exact ⟨rfl, rfl⟩
theorem step_nil (w : World) : Calls Tryz.prog 53 #[.pointer none] w fun e w' => e = .returned (.bool false) ∧ w = w' := by
  go_enter Tryz.func53, Tryz.ntmps53
  go_wp2
  go_ret
  exact ⟨rfl, rfl⟩
theorem to_nil (n : Int) (w : World) : Calls Tryz.prog 16 #[.pointer none, .int .i64 n] w fun e w' => e = .returned (.bool false) ∧ w = w' := by
  go_enter Tryz.func16, Tryz.ntmps16
  go_wp2
  go_ret
  exact ⟨rfl, rfl⟩
theorem pnew_bad (size : Int) (w : World) (h : size < 1 ∨ 65536 < size) : Calls Tryz.prog 14 #[.int .i64 size] w fun e w' => e = .returned (.tuple #[.pointer none, .int .i64 2]) ∧ w = w' := by
  go_enter Tryz.func14, Tryz.ntmps14
  go_wp2_with (go_at_call 52; refine (new_bad _ _ h).mono ?_; rintro e w1 ⟨rfl, rfl⟩)
  go_ret2
  exact ⟨rfl, rfl⟩
theorem pnew_ok (size : Int) (w : World) (h : 1 ≤ size) (h2 : size ≤ 65536) : Calls Tryz.prog 14 #[.int .i64 size] w fun e w' => e = .returned (.tuple #[.pointer (some ⟨w.heap.size + 1, 0, none⟩), .int .i64 0]) ∧
    w' = (w.alloc (.cells #[.slice none 0 0, .int .i64 size, .int .i64 0, .int .i64 0] 113)).alloc (.cells #[.pointer (some ⟨w.heap.size, 0, none⟩), .string ⟨#[]⟩, .bool false] 73) := by
  go_enter Tryz.func14, Tryz.ntmps14
  go_wp2_with (go_at_call 52; refine (new_ok _ _ h h2).mono ?_; rintro e w1 ⟨rfl, rfl⟩)
  go_ret2
  exact ⟨rfl, rfl⟩
theorem last_blk (g gr : Nat) (x y : Value) (d : Int) (u : Value) (ok : Bool) (w : World) (h : Blk w g 73 #[.pointer (some ⟨gr, 0, none⟩), x, y])
    (hA : Calls Tryz.prog 86 #[.pointer (some ⟨gr, 0, none⟩), .int .i64 d] w fun e w' => e = .returned (.tuple #[u, .bool ok]) ∧ w = w') :
    Calls Tryz.prog 60 #[.pointer (some ⟨g, 0, none⟩), .int .i64 d] w fun e w' => e = .returned (.tuple #[u, .bool ok]) ∧ w = w' := by
  have h0 := h.cell 0
  have HA := Lib.hid hA
  clear h hA
  go_enter Tryz.func60, Tryz.ntmps60
  go_wp2_with (go_at_call 86; refine (HA.out).mono ?_; rintro e w' ⟨rfl, rfl⟩)
  go_ret2
  exact ⟨rfl, rfl⟩
attribute [local go_sem] gmax2 gmin2 gmax_two gmin_two
/-- A pane of the law's own: what went on, what waits, is it closed. -/
def PMine (w0 w : World) (g gr : Nat) (gone rest : List UInt8) (closed : Bool) (size : Nat) : Prop :=
  ∃ S, Blk w g 73 #[.pointer (some ⟨gr, 0, none⟩), .string (str rest), .bool closed] ∧ Ring w gr gone size S ∧ ¬ S g ∧ w0.heap.size ≤ g ∧ (∀ b, S b → w0.heap.size ≤ b ∧ b < w.heap.size) ∧ Pure' w0 w
theorem PMine.pure {w0 w w' : World} {g gr : Nat} {gone rest : List UInt8} {closed : Bool} {size : Nat} (h : PMine w0 w g gr gone rest closed size) (hk : Pure' w w') : PMine w0 w' g gr gone rest closed size := by
  obtain ⟨S, hb, hR, hS, hg, hs, hp⟩ := h
  exact ⟨S, hb.keep hk fun h => h, hR.keep hk fun _ _ h => h, hS, hg, fun b hb => ⟨(hs b hb).1, Nat.lt_of_lt_of_le (hs b hb).2 hk.size⟩, hp.then_ hk⟩
theorem PMine.setP {w0 w : World} {g gr i : Nat} {gone rest rest' : List UInt8} {closed closed' : Bool} {size : Nat} {u : Value} (h : PMine w0 w g gr gone rest closed size)
    (e : (#[.pointer (some ⟨gr, 0, none⟩), .string (str rest), .bool closed] : Array Value).setIfInBounds i u = #[.pointer (some ⟨gr, 0, none⟩), .string (str rest'), .bool closed']) : PMine w0 (w.setCell ⟨g, i, none⟩ u) g gr gone rest' closed' size := by
  obtain ⟨S, hb, hR, hS, hg, hs, hp⟩ := h
  refine ⟨S, e ▸ hb.set_ i u, hR.keep (Keeps.one w g i u) fun b hb he => hS (he ▸ hb), hS, hg, fun b hb => ⟨(hs b hb).1, by simpa [World.setCell] using (hs b hb).2⟩, hp.setCell (.inr hg) u⟩
theorem PMine.made (w : World) (size : Nat) (h1 : 1 ≤ size) (h2 : size ≤ 65536) :
    PMine w ((w.alloc (.cells #[.slice none 0 0, .int .i64 size, .int .i64 0, .int .i64 0] 113)).alloc (.cells #[.pointer (some ⟨w.heap.size, 0, none⟩), .string ⟨#[]⟩, .bool false] 73)) (w.heap.size + 1) w.heap.size [] [] false size := by
  have e : (w.alloc (.cells #[.slice none 0 0, .int .i64 size, .int .i64 0, .int .i64 0] 113)).heap.size = w.heap.size + 1 := by simp
  have hb := Blk.new (w.alloc (.cells #[.slice none 0 0, .int .i64 size, .int .i64 0, .int .i64 0] 113)) 73 #[.pointer (some ⟨w.heap.size, 0, none⟩), .string ⟨#[]⟩, .bool false]
  rw [e] at hb
  refine ⟨_, hb, (Ring.made w size h1 h2).keep (Keeps.alloc (S := fun _ => False) (Keeps.refl _ _) _) (fun _ _ h => h), by omega, by omega, fun b hb => ?_, ((Keeps.refl _ _).alloc _).alloc _⟩
  subst hb
  refine ⟨Nat.le_refl _, ?_⟩
  show w.heap.size < ((w.heap.push _).push _).size
  simp; omega
theorem PMine.mine {w0 w : World} {g gr : Nat} {gone rest : List UInt8} {closed : Bool} {size : Nat} (h : PMine w0 w g gr gone rest closed size) : Mine w0 w gr gone size := by
  obtain ⟨S, hb, hR, hS, hg, hs, hp⟩ := h
  exact ⟨S, hR, hs, hp⟩
theorem PMine.blk {w0 w : World} {g gr : Nat} {gone rest : List UInt8} {closed : Bool} {size : Nat} (h : PMine w0 w g gr gone rest closed size) : Blk w g 73 #[.pointer (some ⟨gr, 0, none⟩), .string (str rest), .bool closed] := by
  obtain ⟨S, hb, _⟩ := h
  exact hb
theorem PMine.p {w0 w : World} {g gr : Nat} {gone rest : List UInt8} {closed : Bool} {size : Nat} (h : PMine w0 w g gr gone rest closed size) : Pure' w0 w := by
  obtain ⟨_, _, _, _, _, _, hp⟩ := h
  exact hp
theorem PMine.drewN {w0 w : World} {g gr : Nat} {gone rest : List UInt8} {closed : Bool} {size : Nat} (h : PMine w0 w g gr gone rest closed size) (k : Nat) : PMine w0 (w.drewN k) g gr gone rest closed size := h.pure (drewN_pure w k)
/-- What is no pane's, no ring's and no row of bytes is as it was. -/
def TKeep (w w' : World) : Prop := ∀ b t cs, t ≠ 73 → t ≠ 113 → t ≠ 5 → Blk w b t cs → Blk w' b t cs
theorem TKeep.refl (w : World) : TKeep w w := fun _ _ _ _ _ _ h => h
theorem TKeep.trans {a b c : World} (h : TKeep a b) (k : TKeep b c) : TKeep a c := fun x t cs h1 h2 h3 hb => k x t cs h1 h2 h3 (h x t cs h1 h2 h3 hb)
theorem TKeep.pure {a b : World} (h : Pure' a b) : TKeep a b := fun x t cs h1 h2 h3 hb => hb.keep h fun hf => hf
theorem TKeep.set {a b : World} {g i : Nat} {cs : Array Value} {u : Value} (h : TKeep a b) (hg : Blk b g 73 cs) : TKeep a (b.setCell ⟨g, i, none⟩ u) :=
  fun x t cs' h1 h2 h3 hb => Blk.off (fun e => by subst e; exact Blk.differ (h x t cs' h1 h2 h3 hb) hg h1 rfl) (h x t cs' h1 h2 h3 hb)
theorem Ring.exact {w : World} {g : Nat} {s : List UInt8} {size : Nat} {S : Nat → Prop} (h : Ring w g s size S) :
    ∃ S', Ring w g s size S' ∧ (∀ b, S' b → S b) ∧ ∀ b t cs, Blk w b t cs → t ≠ 113 → t ≠ 5 → ¬ S' b := by
  obtain ⟨v, bs, hb, ho, hp, hz, hg, hv⟩ := h
  refine ⟨fun b => b = g ∨ v.ownBlock = some b, ⟨v, bs, hb, ho, hp, hz, .inl rfl, fun b h => .inr h⟩, ?_, ?_⟩
  · rintro b (rfl | h)
    · exact hg
    · exact hv b h
  · rintro b t cs hx h1 h2 (rfl | h)
    · exact Blk.differ hx hb h1 rfl
    · exact ho.blk_ne hx (fun e => h2 e.symm) h
theorem PMine.push {w0 w : World} {g gr : Nat} {gone rest : List UInt8} {closed : Bool} {size : Nat} (h : PMine w0 w g gr gone rest closed size) (c : UInt8) (hs : gone.length < 1000000000000) :
    Calls Tryz.prog 83 #[.pointer (some ⟨gr, 0, none⟩), .int .u8 (c.toNat : Int)] w fun e w' => e = .returned (.tuple #[]) ∧ PMine w0 w' g gr (gone ++ [c]) rest closed size ∧ TKeep w w' := by
  obtain ⟨S0, hb, hR0, hS0, hg, hs0, hp⟩ := h
  obtain ⟨S, hR, hSS, hTT⟩ := hR0.exact
  have hS : ¬ S g := fun h => hS0 (hSS g h)
  have hs2 : ∀ b, S b → w0.heap.size ≤ b ∧ b < w.heap.size := fun b h => hs0 b (hSS b h)
  refine (push_ring gr gone size S c w hR hs).mono ?_
  rintro e w' ⟨rfl, S', h1, h2, h3⟩
  refine ⟨rfl, ⟨_, hb.keep h3 hS, h1.tight, fun hx => ?_, hg, fun b hb => ⟨?_, hb.2⟩, hp.trans h3 fun b hb h => absurd (hs2 b h).1 (by omega)⟩, fun x t cs _ e2 e3 hx => hx.keep h3 (hTT x t cs hx e2 e3)⟩
  · rcases h2 g hx.1 with h | h
    · exact hS h
    · have := hb.lt; omega
  · rcases h2 b hb.1 with h | h
    · exact (hs2 b h).1
    · exact Nat.le_trans hp.size h
set_option maxHeartbeats 1000000 in
theorem step_no (g : Nat) (x y : Value) (r : ByteArray) (w : World) (h : Blk w g 73 #[x, .string r, y]) (he : r.toList.isEmpty = true) :
    Calls Tryz.prog 53 #[.pointer (some ⟨g, 0, none⟩)] w fun e w' => e = .returned (.bool false) ∧ w = w' := by
  have h1 := h.cell 1
  clear h
  go_enter Tryz.func53, Tryz.ntmps53
  go_wp2
  go_ret
  exact ⟨rfl, rfl⟩
set_option maxHeartbeats 1000000 in
theorem step_yes (w0 w : World) (g gr : Nat) (gone rest : List UInt8) (c : UInt8) (closed : Bool) (size : Nat) (h : PMine w0 w g gr gone (c :: rest) closed size) (hs : gone.length < 1000000000000) (hr : rest.length < 1000000000000) :
    Calls Tryz.prog 53 #[.pointer (some ⟨g, 0, none⟩)] w fun e w' => e = .returned (.bool true) ∧ PMine w0 w' g gr (gone ++ [c]) rest closed size ∧ TKeep w w' := by
  have hb := h.blk
  have h0 := hb.cell 0
  have h1 := hb.cell 1
  have HC := Lib.hid (fun k => (h.drewN k).push c hs)
  have hsz : (str (c :: rest)).size = rest.length + 1 := by rw [str_size]; rfl
  have h00 : (0 : Int) < ((str (c :: rest)).size : Int) := by omega
  have h000 : 0 < (str (c :: rest)).size := by omega
  have h11 : (1 : Int) ≤ ((str (c :: rest)).size : Int) := by omega
  have hemp : (str (c :: rest)).toList.isEmpty = false := by rw [str_empty]; rfl
  have HX : Hid (∀ hh, (str (c :: rest))[0]'hh = c) := Lib.hid (fun hh => rfl)
  have HD : Hid ((str (c :: rest)).extract 1 (str (c :: rest)).size = str rest) := Lib.hid (by rw [str_drop]; rfl)
  clear h hb hsz
  go_enter Tryz.func53, Tryz.ntmps53
  go_wp2
  refine region_tail 9 (by kernel_rfl) (by kernel_rfl) ?_
  simp only [List.take_succ_cons, List.take_zero, List.drop_succ_cons, List.drop_zero]
  repeat still_step
  refine wpStill_nil ?_
  go_wp2_with (go_at_call 83; rw [HX.out]; refine (HC.out _).mono ?_; rintro e w2 ⟨rfl, hp2, ht2⟩; have HT2 := Lib.hid ht2; clear ht2; have q0 := hp2.blk.cell 1; have f1 := hp2.blk.frozen 1; have HP2 := Lib.hid hp2; clear hp2)
  go_ret
  exact ⟨rfl, HP2.out.setP (by rw [HD.out]; rfl), TKeep.set HT2.out HP2.out.blk⟩
/-- What To comes to. -/
def toN (n : Int) (gone rest : List UInt8) : Nat := (min (max (n - gone.length) 0) rest.length).toNat
def ToInv (w0 wr : World) (g gr : Nat) (gone rest : List UInt8) (closed : Bool) (size : Nat) (k : Nat) : Prop := PMine w0 wr g gr (gone ++ rest.take k) (rest.drop k) closed size
theorem ToInv.step {w0 wr : World} {g gr : Nat} {gone rest : List UInt8} {closed : Bool} {size k : Nat} (h : ToInv w0 wr g gr gone rest closed size k) (hk : k < rest.length) (hs : gone.length + rest.length < 1000000000000) :
    Calls Tryz.prog 53 #[.pointer (some ⟨g, 0, none⟩)] wr fun e w' => e = .returned (.bool true) ∧ ToInv w0 w' g gr gone rest closed size (k + 1) ∧ TKeep wr w' := by
  unfold ToInv at h ⊢
  rw [List.drop_eq_getElem_cons hk] at h
  refine (step_yes w0 wr g gr _ _ _ closed size h (by simp; omega) (by simp; omega)).mono ?_
  rintro e w' ⟨rfl, h2, ht⟩
  refine ⟨rfl, ?_, ht⟩
  rw [List.take_succ_eq_append_getElem hk, ← List.append_assoc]
  exact h2
set_option maxHeartbeats 1000000 in
theorem to_pane (w0 w : World) (g gr : Nat) (n : Int) (gone rest : List UInt8) (closed : Bool) (size : Nat) (h : PMine w0 w g gr gone rest closed size) (hs : gone.length + rest.length < 1000000000000) :
    Calls Tryz.prog 16 #[.pointer (some ⟨g, 0, none⟩), .int .i64 n] w fun e w' => e = .returned (.bool (decide (n - gone.length ≤ rest.length))) ∧ PMine w0 w' g gr (gone ++ rest.take (toN n gone rest)) (rest.drop (toN n gone rest)) closed size ∧ TKeep w w' := by
  have h0 : ToInv w0 w g gr gone rest closed size 0 := by unfold ToInv; simpa using h
  have H0 := Lib.hid h0
  clear h h0
  go_enter Tryz.func16, Tryz.ntmps16
  go_wp2
  go_loopg [] rest.length (fun q wr => ∃ k : Nat, q + k = rest.length ∧ k ≤ rest.length ∧ (0 < k → (gone.length : Int) + k ≤ n) ∧ Hid (ToInv w0 wr g gr gone rest closed size k ∧ TKeep w wr))
  case atStart => exact ⟨0, by omega, by omega, by omega, Lib.hid ⟨H0.out, TKeep.refl w⟩⟩
  case round =>
    obtain ⟨k, hq, hk, hkn, HII⟩ := hrel
    have HI := Lib.hid HII.out.1
    have HTW := Lib.hid HII.out.2
    clear HII
    have hb := PMine.blk HI.out
    have q0 := hb.cell 0
    have q1 := hb.cell 1
    have HS := Lib.hid (show Calls Tryz.prog 42 #[.pointer (some ⟨gr, 0, none⟩)] wr fun e w' => e = .returned (.int .i64 ((gone.length : Int) + k)) ∧ wr = w' from by
      obtain ⟨S, hR, _⟩ := PMine.mine HI.out
      refine (Ring.seens hR).mono ?_
      rintro e w' ⟨rfl, rfl⟩
      exact ⟨ret_int (by simp; omega), rfl⟩)
    have HQ := Lib.hid hb
    clear hb
    by_cases hn : (gone.length : Int) + k < n
    · by_cases hkr : k < rest.length
      · obtain ⟨gk', rfl⟩ : ∃ m, gk = m + 1 := ⟨gk - 1, by omega⟩
        go_wp2_with (first
          | (go_at_call 42; refine (HS.out).mono ?_; rintro e w' ⟨rfl, rfl⟩)
          | (go_at_call 53; refine (HI.out.step hkr hs).mono ?_; rintro e w2 ⟨rfl, hi2, ht2⟩; have HI2 := Lib.hid (And.intro hi2 (HTW.out.trans ht2)); clear hi2 ht2))
        go_roundg gk'
        case rel => exact ⟨k + 1, by omega, by omega, by omega, HI2⟩
        case measure => omega
      · obtain rfl : k = rest.length := by omega
        have HE := Lib.hid (step_no g _ _ _ wr HQ.out (by rw [str_empty]; simp))
        have HF : Hid (decide (n - gone.length ≤ rest.length) = false ∧ toN n gone rest = rest.length) := Lib.hid ⟨by simp; omega, by unfold toN; omega⟩
        go_wp2_with (first
          | (go_at_call 42; refine (HS.out).mono ?_; rintro e w' ⟨rfl, rfl⟩)
          | (go_at_call 53; refine (HE.out).mono ?_; rintro e w2 ⟨rfl, rfl⟩))
        go_ret
        exact ⟨by rw [HF.out.1]; rfl, by rw [HF.out.2]; exact HI.out, HTW.out⟩
    · have HF : Hid (decide (n - gone.length ≤ rest.length) = true ∧ toN n gone rest = k) := Lib.hid ⟨by simp; omega, by unfold toN; omega⟩
      go_wp2_with (go_at_call 42; refine (HS.out).mono ?_; rintro e w' ⟨rfl, rfl⟩)
      go_ret
      exact ⟨by rw [HF.out.1]; rfl, by rw [HF.out.2]; exact HI.out, HTW.out⟩
attribute [local go_sem] gmax2 gmin2 gmax_two gmin_two
theorem PMine.at_ {w0 w : World} {g gr : Nat} {gone rest : List UInt8} {closed : Bool} {size : Nat} (h : PMine w0 w g gr gone rest closed size) (d : Int) : ∃ (c : UInt8) (ok : Bool), Calls Tryz.prog 60 #[.pointer (some ⟨g, 0, none⟩), .int .i64 d] w (fun e w' => e = .returned (.tuple #[.int .u8 (c.toNat : Int), .bool ok]) ∧ w = w') ∧
    (ok = true → 0 ≤ d ∧ d < (min gone.length size : Nat) ∧ gone[gone.length - 1 - d.toNat]? = some c) ∧ (ok = false → (d < 0 ∨ (min gone.length size : Nat) ≤ d)) := by
  obtain ⟨S, hR, _⟩ := h.mine
  by_cases hd : 0 ≤ d ∧ d < (min gone.length size : Nat)
  · obtain ⟨n, rfl⟩ := Int.eq_ofNat_of_zero_le hd.1
    have hlt : gone.length - 1 - n < gone.length := by omega
    exact ⟨_, true, last_blk g gr _ _ n _ true w h.blk (at_ring gr gone size S n w hR (by omega) _ (List.getElem?_eq_getElem hlt)), fun _ => ⟨hd.1, hd.2, List.getElem?_eq_getElem hlt⟩, (fun h => by cases h)⟩
  · exact ⟨0, false, last_blk g gr _ _ d _ false w h.blk (at_no gr gone size S d w hR (by omega)), (fun h => by cases h), fun _ => by omega⟩
theorem PMine.ends {w0 w : World} {g gr : Nat} {gone rest : List UInt8} {closed : Bool} {size : Nat} (h : PMine w0 w g gr gone rest closed size) (t : ByteArray) (ht : t.size < 1000000000000) :
    Calls Tryz.prog 63 #[.pointer (some ⟨gr, 0, none⟩), .string t] w fun e w' => e = .returned (.bool (endsP gone size t.data.toList)) ∧ w = w' := by
  obtain ⟨S, hR, _⟩ := h.mine
  exact ends_ring gr gone size S t w hR ht
theorem PMine.seen {w0 w : World} {g gr : Nat} {gone rest : List UInt8} {closed : Bool} {size : Nat} (h : PMine w0 w g gr gone rest closed size) :
    Calls Tryz.prog 42 #[.pointer (some ⟨gr, 0, none⟩)] w fun e w' => e = .returned (.int .i64 gone.length) ∧ w = w' := by
  obtain ⟨S, hR, _⟩ := h.mine
  exact Ring.seens hR

end Go.Proofs.YtkbdfnmeomkpjaaGreat.Pn
