import Derived.Test.YtacodojaolnhnaaPane
namespace Go.Proofs.Ytacodojaolnhnaa
open Go.RowKit
set_option linter.unusedVariables false
set_option linter.unusedSimpArgs false
set_option maxRecDepth 100000
attribute [local go_sem] gmax2 gmin2 gmax_two gmin_two

/-- A pane of the law's own: what went on, what waits, is it closed. -/
def PMine (w0 w : World) (g gr : Nat) (gone rest : List UInt8) (closed : Bool) (size : Nat) : Prop :=
  ∃ S, Blk w g 56 #[.pointer (some ⟨gr, 0, none⟩), .string (str rest), .bool closed] ∧ Ring w gr gone size S ∧ ¬ S g ∧ w0.heap.size ≤ g ∧ (∀ b, S b → w0.heap.size ≤ b ∧ b < w.heap.size) ∧ Pure' w0 w

theorem PMine.pure {w0 w w' : World} {g gr : Nat} {gone rest : List UInt8} {closed : Bool} {size : Nat} (h : PMine w0 w g gr gone rest closed size) (hk : Pure' w w') : PMine w0 w' g gr gone rest closed size := by
  obtain ⟨S, hb, hR, hS, hg, hs, hp⟩ := h
  exact ⟨S, hb.keep hk fun h => h, hR.keep hk fun _ _ h => h, hS, hg, fun b hb => ⟨(hs b hb).1, Nat.lt_of_lt_of_le (hs b hb).2 hk.size⟩, hp.then_ hk⟩

theorem PMine.setP {w0 w : World} {g gr i : Nat} {gone rest rest' : List UInt8} {closed closed' : Bool} {size : Nat} {u : Value} (h : PMine w0 w g gr gone rest closed size)
    (e : (#[.pointer (some ⟨gr, 0, none⟩), .string (str rest), .bool closed] : Array Value).setIfInBounds i u = #[.pointer (some ⟨gr, 0, none⟩), .string (str rest'), .bool closed']) : PMine w0 (w.setCell ⟨g, i, none⟩ u) g gr gone rest' closed' size := by
  obtain ⟨S, hb, hR, hS, hg, hs, hp⟩ := h
  refine ⟨S, e ▸ hb.set_ i u, hR.keep (Keeps.one w g i u) fun b hb he => hS (he ▸ hb), hS, hg, fun b hb => ⟨(hs b hb).1, by simpa [World.setCell] using (hs b hb).2⟩, hp.setCell (.inr hg) u⟩

theorem PMine.made (w : World) (size : Nat) (h1 : 1 ≤ size) (h2 : size ≤ 65536) :
    PMine w ((w.alloc (.cells #[.slice none 0 0, .int .i64 size, .int .i64 0, .int .i64 0] 71)).alloc (.cells #[.pointer (some ⟨w.heap.size, 0, none⟩), .string ⟨#[]⟩, .bool false] 56)) (w.heap.size + 1) w.heap.size [] [] false size := by
  have e : (w.alloc (.cells #[.slice none 0 0, .int .i64 size, .int .i64 0, .int .i64 0] 71)).heap.size = w.heap.size + 1 := by simp
  have hb := Blk.new (w.alloc (.cells #[.slice none 0 0, .int .i64 size, .int .i64 0, .int .i64 0] 71)) 56 #[.pointer (some ⟨w.heap.size, 0, none⟩), .string ⟨#[]⟩, .bool false]
  rw [e] at hb
  refine ⟨_, hb, (Ring.made w size h1 h2).keep (Keeps.alloc (S := fun _ => False) (Keeps.refl _ _) _) (fun _ _ h => h), by omega, by omega, fun b hb => ?_, ((Keeps.refl _ _).alloc _).alloc _⟩
  subst hb
  refine ⟨Nat.le_refl _, ?_⟩
  show w.heap.size < ((w.heap.push _).push _).size
  simp; omega

theorem PMine.mine {w0 w : World} {g gr : Nat} {gone rest : List UInt8} {closed : Bool} {size : Nat} (h : PMine w0 w g gr gone rest closed size) : Mine w0 w gr gone size := by
  obtain ⟨S, hb, hR, hS, hg, hs, hp⟩ := h
  exact ⟨S, hR, hs, hp⟩
theorem PMine.blk {w0 w : World} {g gr : Nat} {gone rest : List UInt8} {closed : Bool} {size : Nat} (h : PMine w0 w g gr gone rest closed size) : Blk w g 56 #[.pointer (some ⟨gr, 0, none⟩), .string (str rest), .bool closed] := by
  obtain ⟨S, hb, _⟩ := h
  exact hb
theorem PMine.p {w0 w : World} {g gr : Nat} {gone rest : List UInt8} {closed : Bool} {size : Nat} (h : PMine w0 w g gr gone rest closed size) : Pure' w0 w := by
  obtain ⟨_, _, _, _, _, _, hp⟩ := h
  exact hp
theorem PMine.drewN {w0 w : World} {g gr : Nat} {gone rest : List UInt8} {closed : Bool} {size : Nat} (h : PMine w0 w g gr gone rest closed size) (k : Nat) : PMine w0 (w.drewN k) g gr gone rest closed size := h.pure (drewN_pure w k)

/-- What is no pane's, no ring's and no row of bytes is as it was. -/
def TKeep (w w' : World) : Prop := ∀ b t cs, t ≠ 56 → t ≠ 71 → t ≠ 5 → Blk w b t cs → Blk w' b t cs
theorem TKeep.refl (w : World) : TKeep w w := fun _ _ _ _ _ _ h => h
theorem TKeep.trans {a b c : World} (h : TKeep a b) (k : TKeep b c) : TKeep a c := fun x t cs h1 h2 h3 hb => k x t cs h1 h2 h3 (h x t cs h1 h2 h3 hb)
theorem TKeep.pure {a b : World} (h : Pure' a b) : TKeep a b := fun x t cs h1 h2 h3 hb => hb.keep h fun hf => hf
theorem TKeep.set {a b : World} {g i : Nat} {cs : Array Value} {u : Value} (h : TKeep a b) (hg : Blk b g 56 cs) : TKeep a (b.setCell ⟨g, i, none⟩ u) :=
  fun x t cs' h1 h2 h3 hb => Blk.off (fun e => by subst e; exact Blk.differ (h x t cs' h1 h2 h3 hb) hg h1 rfl) (h x t cs' h1 h2 h3 hb)

theorem Ring.exact {w : World} {g : Nat} {s : List UInt8} {size : Nat} {S : Nat → Prop} (h : Ring w g s size S) :
    ∃ S', Ring w g s size S' ∧ (∀ b, S' b → S b) ∧ ∀ b t cs, Blk w b t cs → t ≠ 71 → t ≠ 5 → ¬ S' b := by
  obtain ⟨v, bs, hb, ho, hp, hz, hg, hv⟩ := h
  refine ⟨fun b => b = g ∨ v.ownBlock = some b, ⟨v, bs, hb, ho, hp, hz, .inl rfl, fun b h => .inr h⟩, ?_, ?_⟩
  · rintro b (rfl | h)
    · exact hg
    · exact hv b h
  · rintro b t cs hx h1 h2 (rfl | h)
    · exact Blk.differ hx hb h1 rfl
    · exact ho.blk_ne hx (fun e => h2 e.symm) h

theorem PMine.push {w0 w : World} {g gr : Nat} {gone rest : List UInt8} {closed : Bool} {size : Nat} (h : PMine w0 w g gr gone rest closed size) (c : UInt8) (hs : gone.length < 1000000000000) :
    Calls Try.prog 15 #[.pointer (some ⟨gr, 0, none⟩), .int .u8 (c.toNat : Int)] w fun e w' => e = .returned (.tuple #[]) ∧ PMine w0 w' g gr (gone ++ [c]) rest closed size ∧ TKeep w w' := by
  obtain ⟨S0, hb, hR0, hS0, hg, hs0, hp⟩ := h
  obtain ⟨S, hR, hSS, hTT⟩ := hR0.exact
  have hS : ¬ S g := fun h => hS0 (hSS g h)
  have hs2 : ∀ b, S b → w0.heap.size ≤ b ∧ b < w.heap.size := fun b h => hs0 b (hSS b h)
  refine (push_ring gr gone size S c w hR hs).mono ?_
  rintro e w' ⟨rfl, S', h1, h2, h3⟩
  refine ⟨rfl, ⟨_, hb.keep h3 hS, h1.tight, fun hx => ?_, hg, fun b hb => ⟨?_, hb.2⟩, hp.trans h3 fun b hb h => absurd (hs2 b h).1 (by omega)⟩, fun x t cs _ e2 e3 hx => hx.keep h3 (hTT x t cs hx e2 e3)⟩
  · rcases h2 g hx.1 with h | h
    · exact hS h
    · have := hb.lt; omega
  · rcases h2 b hb.1 with h | h
    · exact (hs2 b h).1
    · exact Nat.le_trans hp.size h

set_option maxHeartbeats 1000000 in
theorem step_no (g : Nat) (x y : Value) (r : ByteArray) (w : World) (h : Blk w g 56 #[x, .string r, y]) (he : r.toList.isEmpty = true) :
    Calls Try.prog 39 #[.pointer (some ⟨g, 0, none⟩)] w fun e w' => e = .returned (.bool false) ∧ w = w' := by
  have h1 := h.cell 1
  clear h
  go_enter Try.func39, Try.ntmps39
  go_wp2
  go_ret
  exact ⟨rfl, rfl⟩

set_option maxHeartbeats 1000000 in
theorem step_yes (w0 w : World) (g gr : Nat) (gone rest : List UInt8) (c : UInt8) (closed : Bool) (size : Nat) (h : PMine w0 w g gr gone (c :: rest) closed size) (hs : gone.length < 1000000000000) (hr : rest.length < 1000000000000) :
    Calls Try.prog 39 #[.pointer (some ⟨g, 0, none⟩)] w fun e w' => e = .returned (.bool true) ∧ PMine w0 w' g gr (gone ++ [c]) rest closed size ∧ TKeep w w' := by
  have hb := h.blk
  have h0 := hb.cell 0
  have h1 := hb.cell 1
  have HC := Lib.hid (fun k => (h.drewN k).push c hs)
  have hsz : (str (c :: rest)).size = rest.length + 1 := by rw [str_size]; rfl
  have h00 : (0 : Int) < ((str (c :: rest)).size : Int) := by omega
  have h000 : 0 < (str (c :: rest)).size := by omega
  have h11 : (1 : Int) ≤ ((str (c :: rest)).size : Int) := by omega
  have hemp : (str (c :: rest)).toList.isEmpty = false := by rw [str_empty]; rfl
  have HX : Hid (∀ hh, (str (c :: rest))[0]'hh = c) := Lib.hid (fun hh => rfl)
  have HD : Hid ((str (c :: rest)).extract 1 (str (c :: rest)).size = str rest) := Lib.hid (by rw [str_drop]; rfl)
  clear h hb hsz
  go_enter Try.func39, Try.ntmps39
  go_wp2
  refine region_tail 9 (by kernel_rfl) (by kernel_rfl) ?_
  simp only [List.take_succ_cons, List.take_zero, List.drop_succ_cons, List.drop_zero]
  repeat still_step
  refine wpStill_nil ?_
  go_wp2_with (go_at_call 15; rw [HX.out]; refine (HC.out _).mono ?_; rintro e w2 ⟨rfl, hp2, ht2⟩; have HT2 := Lib.hid ht2; clear ht2; have q0 := hp2.blk.cell 1; have f1 := hp2.blk.frozen 1; have HP2 := Lib.hid hp2; clear hp2)
  go_ret
  exact ⟨rfl, HP2.out.setP (by rw [HD.out]; rfl), TKeep.set HT2.out HP2.out.blk⟩

/-- What To comes to. -/
def toN (n : Int) (gone rest : List UInt8) : Nat := (min (max (n - gone.length) 0) rest.length).toNat

def ToInv (w0 wr : World) (g gr : Nat) (gone rest : List UInt8) (closed : Bool) (size : Nat) (k : Nat) : Prop := PMine w0 wr g gr (gone ++ rest.take k) (rest.drop k) closed size

theorem ToInv.step {w0 wr : World} {g gr : Nat} {gone rest : List UInt8} {closed : Bool} {size k : Nat} (h : ToInv w0 wr g gr gone rest closed size k) (hk : k < rest.length) (hs : gone.length + rest.length < 1000000000000) :
    Calls Try.prog 39 #[.pointer (some ⟨g, 0, none⟩)] wr fun e w' => e = .returned (.bool true) ∧ ToInv w0 w' g gr gone rest closed size (k + 1) ∧ TKeep wr w' := by
  unfold ToInv at h ⊢
  rw [List.drop_eq_getElem_cons hk] at h
  refine (step_yes w0 wr g gr _ _ _ closed size h (by simp; omega) (by simp; omega)).mono ?_
  rintro e w' ⟨rfl, h2, ht⟩
  refine ⟨rfl, ?_, ht⟩
  rw [List.take_succ_eq_append_getElem hk, ← List.append_assoc]
  exact h2

set_option maxHeartbeats 1000000 in
theorem to_pane (w0 w : World) (g gr : Nat) (n : Int) (gone rest : List UInt8) (closed : Bool) (size : Nat) (h : PMine w0 w g gr gone rest closed size) (hs : gone.length + rest.length < 1000000000000) :
    Calls Try.prog 40 #[.pointer (some ⟨g, 0, none⟩), .int .i64 n] w fun e w' => e = .returned (.bool (decide (n - gone.length ≤ rest.length))) ∧ PMine w0 w' g gr (gone ++ rest.take (toN n gone rest)) (rest.drop (toN n gone rest)) closed size ∧ TKeep w w' := by
  have h0 : ToInv w0 w g gr gone rest closed size 0 := by unfold ToInv; simpa using h
  have H0 := Lib.hid h0
  clear h h0
  go_enter Try.func40, Try.ntmps40
  go_wp2
  go_loopg [] rest.length (fun q wr => ∃ k : Nat, q + k = rest.length ∧ k ≤ rest.length ∧ (0 < k → (gone.length : Int) + k ≤ n) ∧ Hid (ToInv w0 wr g gr gone rest closed size k ∧ TKeep w wr))
  case atStart => exact ⟨0, by omega, by omega, by omega, Lib.hid ⟨H0.out, TKeep.refl w⟩⟩
  case round =>
    obtain ⟨k, hq, hk, hkn, HII⟩ := hrel
    have HI := Lib.hid HII.out.1
    have HTW := Lib.hid HII.out.2
    clear HII
    have hb := PMine.blk HI.out
    have q0 := hb.cell 0
    have q1 := hb.cell 1
    have HS := Lib.hid (show Calls Try.prog 22 #[.pointer (some ⟨gr, 0, none⟩)] wr fun e w' => e = .returned (.int .i64 ((gone.length : Int) + k)) ∧ wr = w' from by
      obtain ⟨S, hR, _⟩ := PMine.mine HI.out
      refine (Ring.seens hR).mono ?_
      rintro e w' ⟨rfl, rfl⟩
      exact ⟨ret_int (by simp; omega), rfl⟩)
    have HQ := Lib.hid hb
    clear hb
    by_cases hn : (gone.length : Int) + k < n
    · by_cases hkr : k < rest.length
      · obtain ⟨gk', rfl⟩ : ∃ m, gk = m + 1 := ⟨gk - 1, by omega⟩
        go_wp2_with (first
          | (go_at_call 22; refine (HS.out).mono ?_; rintro e w' ⟨rfl, rfl⟩)
          | (go_at_call 39; refine (HI.out.step hkr hs).mono ?_; rintro e w2 ⟨rfl, hi2, ht2⟩; have HI2 := Lib.hid (And.intro hi2 (HTW.out.trans ht2)); clear hi2 ht2))
        go_roundg gk'
        case rel => exact ⟨k + 1, by omega, by omega, by omega, HI2⟩
        case measure => omega
      · obtain rfl : k = rest.length := by omega
        have HE := Lib.hid (step_no g _ _ _ wr HQ.out (by rw [str_empty]; simp))
        have HF : Hid (decide (n - gone.length ≤ rest.length) = false ∧ toN n gone rest = rest.length) := Lib.hid ⟨by simp; omega, by unfold toN; omega⟩
        go_wp2_with (first
          | (go_at_call 22; refine (HS.out).mono ?_; rintro e w' ⟨rfl, rfl⟩)
          | (go_at_call 39; refine (HE.out).mono ?_; rintro e w2 ⟨rfl, rfl⟩))
        go_ret
        exact ⟨by rw [HF.out.1]; rfl, by rw [HF.out.2]; exact HI.out, HTW.out⟩
    · have HF : Hid (decide (n - gone.length ≤ rest.length) = true ∧ toN n gone rest = k) := Lib.hid ⟨by simp; omega, by unfold toN; omega⟩
      go_wp2_with (go_at_call 22; refine (HS.out).mono ?_; rintro e w' ⟨rfl, rfl⟩)
      go_ret
      exact ⟨by rw [HF.out.1]; rfl, by rw [HF.out.2]; exact HI.out, HTW.out⟩
end Go.Proofs.Ytacodojaolnhnaa
