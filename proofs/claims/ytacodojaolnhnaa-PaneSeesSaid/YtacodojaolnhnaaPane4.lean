import Derived.Test.YtacodojaolnhnaaPane3
namespace Go.Proofs.Ytacodojaolnhnaa
open Go.RowKit
set_option linter.unusedVariables false
set_option linter.unusedSimpArgs false
set_option maxRecDepth 100000
attribute [local go_sem] gmax2 gmin2 gmax_two gmin_two

/-- What the callees of does answer. -/
structure DoesAt (w0 : World) (g gr size : Nat) (p p' : Value) (k n : Int) (s : ByteArray) (en : Int) (ok : Bool) (gone' rest' : List UInt8) (closed' : Bool) (w : World) : Prop where
  isP : p' = .agg #[.string (str gone'), .string (str rest'), .bool closed']
  do_ : ∀ W, Calls Try.prog 58 #[p, .agg #[.int .i64 k, .int .i64 n, .string s]] W fun e w' => e = .returned (.tuple #[p', .int .i64 en, .bool ok]) ∧ Pure' W w'
  offer : k = 0 → ∀ W, Pure' w W → Calls Try.prog 37 #[.pointer (some ⟨g, 0, none⟩), .string s] W fun e w' => e = .returned (.int .i64 en) ∧ PMine w0 w' g gr gone' rest' closed' size ∧ TKeep W w'
  close : k = 1 → ∀ W, Pure' w W → Calls Try.prog 38 #[.pointer (some ⟨g, 0, none⟩)] W fun e w' => e = .returned (.int .i64 en) ∧ PMine w0 w' g gr gone' rest' closed' size ∧ TKeep W w'
  step : k = 2 → ∀ W, Pure' w W → Calls Try.prog 39 #[.pointer (some ⟨g, 0, none⟩)] W fun e w' => e = .returned (.bool ok) ∧ PMine w0 w' g gr gone' rest' closed' size ∧ TKeep W w'
  to_ : k = 3 → ∀ W, Pure' w W → Calls Try.prog 40 #[.pointer (some ⟨g, 0, none⟩), .int .i64 n] W fun e w' => e = .returned (.bool ok) ∧ PMine w0 w' g gr gone' rest' closed' size ∧ TKeep W w'

theorem doesAt {w0 w : World} {g gr size : Nat} {gone rest : List UInt8} {closed : Bool} (h : PMine w0 w g gr gone rest closed size) (k n : Int) (s : ByteArray) (hk : 0 ≤ k ∧ k ≤ 3) (hs : gone.length + rest.length < 1000000000000) (hn : -9223372036854775808 ≤ n ∧ n ≤ 9223372036854775807) :
    ∃ p' en ok gone' rest' closed', DoesAt w0 g gr size (.agg #[.string (str gone), .string (str rest), .bool closed]) p' k n s en ok gone' rest' closed' w ∧ gone'.length + rest'.length ≤ gone.length + rest.length + s.size ∧ (en = 0 ∨ en = 12) := by
  have hP : ∀ W, Pure' w W → PMine w0 W g gr gone rest closed size := fun W hk => h.pure hk
  have hB : ∀ W, Pure' w W → Blk W g 56 #[.pointer (some ⟨gr, 0, none⟩), .string (str rest), .bool closed] := fun W hk => (hP W hk).blk
  have hc : k = 0 ∨ k = 1 ∨ k = 2 ∨ k = 3 := by omega
  by_cases hr : (k = 0 ∨ k = 1) ∧ (closed = true ∨ (closed = false ∧ rest ≠ []))
  · have hr2 : closed = true ∨ (closed = false ∧ (str rest).toList.isEmpty = false) := by
      rcases hr.2 with h | ⟨h, h2⟩
      · exact .inl h
      · refine .inr ⟨h, ?_⟩
        rw [str_empty]; cases rest with | nil => exact absurd rfl h2 | cons _ _ => rfl
    refine ⟨_, 12, false, gone, rest, closed, ⟨rfl, fun W => do_refuse gone rest closed k n s W hr.1 hr.2, fun _ W hk => (offer_no g _ _ s closed W (hB W hk) hr2).mono fun e w' ⟨a, b⟩ => ⟨a, b ▸ hP W hk, b ▸ TKeep.refl W⟩, fun _ W hk => (close_no g _ _ closed W (hB W hk) hr2).mono fun e w' ⟨a, b⟩ => ⟨a, b ▸ hP W hk, b ▸ TKeep.refl W⟩, fun h2 => by omega, fun h2 => by omega⟩, by omega, .inr rfl⟩
  · rcases hc with rfl | rfl | hc
    · have hcl : closed = false := by cases closed with | false => rfl | true => exact absurd ⟨.inl rfl, .inl rfl⟩ hr
      subst hcl
      have hre : rest = [] := by cases rest with | nil => rfl | cons a l => exact absurd ⟨.inl rfl, .inr ⟨rfl, by simp⟩⟩ hr
      subst hre
      have e : str s.data.toList = s := bytes_mk s
      refine ⟨_, 0, false, gone, s.data.toList, false, ⟨rfl, fun W => by rw [e]; exact do_offer gone n s W, fun _ W hk => (offer_yes g _ _ s W (hB W hk) (str_empty [])).mono fun e' w' ⟨a, b⟩ => ⟨a, b ▸ (hP W hk).setP (by rw [e]; rfl), b ▸ TKeep.set (TKeep.refl W) (hB W hk)⟩, fun h2 => by omega, fun h2 => by omega, fun h2 => by omega⟩, by simp, .inl rfl⟩
    · have hcl : closed = false := by cases closed with | false => rfl | true => exact absurd ⟨.inr rfl, .inl rfl⟩ hr
      subst hcl
      have hre : rest = [] := by cases rest with | nil => rfl | cons a l => exact absurd ⟨.inr rfl, .inr ⟨rfl, by simp⟩⟩ hr
      subst hre
      refine ⟨_, 0, false, gone, [], true, ⟨rfl, fun W => do_close gone n s W, fun h2 => by omega, fun _ W hk => (close_yes g _ _ W (hB W hk) (str_empty [])).mono fun e' w' ⟨a, b⟩ => ⟨a, b ▸ (hP W hk).setP rfl, b ▸ TKeep.set (TKeep.refl W) (hB W hk)⟩, fun h2 => by omega, fun h2 => by omega⟩, by simp, .inl rfl⟩
    · rcases hc with rfl | rfl
      · cases rest with
        | nil => exact ⟨_, 0, false, gone, [], closed, ⟨rfl, fun W => by simpa using do_move gone [] closed 2 n 1 s 0 false W (by simpa using hs) hn (.inl ⟨rfl, rfl⟩) (.inr ⟨by simp, rfl, rfl⟩), fun h2 => by omega, fun h2 => by omega, fun _ W hk => (step_no g _ _ _ W (hB W hk) (str_empty [])).mono fun e w' ⟨a, b⟩ => ⟨a, b ▸ hP W hk, b ▸ TKeep.refl W⟩, fun h2 => by omega⟩, by simp, .inl rfl⟩
        | cons c rest => exact ⟨_, 0, true, gone ++ [c], rest, closed, ⟨rfl, fun W => by simpa using do_move gone (c :: rest) closed 2 n 1 s 1 true W hs hn (.inl ⟨rfl, rfl⟩) (.inl ⟨by simp; omega, by omega, rfl⟩), fun h2 => by omega, fun h2 => by omega, fun _ W hk => step_yes w0 W g gr gone rest c closed size (hP W hk) (by omega) (by simp at hs; omega), fun h2 => by omega⟩, by simp; omega, .inl rfl⟩
      · refine ⟨_, 0, decide (n - gone.length ≤ rest.length), gone ++ rest.take (toN n gone rest), rest.drop (toN n gone rest), closed, ⟨rfl, fun W => ?_, fun h2 => by omega, fun h2 => by omega, fun h2 => by omega, fun _ W hk => to_pane w0 W g gr n gone rest closed size (hP W hk) hs⟩, by simp; omega, .inl rfl⟩
        by_cases hneg : n < 0
        · refine do_move gone rest closed 3 n 0 s _ _ W hs hn (.inr ⟨rfl, .inl ⟨hneg, rfl⟩⟩) (.inl ⟨by omega, by unfold toN; omega, by simp; omega⟩)
        · refine do_move gone rest closed 3 n _ s _ _ W hs hn (.inr ⟨rfl, .inr ⟨by omega, rfl⟩⟩) ?_
          by_cases h1 : n - gone.length ≤ rest.length
          · exact .inl ⟨h1, by unfold toN; omega, by simpa using h1⟩
          · exact .inr ⟨by omega, by unfold toN; omega, by simpa using h1⟩

theorem Blk.new1 (w : World) (o : Obj) (t : TypeId) (cs : Array Value) : Blk ((w.alloc o).alloc (.cells cs t)) (w.heap.size + 1) t cs := by
  have := Blk.new (w.alloc o) t cs
  rwa [show (w.alloc o).heap.size = w.heap.size + 1 from by simp] at this
theorem Blk.new2 (w : World) (o o' : Obj) (t : TypeId) (cs : Array Value) : Blk (((w.alloc o).alloc o').alloc (.cells cs t)) (w.heap.size + 1 + 1) t cs := by
  have := Blk.new1 (w.alloc o) o' t cs
  rwa [show (w.alloc o).heap.size = w.heap.size + 1 from by simp] at this

theorem PMine.setO {w0 w : World} {g gr x i : Nat} {gone rest : List UInt8} {closed : Bool} {size : Nat} {t : TypeId} {cs : Array Value} {u : Value} (h : PMine w0 w g gr gone rest closed size) (hx : Blk w x t cs) (h1 : t ≠ 56) (h2 : t ≠ 71) (h3 : t ≠ 5) (hw : w0.heap.size ≤ x) :
    PMine w0 (w.setCell ⟨x, i, none⟩ u) g gr gone rest closed size := by
  obtain ⟨S0, hb, hR0, hS0, hg, hs0, hp⟩ := h
  obtain ⟨S, hR, hSS, hTT⟩ := hR0.exact
  exact ⟨S, hb.off (fun e => by subst e; exact Blk.differ hx hb h1 rfl), hR.keep (Keeps.one w x i u) (fun b hb e => by subst e; exact hTT _ t cs hx h2 h3 hb), fun h => hS0 (hSS g h), hg, fun b hb => ⟨(hs0 b (hSS b hb)).1, by simpa [World.setCell] using (hs0 b (hSS b hb)).2⟩, hp.setCell (.inr hw) u⟩
theorem TKeep.setN {a b : World} {x i : Nat} {u : Value} (h : TKeep a b) (hx : a.heap.size ≤ x) : TKeep a (b.setCell ⟨x, i, none⟩ u) :=
  fun y t cs h1 h2 h3 hb => Blk.off (fun e => by subst e; have := hb.lt; omega) (h y t cs h1 h2 h3 hb)
theorem TKeep.alloc {a b : World} (h : TKeep a b) (o : Obj) : TKeep a (b.alloc o) := fun x t cs h1 h2 h3 hb => (h x t cs h1 h2 h3 hb).alloc o

set_option maxHeartbeats 2000000 in
theorem does_walk {w0 w : World} {g gr size : Nat} {gone rest : List UInt8} {closed : Bool} (h : PMine w0 w g gr gone rest closed size) (k n : Int) (s : ByteArray) (hk : 0 ≤ k ∧ k ≤ 3) (hs : gone.length + rest.length < 1000000000000) (hn : -9223372036854775808 ≤ n ∧ n ≤ 9223372036854775807) :
    Calls Try.prog 30 #[.pointer (some ⟨g, 0, none⟩), .agg #[.string (str gone), .string (str rest), .bool closed], .agg #[.int .i64 k, .int .i64 n, .string s]] w fun e w' => ∃ gone' rest' closed',
      e = .returned (.tuple #[.agg #[.string (str gone'), .string (str rest'), .bool closed'], .bool true]) ∧ PMine w0 w' g gr gone' rest' closed' size ∧ TKeep w w' ∧ gone'.length + rest'.length ≤ gone.length + rest.length + s.size := by
  obtain ⟨p', en, ok, gone', rest', closed', hD, hl, hen⟩ := doesAt h k n s hk hs hn
  have hp' := hD.isP
  subst hp'
  have HD := Lib.hid hD
  have hw0 : w0.heap.size ≤ w.heap.size := h.p.size
  have HL := Lib.hid hl
  clear hD hl h hs
  have hc : k = 0 ∨ k = 1 ∨ k = 2 ∨ k = 3 := by omega
  clear hk
  rcases hc with rfl | rfl | rfl | rfl
  · go_enter Try.func30, Try.ntmps30
    go_wp2_with fail
    have B5 := (Blk.new1 w (.cells #[.string (str gone), .string (str rest), .bool closed] 50) 45 #[.int .i64 0, .int .i64 n, .string s]).alloc (.cells #[.string ⟨#[]⟩, .string ⟨#[]⟩, .bool false] 50)
    have B6 := Blk.new2 w (.cells #[.string (str gone), .string (str rest), .bool closed] 50) (.cells #[.int .i64 0, .int .i64 n, .string s] 45) 50 #[.string ⟨#[]⟩, .string ⟨#[]⟩, .bool false]
    refine (HD.out.do_ _).mono ?_
    rintro e w1 ⟨rfl, hk1⟩
    have B51 := B5.keep hk1 fun h => h
    have B61 := B6.keep hk1 fun h => h
    have HP1 := Lib.hid ((((Keeps.refl (fun _ => False) w).alloc _).alloc _).alloc _ |>.then_ hk1)
    have c0 := B51.cell 0
    have c1 := B51.cell 1
    have c2 := B51.cell 2
    have HB6 := Lib.hid B61
    have HB5 := Lib.hid B51
    have hlt6 : w.heap.size + 1 + 1 < w1.heap.size := B61.lt
    have hlt5 : w.heap.size + 1 < w1.heap.size := B51.lt
    have HT1 := Lib.hid (TKeep.pure HP1.out)
    have hzw : w.heap.size ≤ w.heap.size + 1 + 1 := by omega
    clear B5 B6 hk1 B51 B61
    generalize hzz : w.heap.size = z at *
    have HZ := Lib.hid hzz
    clear hzz
    go_wp2
    have B8 : Blk (w1.alloc (.cells #[.string (str gone'), .string (str rest'), .bool closed'] 50)) w1.heap.size 50 #[.string (str gone'), .string (str rest'), .bool closed'] := Blk.new w1 _ _
    have B62 : Blk (w1.alloc (.cells #[.string (str gone'), .string (str rest'), .bool closed'] 50)) (z + 1 + 1) 50 #[.string ⟨#[]⟩, .string ⟨#[]⟩, .bool false] := HB6.out.alloc _
    have HP2 := Lib.hid (HP1.out.alloc (.cells #[.string (str gone'), .string (str rest'), .bool closed'] 50))
    have B5 : Blk (w1.alloc (.cells #[.string (str gone'), .string (str rest'), .bool closed'] 50)) (z + 1) 45 #[.int .i64 0, .int .i64 n, .string s] := HB5.out.alloc _
    have d2 := B5.cell 2
    have HT2 := Lib.hid (HT1.out.alloc (.cells #[.string (str gone'), .string (str rest'), .bool closed'] 50))
    clear c0 c1 c2
    generalize w1.alloc (.cells #[.string (str gone'), .string (str rest'), .bool closed'] 50) = W2 at *
    have k0 := B8.cell 0
    have k1 := B8.cell 1
    have k2 := B8.cell 2
    generalize w1.heap.size = z1 at *
    have H62 := Lib.hid B62
    clear B62
    have H8 := Lib.hid B8
    have H5 := Lib.hid B5
    clear B8 B5
    have hn8 : z1 ≠ z + 1 + 1 := by omega
    have hn5 : z + 1 ≠ z + 1 + 1 := by omega
    go_region_held3 (fun W => W.cell? ⟨z1, 0, none⟩ = some (.string (str gone')) ∧ W.cell? ⟨z1, 1, none⟩ = some (.string (str rest')) ∧ W.cell? ⟨z1, 2, none⟩ = some (.bool closed') ∧ W.cell? ⟨z + 1, 2, none⟩ = some (.string s)) (first | exact ⟨k0, k1, k2, d2⟩ | exact ⟨q0, q1, q2, q5⟩ | exact ⟨(((Q8.out.off hn8).off hn8).off hn8).cell 0, (((Q8.out.off hn8).off hn8).off hn8).cell 1, (((Q8.out.off hn8).off hn8).off hn8).cell 2, (((Q5.out.off hn5).off hn5).off hn5).cell 2⟩)
      (first | (go_at_call 37; refine (HD.out.offer rfl _ (HP2.out.drew)).mono ?_; rintro e w3 ⟨rfl, hp3, ht3⟩; have HP3 := Lib.hid hp3; have HT3 := Lib.hid ht3; have B63 := ht3 (z + 1 + 1) 50 _ (by decide) (by decide) (by decide) H62.out; have f0 := B63.frozen 0; have f1 := B63.frozen 1; have f2 := B63.frozen 2; have g0 := B63.cell 0; have g1 := B63.cell 1; have g2 := B63.cell 2; have H63 := Lib.hid B63; have Q8 := Lib.hid (ht3 z1 50 _ (by decide) (by decide) (by decide) H8.out); have Q5 := Lib.hid (ht3 (z + 1) 45 _ (by decide) (by decide) (by decide) H5.out); have q0 := (ht3 z1 50 _ (by decide) (by decide) (by decide) H8.out).cell 0; have q1 := (ht3 z1 50 _ (by decide) (by decide) (by decide) H8.out).cell 1; have q2 := (ht3 z1 50 _ (by decide) (by decide) (by decide) H8.out).cell 2; have q5 := (ht3 (z + 1) 45 _ (by decide) (by decide) (by decide) H5.out).cell 2; clear hp3 ht3 B63))
    go_wp2
    refine bodyPost_ret (v := .tuple #[.agg #[.string (str gone'), .string (str rest'), .bool closed'], .bool true]) ?h rfl ⟨gone', rest', closed', rfl, ?_, ?_, HL.out⟩
    case h => simp [results, Try.results30, go_sem, g0, g1, g2]
    · exact ((HP3.out.setO H63.out (by decide) (by decide) (by decide) (by have := HZ.out; omega)).setO (H63.out.set_ _ _) (by decide) (by decide) (by decide) (by have := HZ.out; omega)).setO ((H63.out.set_ _ _).set_ _ _) (by decide) (by decide) (by decide) (by have := HZ.out; omega)
    · exact (((HT2.out.trans HT3.out).setN (by have := HZ.out; omega)).setN (by have := HZ.out; omega)).setN (by have := HZ.out; omega)
  · go_enter Try.func30, Try.ntmps30
    go_wp2_with fail
    have B5 := (Blk.new1 w (.cells #[.string (str gone), .string (str rest), .bool closed] 50) 45 #[.int .i64 1, .int .i64 n, .string s]).alloc (.cells #[.string ⟨#[]⟩, .string ⟨#[]⟩, .bool false] 50)
    have B6 := Blk.new2 w (.cells #[.string (str gone), .string (str rest), .bool closed] 50) (.cells #[.int .i64 1, .int .i64 n, .string s] 45) 50 #[.string ⟨#[]⟩, .string ⟨#[]⟩, .bool false]
    refine (HD.out.do_ _).mono ?_
    rintro e w1 ⟨rfl, hk1⟩
    have B51 := B5.keep hk1 fun h => h
    have B61 := B6.keep hk1 fun h => h
    have HP1 := Lib.hid ((((Keeps.refl (fun _ => False) w).alloc _).alloc _).alloc _ |>.then_ hk1)
    have c0 := B51.cell 0
    have c1 := B51.cell 1
    have c2 := B51.cell 2
    have HB6 := Lib.hid B61
    have HB5 := Lib.hid B51
    have hlt6 : w.heap.size + 1 + 1 < w1.heap.size := B61.lt
    have hlt5 : w.heap.size + 1 < w1.heap.size := B51.lt
    have HT1 := Lib.hid (TKeep.pure HP1.out)
    have hzw : w.heap.size ≤ w.heap.size + 1 + 1 := by omega
    clear B5 B6 hk1 B51 B61
    generalize hzz : w.heap.size = z at *
    have HZ := Lib.hid hzz
    clear hzz
    go_wp2
    have B8 : Blk (w1.alloc (.cells #[.string (str gone'), .string (str rest'), .bool closed'] 50)) w1.heap.size 50 #[.string (str gone'), .string (str rest'), .bool closed'] := Blk.new w1 _ _
    have B62 : Blk (w1.alloc (.cells #[.string (str gone'), .string (str rest'), .bool closed'] 50)) (z + 1 + 1) 50 #[.string ⟨#[]⟩, .string ⟨#[]⟩, .bool false] := HB6.out.alloc _
    have HP2 := Lib.hid (HP1.out.alloc (.cells #[.string (str gone'), .string (str rest'), .bool closed'] 50))
    have B5 : Blk (w1.alloc (.cells #[.string (str gone'), .string (str rest'), .bool closed'] 50)) (z + 1) 45 #[.int .i64 1, .int .i64 n, .string s] := HB5.out.alloc _
    have d2 := B5.cell 2
    have HT2 := Lib.hid (HT1.out.alloc (.cells #[.string (str gone'), .string (str rest'), .bool closed'] 50))
    clear c0 c1 c2
    generalize w1.alloc (.cells #[.string (str gone'), .string (str rest'), .bool closed'] 50) = W2 at *
    have k0 := B8.cell 0
    have k1 := B8.cell 1
    have k2 := B8.cell 2
    generalize w1.heap.size = z1 at *
    have H62 := Lib.hid B62
    clear B62
    have H8 := Lib.hid B8
    have H5 := Lib.hid B5
    clear B8 B5
    have hn8 : z1 ≠ z + 1 + 1 := by omega
    have hn5 : z + 1 ≠ z + 1 + 1 := by omega
    go_region_held3 (fun W => W.cell? ⟨z1, 0, none⟩ = some (.string (str gone')) ∧ W.cell? ⟨z1, 1, none⟩ = some (.string (str rest')) ∧ W.cell? ⟨z1, 2, none⟩ = some (.bool closed')) (first | exact ⟨k0, k1, k2⟩ | exact ⟨q0, q1, q2⟩ | exact ⟨(((Q8.out.off hn8).off hn8).off hn8).cell 0, (((Q8.out.off hn8).off hn8).off hn8).cell 1, (((Q8.out.off hn8).off hn8).off hn8).cell 2⟩)
      (first | (go_at_call 38; refine (HD.out.close rfl _ (HP2.out.drew)).mono ?_; rintro e w3 ⟨rfl, hp3, ht3⟩; have HP3 := Lib.hid hp3; have HT3 := Lib.hid ht3; have B63 := ht3 (z + 1 + 1) 50 _ (by decide) (by decide) (by decide) H62.out; have f0 := B63.frozen 0; have f1 := B63.frozen 1; have f2 := B63.frozen 2; have g0 := B63.cell 0; have g1 := B63.cell 1; have g2 := B63.cell 2; have H63 := Lib.hid B63; have Q8 := Lib.hid (ht3 z1 50 _ (by decide) (by decide) (by decide) H8.out); have Q5 := Lib.hid (ht3 (z + 1) 45 _ (by decide) (by decide) (by decide) H5.out); have q0 := (ht3 z1 50 _ (by decide) (by decide) (by decide) H8.out).cell 0; have q1 := (ht3 z1 50 _ (by decide) (by decide) (by decide) H8.out).cell 1; have q2 := (ht3 z1 50 _ (by decide) (by decide) (by decide) H8.out).cell 2; have q5 := (ht3 (z + 1) 45 _ (by decide) (by decide) (by decide) H5.out).cell 2; clear hp3 ht3 B63))
    go_wp2
    refine bodyPost_ret (v := .tuple #[.agg #[.string (str gone'), .string (str rest'), .bool closed'], .bool true]) ?h rfl ⟨gone', rest', closed', rfl, ?_, ?_, HL.out⟩
    case h => simp [results, Try.results30, go_sem, g0, g1, g2]
    · exact ((HP3.out.setO H63.out (by decide) (by decide) (by decide) (by have := HZ.out; omega)).setO (H63.out.set_ _ _) (by decide) (by decide) (by decide) (by have := HZ.out; omega)).setO ((H63.out.set_ _ _).set_ _ _) (by decide) (by decide) (by decide) (by have := HZ.out; omega)
    · exact (((HT2.out.trans HT3.out).setN (by have := HZ.out; omega)).setN (by have := HZ.out; omega)).setN (by have := HZ.out; omega)
  · go_enter Try.func30, Try.ntmps30
    go_wp2_with fail
    have B5 := (Blk.new1 w (.cells #[.string (str gone), .string (str rest), .bool closed] 50) 45 #[.int .i64 2, .int .i64 n, .string s]).alloc (.cells #[.string ⟨#[]⟩, .string ⟨#[]⟩, .bool false] 50)
    have B6 := Blk.new2 w (.cells #[.string (str gone), .string (str rest), .bool closed] 50) (.cells #[.int .i64 2, .int .i64 n, .string s] 45) 50 #[.string ⟨#[]⟩, .string ⟨#[]⟩, .bool false]
    refine (HD.out.do_ _).mono ?_
    rintro e w1 ⟨rfl, hk1⟩
    have B51 := B5.keep hk1 fun h => h
    have B61 := B6.keep hk1 fun h => h
    have HP1 := Lib.hid ((((Keeps.refl (fun _ => False) w).alloc _).alloc _).alloc _ |>.then_ hk1)
    have c0 := B51.cell 0
    have c1 := B51.cell 1
    have c2 := B51.cell 2
    have HB6 := Lib.hid B61
    have HB5 := Lib.hid B51
    have hlt6 : w.heap.size + 1 + 1 < w1.heap.size := B61.lt
    have hlt5 : w.heap.size + 1 < w1.heap.size := B51.lt
    have HT1 := Lib.hid (TKeep.pure HP1.out)
    have hzw : w.heap.size ≤ w.heap.size + 1 + 1 := by omega
    clear B5 B6 hk1 B51 B61
    generalize hzz : w.heap.size = z at *
    have HZ := Lib.hid hzz
    clear hzz
    go_wp2
    have B8 : Blk (w1.alloc (.cells #[.string (str gone'), .string (str rest'), .bool closed'] 50)) w1.heap.size 50 #[.string (str gone'), .string (str rest'), .bool closed'] := Blk.new w1 _ _
    have B62 : Blk (w1.alloc (.cells #[.string (str gone'), .string (str rest'), .bool closed'] 50)) (z + 1 + 1) 50 #[.string ⟨#[]⟩, .string ⟨#[]⟩, .bool false] := HB6.out.alloc _
    have HP2 := Lib.hid (HP1.out.alloc (.cells #[.string (str gone'), .string (str rest'), .bool closed'] 50))
    have B5 : Blk (w1.alloc (.cells #[.string (str gone'), .string (str rest'), .bool closed'] 50)) (z + 1) 45 #[.int .i64 2, .int .i64 n, .string s] := HB5.out.alloc _
    have d2 := B5.cell 2
    have HT2 := Lib.hid (HT1.out.alloc (.cells #[.string (str gone'), .string (str rest'), .bool closed'] 50))
    clear c0 c1 c2
    generalize w1.alloc (.cells #[.string (str gone'), .string (str rest'), .bool closed'] 50) = W2 at *
    have k0 := B8.cell 0
    have k1 := B8.cell 1
    have k2 := B8.cell 2
    generalize w1.heap.size = z1 at *
    have H62 := Lib.hid B62
    clear B62
    have H8 := Lib.hid B8
    have H5 := Lib.hid B5
    clear B8 B5
    have hn8 : z1 ≠ z + 1 + 1 := by omega
    have hn5 : z + 1 ≠ z + 1 + 1 := by omega
    go_region_held3 (fun W => W.cell? ⟨z1, 0, none⟩ = some (.string (str gone')) ∧ W.cell? ⟨z1, 1, none⟩ = some (.string (str rest')) ∧ W.cell? ⟨z1, 2, none⟩ = some (.bool closed')) (first | exact ⟨k0, k1, k2⟩ | exact ⟨q0, q1, q2⟩ | exact ⟨(((Q8.out.off hn8).off hn8).off hn8).cell 0, (((Q8.out.off hn8).off hn8).off hn8).cell 1, (((Q8.out.off hn8).off hn8).off hn8).cell 2⟩)
      (first | (go_at_call 39; refine (HD.out.step rfl _ (HP2.out.drew)).mono ?_; rintro e w3 ⟨rfl, hp3, ht3⟩; have HP3 := Lib.hid hp3; have HT3 := Lib.hid ht3; have B63 := ht3 (z + 1 + 1) 50 _ (by decide) (by decide) (by decide) H62.out; have f0 := B63.frozen 0; have f1 := B63.frozen 1; have f2 := B63.frozen 2; have g0 := B63.cell 0; have g1 := B63.cell 1; have g2 := B63.cell 2; have H63 := Lib.hid B63; have Q8 := Lib.hid (ht3 z1 50 _ (by decide) (by decide) (by decide) H8.out); have Q5 := Lib.hid (ht3 (z + 1) 45 _ (by decide) (by decide) (by decide) H5.out); have q0 := (ht3 z1 50 _ (by decide) (by decide) (by decide) H8.out).cell 0; have q1 := (ht3 z1 50 _ (by decide) (by decide) (by decide) H8.out).cell 1; have q2 := (ht3 z1 50 _ (by decide) (by decide) (by decide) H8.out).cell 2; have q5 := (ht3 (z + 1) 45 _ (by decide) (by decide) (by decide) H5.out).cell 2; clear hp3 ht3 B63))
    go_wp2
    refine bodyPost_ret (v := .tuple #[.agg #[.string (str gone'), .string (str rest'), .bool closed'], .bool true]) ?h rfl ⟨gone', rest', closed', rfl, ?_, ?_, HL.out⟩
    case h => simp [results, Try.results30, go_sem, g0, g1, g2]
    · exact ((HP3.out.setO H63.out (by decide) (by decide) (by decide) (by have := HZ.out; omega)).setO (H63.out.set_ _ _) (by decide) (by decide) (by decide) (by have := HZ.out; omega)).setO ((H63.out.set_ _ _).set_ _ _) (by decide) (by decide) (by decide) (by have := HZ.out; omega)
    · exact (((HT2.out.trans HT3.out).setN (by have := HZ.out; omega)).setN (by have := HZ.out; omega)).setN (by have := HZ.out; omega)
  · go_enter Try.func30, Try.ntmps30
    go_wp2_with fail
    have B5 := (Blk.new1 w (.cells #[.string (str gone), .string (str rest), .bool closed] 50) 45 #[.int .i64 3, .int .i64 n, .string s]).alloc (.cells #[.string ⟨#[]⟩, .string ⟨#[]⟩, .bool false] 50)
    have B6 := Blk.new2 w (.cells #[.string (str gone), .string (str rest), .bool closed] 50) (.cells #[.int .i64 3, .int .i64 n, .string s] 45) 50 #[.string ⟨#[]⟩, .string ⟨#[]⟩, .bool false]
    refine (HD.out.do_ _).mono ?_
    rintro e w1 ⟨rfl, hk1⟩
    have B51 := B5.keep hk1 fun h => h
    have B61 := B6.keep hk1 fun h => h
    have HP1 := Lib.hid ((((Keeps.refl (fun _ => False) w).alloc _).alloc _).alloc _ |>.then_ hk1)
    have c0 := B51.cell 0
    have c1 := B51.cell 1
    have c2 := B51.cell 2
    have HB6 := Lib.hid B61
    have HB5 := Lib.hid B51
    have hlt6 : w.heap.size + 1 + 1 < w1.heap.size := B61.lt
    have hlt5 : w.heap.size + 1 < w1.heap.size := B51.lt
    have HT1 := Lib.hid (TKeep.pure HP1.out)
    have hzw : w.heap.size ≤ w.heap.size + 1 + 1 := by omega
    clear B5 B6 hk1 B51 B61
    generalize hzz : w.heap.size = z at *
    have HZ := Lib.hid hzz
    clear hzz
    go_wp2
    have B8 : Blk (w1.alloc (.cells #[.string (str gone'), .string (str rest'), .bool closed'] 50)) w1.heap.size 50 #[.string (str gone'), .string (str rest'), .bool closed'] := Blk.new w1 _ _
    have B62 : Blk (w1.alloc (.cells #[.string (str gone'), .string (str rest'), .bool closed'] 50)) (z + 1 + 1) 50 #[.string ⟨#[]⟩, .string ⟨#[]⟩, .bool false] := HB6.out.alloc _
    have HP2 := Lib.hid (HP1.out.alloc (.cells #[.string (str gone'), .string (str rest'), .bool closed'] 50))
    have B5 : Blk (w1.alloc (.cells #[.string (str gone'), .string (str rest'), .bool closed'] 50)) (z + 1) 45 #[.int .i64 3, .int .i64 n, .string s] := HB5.out.alloc _
    have d2 := B5.cell 1
    have HT2 := Lib.hid (HT1.out.alloc (.cells #[.string (str gone'), .string (str rest'), .bool closed'] 50))
    clear c0 c1 c2
    generalize w1.alloc (.cells #[.string (str gone'), .string (str rest'), .bool closed'] 50) = W2 at *
    have k0 := B8.cell 0
    have k1 := B8.cell 1
    have k2 := B8.cell 2
    generalize w1.heap.size = z1 at *
    have H62 := Lib.hid B62
    clear B62
    have H8 := Lib.hid B8
    have H5 := Lib.hid B5
    clear B8 B5
    have hn8 : z1 ≠ z + 1 + 1 := by omega
    have hn5 : z + 1 ≠ z + 1 + 1 := by omega
    go_region_held3 (fun W => W.cell? ⟨z1, 0, none⟩ = some (.string (str gone')) ∧ W.cell? ⟨z1, 1, none⟩ = some (.string (str rest')) ∧ W.cell? ⟨z1, 2, none⟩ = some (.bool closed') ∧ W.cell? ⟨z + 1, 1, none⟩ = some (.int .i64 n)) (first | exact ⟨k0, k1, k2, d2⟩ | exact ⟨q0, q1, q2, q5⟩ | exact ⟨(((Q8.out.off hn8).off hn8).off hn8).cell 0, (((Q8.out.off hn8).off hn8).off hn8).cell 1, (((Q8.out.off hn8).off hn8).off hn8).cell 2, (((Q5.out.off hn5).off hn5).off hn5).cell 1⟩)
      (first | (go_at_call 40; refine (HD.out.to_ rfl _ (HP2.out.drew)).mono ?_; rintro e w3 ⟨rfl, hp3, ht3⟩; have HP3 := Lib.hid hp3; have HT3 := Lib.hid ht3; have B63 := ht3 (z + 1 + 1) 50 _ (by decide) (by decide) (by decide) H62.out; have f0 := B63.frozen 0; have f1 := B63.frozen 1; have f2 := B63.frozen 2; have g0 := B63.cell 0; have g1 := B63.cell 1; have g2 := B63.cell 2; have H63 := Lib.hid B63; have Q8 := Lib.hid (ht3 z1 50 _ (by decide) (by decide) (by decide) H8.out); have Q5 := Lib.hid (ht3 (z + 1) 45 _ (by decide) (by decide) (by decide) H5.out); have q0 := (ht3 z1 50 _ (by decide) (by decide) (by decide) H8.out).cell 0; have q1 := (ht3 z1 50 _ (by decide) (by decide) (by decide) H8.out).cell 1; have q2 := (ht3 z1 50 _ (by decide) (by decide) (by decide) H8.out).cell 2; have q5 := (ht3 (z + 1) 45 _ (by decide) (by decide) (by decide) H5.out).cell 1; clear hp3 ht3 B63))
    go_wp2
    refine bodyPost_ret (v := .tuple #[.agg #[.string (str gone'), .string (str rest'), .bool closed'], .bool true]) ?h rfl ⟨gone', rest', closed', rfl, ?_, ?_, HL.out⟩
    case h => simp [results, Try.results30, go_sem, g0, g1, g2]
    · exact ((HP3.out.setO H63.out (by decide) (by decide) (by decide) (by have := HZ.out; omega)).setO (H63.out.set_ _ _) (by decide) (by decide) (by decide) (by have := HZ.out; omega)).setO ((H63.out.set_ _ _).set_ _ _) (by decide) (by decide) (by decide) (by have := HZ.out; omega)
    · exact (((HT2.out.trans HT3.out).setN (by have := HZ.out; omega)).setN (by have := HZ.out; omega)).setN (by have := HZ.out; omega)
end Go.Proofs.Ytacodojaolnhnaa
