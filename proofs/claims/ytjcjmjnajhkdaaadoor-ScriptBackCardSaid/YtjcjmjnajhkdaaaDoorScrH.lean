/- The reference's script of a text; no condition but the size. -/
import Derived.Test.YtjcjmjnajhkdaaaDoorScrGb
import Derived.Test.YtjcjmjnajhkdaaaDoorScrGc
import Derived.Test.YtjcjmjnajhkdaaaDoorScrGd
namespace Go.Proofs.YtjcjmjnajhkdaaaDoor
open Go.RowKit
set_option linter.unusedVariables false
set_option linter.unusedSimpArgs false
set_option maxRecDepth 100000

theorem rline_ (v0 v1 v5 v6 : Value) (s : Sc) (sc cc : Bool) (A : Option Addr) (n c B : Nat) (ws : List (List UInt8)) (w : World) (h : ScR w v0 v1 v5 v6 s) (hs : Sees w B 1 A n (strVs ws)) (hA : ∀ ad, A = some ad → ∃ g, ad = ⟨g, 0, none⟩) (hl : ∀ a ∈ ws, a.length ≤ 100000) (hne : ∀ a ∈ ws, a ≠ [])
    (hp0 : s.pats.length ≤ 100000) (hp1 : s.parts.length ≤ 100000) (hp5 : s.edits.length ≤ 100000) :
    Calls Tryd.prog 22 #[scV v0 v1 v5 v6 s, .slice A n c, .bool sc, .bool cc] w fun e w' => RLine v0 v1 v5 v6 (lineV s sc cc ws) w e w' := by
  obtain ⟨a0, k0, rfl, _⟩ := h.p0
  obtain ⟨a1, k1, rfl, _⟩ := h.p1
  obtain ⟨a5, k5, rfl, _⟩ := h.p5
  obtain ⟨a6, k6, rfl, _⟩ := h.p6
  have hlen := hs.1
  rw [strVs_len, Nat.mul_one] at hlen
  by_cases h2 : n = 2
  · subst h2
    obtain ⟨a, b, rfl⟩ : ∃ a b, ws = [a, b] := by
      match ws, hlen with
      | [a, b], _ => exact ⟨a, b, rfl⟩
    obtain ⟨ad0, wd0, rfl, hw0, c0⟩ := word_at hs (show 0 < 2 by decide)
    obtain ⟨ad1, wd1, he, hw1, c1⟩ := word_at hs (show 1 < 2 by decide)
    cases he
    obtain ⟨g, rfl⟩ := hA ad0 rfl
    rw [add_flat] at c0 c1
    simp at hw0 hw1
    subst hw0; subst hw1
    have hlb := hl b (by simp)
    by_cases e1 : a = wPattern
    · subst e1
      rw [lineV_pat, if_pos rfl]
      exact rline_pat s a0 a1 a5 a6 s.pats.length s.parts.length s.edits.length s.certs.length k0 k1 k5 k6 sc cc g c b w h c0 c1 hlb hp0
    by_cases e2 : a = wPart
    · subst e2
      rw [lineV_part, if_pos rfl]
      exact rline_part s a0 a1 a5 a6 s.pats.length s.parts.length s.edits.length s.certs.length k0 k1 k5 k6 sc cc g c b w h c0 c1 hlb hp1
    by_cases e3 : a = wCerts
    · subst e3
      rw [lineV_certs]
      have := rline_certs s a0 a1 a5 a6 s.pats.length s.parts.length s.edits.length s.certs.length k0 k1 k5 k6 sc cc g c b w h c0 c1 hlb
      simpa using this
    · have hv : lineV s sc cc [a, b] = none := by simp [lineV, e1, e2, e3]
      rw [hv]
      exact rline_none s a0 a1 a5 a6 s.pats.length s.parts.length s.edits.length s.certs.length k0 k1 k5 k6 sc cc (some ⟨g, 0, none⟩) 2 c B [a, b] w h hs hA (.inr (.inl ⟨rfl, by simpa using e1, by simpa using e2, by simpa using e3⟩))
  by_cases h4 : n = 4
  · subst h4
    obtain ⟨a, b, cw, d, rfl⟩ : ∃ a b c d, ws = [a, b, c, d] := by
      match ws, hlen with
      | [a, b, c, d], _ => exact ⟨a, b, c, d, rfl⟩
    obtain ⟨ad0, wd0, rfl, hw0, c0⟩ := word_at hs (show 0 < 4 by decide)
    obtain ⟨ad1, wd1, he, hw1, c1⟩ := word_at hs (show 1 < 4 by decide)
    cases he
    obtain ⟨ad2, wd2, he, hw2, c2⟩ := word_at hs (show 2 < 4 by decide)
    cases he
    obtain ⟨ad3, wd3, he, hw3, c3⟩ := word_at hs (show 3 < 4 by decide)
    cases he
    obtain ⟨g, rfl⟩ := hA ad0 rfl
    rw [add_flat] at c0 c1 c2 c3
    simp at hw0 hw1 hw2 hw3
    subst hw0; subst hw1; subst hw2; subst hw3
    by_cases e1 : a = wScan
    · subst e1
      exact rline_scan s a0 a1 a5 a6 s.pats.length s.parts.length s.edits.length s.certs.length k0 k1 k5 k6 sc cc g c b cw d w h c0 c1 c2 c3 (hl d (by simp)) (hne b (by simp))
    by_cases e2 : a = wSpoil
    · subst e2
      exact rline_spoil s a0 a1 a5 a6 s.pats.length s.parts.length s.certs.length k0 k1 k5 k6 sc cc g c b cw d w h c0 c1 c2 c3 (hl cw (by simp)) (hl d (by simp)) (hne b (by simp)) hp5
    · have hv : lineV s sc cc [a, b, cw, d] = none := by simp [lineV, e1, e2]
      rw [hv]
      exact rline_none s a0 a1 a5 a6 s.pats.length s.parts.length s.edits.length s.certs.length k0 k1 k5 k6 sc cc (some ⟨g, 0, none⟩) 4 c B [a, b, cw, d] w h hs hA (.inr (.inr ⟨rfl, by simpa using e1, by simpa using e2⟩))
  have hv : lineV s sc cc ws = none := by
    match ws, hlen with
    | [], _ => rfl
    | [_], _ => rfl
    | [_, _], hlen => simp at hlen; omega
    | [_, _, _], _ => rfl
    | [_, _, _, _], hlen => simp at hlen; omega
    | _ :: _ :: _ :: _ :: _ :: _, _ => rfl
  rw [hv]
  exact rline_none s a0 a1 a5 a6 s.pats.length s.parts.length s.edits.length s.certs.length k0 k1 k5 k6 sc cc A n c B ws w h hs hA (.inl ⟨h2, h4⟩)

/-- What a line says of scans and of certs, as the reference keeps it. -/
theorem lineV_flags {s s' : Sc} {sc cc sc' cc' : Bool} {ws : List (List UInt8)} (h : lineV s sc cc ws = some (s', sc', cc')) : sc' = (sc || ws.head? == some wScan) ∧ cc' = (cc || ws.head? == some wCerts) := by
  unfold lineV at h
  split at h
  · split at h
    · rename_i a b e
      subst e
      cases hu : unqL b <;> rw [hu] at h <;> simp at h
      obtain ⟨_, rfl, rfl⟩ := h
      constructor <;> simp [wPattern, wScan, wCerts]
    · split at h
      · rename_i a b _ e
        subst e
        cases hu : unqL b <;> rw [hu] at h <;> simp at h
        obtain ⟨_, rfl, rfl⟩ := h
        constructor <;> simp [wPart, wScan, wCerts]
      · split at h
        · rename_i a b _ _ e
          subst e
          split at h
          · simp at h
            obtain ⟨_, rfl, rfl⟩ := h
            constructor <;> simp [wScan, wCerts]
          · cases h
        · cases h
  · split at h
    · rename_i a b c d e
      subst e
      split at h
      · simp at h
        obtain ⟨_, rfl, rfl⟩ := h
        constructor <;> simp [wScan, wCerts]
      · cases h
    · split at h
      · rename_i a b c d _ e
        subst e
        split at h
        · simp at h
          obtain ⟨_, rfl, rfl⟩ := h
          constructor <;> simp [wSpoil, wScan, wCerts]
        · cases h
      · cases h
  · cases h

theorem Sees.setRow {w : World} {B size n g k : Nat} {xs : List Value} (h : Sees w B size (some ⟨g, 0, none⟩) n xs) (hne : g ≠ k) (cs : Array Value) : Sees (w.setRow k cs) B size (some ⟨g, 0, none⟩) n xs :=
  ⟨h.1, fun hn => by
    obtain ⟨ad, e, hb, hc⟩ := h.2 hn
    cases e
    exact ⟨_, rfl, hb, fun j x hx => (World.cell?_of_block (by rw [addBlock]; exact setRow_other _ _ _ _ hne)).trans (hc j x hx)⟩⟩
theorem SeesV.setRow {w : World} {size n k : Nat} {v : Value} {xs : List Value} (h : SeesV w size v n xs) (hne : vBlk v ≠ some k) (cs : Array Value) : SeesV (w.setRow k cs) size v n xs := by
  obtain ⟨A, c, rfl, hs⟩ := h
  refine ⟨A, c, rfl, hs.1, fun hn => ?_⟩
  obtain ⟨ad, e, hb, hc⟩ := hs.2 hn
  subst e
  exact ⟨ad, rfl, by simpa using hb, fun j x hx => (World.cell?_of_block (by rw [addBlock]; exact setRow_other _ _ _ _ (fun e => hne (by simp [vBlk, e])))).trans (hc j x hx)⟩
theorem ScR.setRow {w : World} {v0 v1 v5 v6 : Value} {s : Sc} {F k : Nat} (h : ScR w v0 v1 v5 v6 s) (hF : ScF F v0 v1 v5 v6) (hk : k < F) (cs : Array Value) : ScR (w.setRow k cs) v0 v1 v5 v6 s :=
  ⟨h.p0.setRow (fun e => by have := hF k (.inl e); omega) cs, h.p1.setRow (fun e => by have := hF k (.inr (.inl e)); omega) cs, h.p5.setRow (fun e => by have := hF k (.inr (.inr (.inl e))); omega) cs, h.p6.setRow (fun e => by have := hF k (.inr (.inr (.inr e))); omega) cs⟩

/-- What holds between two lines. -/
structure RI (w : World) (ls : List (List UInt8)) (k : Nat) (s : Sc) (n z : Nat) (sc cc : Bool) (v0 v1 v5 v6 : Value) (A : Option Addr) (W : World) : Prop where
  low : Pure' w W
  big : w.heap.size + 2 ≤ W.heap.size
  b0 : Blk W w.heap.size 35 #[.slice none 0 0, .slice none 0 0, .int .i64 0, .bool false, .int .i64 0, .slice none 0 0, .slice none 0 0]
  b1 : Blk W (w.heap.size + 1) 35 #[v0, v1, .int .i64 s.table, .bool s.skip, .int .i64 s.every, v5, v6]
  sr : ScR W v0 v1 v5 v6 s
  sf : ScF (w.heap.size + 2) v0 v1 v5 v6
  see : Sees W W.heap.size 1 A ls.length (strVs ls)
  go : ∀ post, parseGo sc0 false false 0 0 (ls.take k ++ post) = parseGo s sc cc n k post
  fine : Fine s sc cc n z
  hn : n ≤ 400
theorem RI.pure {w W W' : World} {ls : List (List UInt8)} {k n z : Nat} {s : Sc} {sc cc : Bool} {v0 v1 v5 v6 : Value} {A : Option Addr} (h : RI w ls k s n z sc cc v0 v1 v5 v6 A W) (hk : Pure' W W') : RI w ls k s n z sc cc v0 v1 v5 v6 A W' :=
  ⟨h.low.then_ hk, Nat.le_trans h.big hk.size, h.b0.keep hk (fun hf => hf), h.b1.keep hk (fun hf => hf), h.sr.pure hk, h.sf, (h.see.pure hk (Nat.le_refl _)).more hk.size, h.go, h.fine, h.hn⟩

theorem rparse_end {R : Ending → World → Prop} {a : Act} {H : Nat} {X : World} {cs : Array Value} {x y : Value} (h2 : a.tmps.getD 2 undef = .pointer (some ⟨H, 0, none⟩)) (h3 : a.tmps.getD 3 undef = x) (h4 : a.tmps.getD 4 undef = y) (hd : a.defers = []) (hb : Blk X H 35 cs) (hcs : cs.size = 7)
    (hR : R (.returned (.tuple #[.agg cs, x, y])) X) : bodyPost Tryd.prog Tryd.f9 R .ret a X := by
  refine bodyPost_ret (v := .tuple #[.agg cs, x, y]) ?_ hd hR
  have hp' : a.tmps[2]?.getD undef = .pointer (some ⟨H, 0, none⟩) := by simpa using h2
  have hq' : a.tmps[3]?.getD undef = x := by simpa using h3
  have hr' : a.tmps[4]?.getD undef = y := by simpa using h4
  have hres : (Tryd.f9).results = #[.cell 2 35, .tmp 3, .tmp 4] := rfl
  simp [results, hres, hp', hq', hr', asAddr, run_loadVar_row X H 35 35 cs (0, 0) _ hb Tryd.underlying35 rfl (by rw [hcs]; kernel_rfl), Sem.run_bind, Result.andThen]

theorem lines_next {ls : List (List UInt8)} {k : Nat} {x : List UInt8} (hx : ls[k]? = some x) (post : List (List UInt8)) : ls.take (k + 1) ++ post = ls.take k ++ (x :: post) := by
  rw [List.take_add_one, hx]; simp
theorem RI.skip {w W : World} {ls : List (List UInt8)} {k n z : Nat} {s : Sc} {sc cc : Bool} {v0 v1 v5 v6 : Value} {A : Option Addr} (h : RI w ls k s n z sc cc v0 v1 v5 v6 A W) {x : List UInt8} (hx : ls[k]? = some x) (hd : dead (wordsL x) = true) : RI w ls (k + 1) s n z sc cc v0 v1 v5 v6 A W :=
  ⟨h.low, h.big, h.b0, h.b1, h.sr, h.sf, h.see, fun post => by rw [lines_next hx, h.go, parseGo, if_pos hd], h.fine, h.hn⟩
theorem RI.take {w W W' : World} {ls : List (List UInt8)} {k n z : Nat} {s s' : Sc} {sc cc sc' cc' : Bool} {v0 v1 v5 v6 v0' v1' v5' v6' : Value} {A : Option Addr} (h : RI w ls k s n z sc cc v0 v1 v5 v6 A W) {x : List UInt8} (hx : ls[k]? = some x) (hd : dead (wordsL x) = false) (h4 : n + 1 ≤ 400) (hl : lineV s sc cc (wordsL x) = some (s', sc', cc'))
    (hW : Pure' W W') (hsr : ScR W' v0' v1' v5' v6' s') (hsf : ScF (w.heap.size + 2) v0' v1' v5' v6') (hA : ∀ ad, A = some ad → ∃ g, ad = ⟨g, 0, none⟩ ∧ w.heap.size + 2 ≤ g) :
    RI w ls (k + 1) s' (n + 1) (z + wl (wordsL x)) sc' cc' v0' v1' v5' v6' A (W'.setRow (w.heap.size + 1) #[v0', v1', .int .i64 s'.table, .bool s'.skip, .int .i64 s'.every, v5', v6']) := by
  have hp := h.pure hW
  refine ⟨hp.low.setRow (.inr (by omega)) _, by simpa using hp.big, hp.b0.setRowOff (by omega) _, hp.b1.setRow _, hsr.setRow hsf (by omega) _, hsf, ?_, fun post => by rw [lines_next hx, h.go, parseGo, if_neg (by rw [hd]; decide), if_neg (by omega), hl], fine_line h.fine hl, h4⟩
  have hs := hp.see
  cases A with
  | none => exact ⟨hs.1, fun hn => by obtain ⟨ad, e, _⟩ := hs.2 hn; cases e⟩
  | some ad =>
    obtain ⟨g, rfl, hg⟩ := hA ad rfl
    rw [setRow_size]
    exact hs.setRow (by omega) _
theorem RI.full {w W : World} {t : List UInt8} {k n z : Nat} {s : Sc} {sc cc : Bool} {v0 v1 v5 v6 : Value} {A : Option Addr} (h : RI w (linesL t) k s n z sc cc v0 v1 v5 v6 A W) {x : List UInt8} (hx : (linesL t)[k]? = some x) (hd : dead (wordsL x) = false) (h4 : 400 < n + 1) : parseS t = (sc0, (k : Int) + 1, 13) := by
  have e : (linesL t).take k ++ (x :: (linesL t).drop (k + 1)) = linesL t := by
    rw [← lines_next hx, List.take_append_drop]
  unfold parseS
  rw [← e, h.go, parseGo, if_neg (by rw [hd]; decide), if_pos h4]
theorem RI.wrong {w W : World} {t : List UInt8} {k n z : Nat} {s : Sc} {sc cc : Bool} {v0 v1 v5 v6 : Value} {A : Option Addr} (h : RI w (linesL t) k s n z sc cc v0 v1 v5 v6 A W) {x : List UInt8} (hx : (linesL t)[k]? = some x) (hd : dead (wordsL x) = false) (h4 : n + 1 ≤ 400) (hl : lineV s sc cc (wordsL x) = none) : parseS t = (sc0, (k : Int) + 1, 3) := by
  have e : (linesL t).take k ++ (x :: (linesL t).drop (k + 1)) = linesL t := by
    rw [← lines_next hx, List.take_append_drop]
  unfold parseS
  rw [← e, h.go, parseGo, if_neg (by rw [hd]; decide), if_neg (by omega), hl]
theorem RI.done {w W : World} {t : List UInt8} {n z : Nat} {s : Sc} {sc cc : Bool} {v0 v1 v5 v6 : Value} {A : Option Addr} (h : RI w (linesL t) (linesL t).length s n z sc cc v0 v1 v5 v6 A W) : parseS t = if sc = true then (s, 0, 0) else (sc0, 0, 14) := by
  have := h.go []
  rw [List.append_nil, List.take_length] at this
  unfold parseS
  rw [this, parseGo]

set_option maxHeartbeats 2000000 in
theorem rparseS_ (t : List UInt8) (w : World) (hs : t.length ≤ 100000) : Calls Tryd.prog 9 #[.string ⟨t.toArray⟩] w fun e w' => ParsePost t w e w' := by
  have HONE : ∀ (a0 a1 a5 a6 : Option Addr) (n0 n1 n5 n6 k0 k1 k5 k6 : Nat) (x y : Int) (b : Bool), (#[.slice a0 n0 k0, .slice a1 n1 k1, .int .i64 x, .bool b, .int .i64 y, .slice a5 n5 k5, .slice a6 n6 k6] : Array Value).all (·.oneCell') = true := by
    intros; simp [Value.oneCell']
  have HONE := Lib.hid HONE
  have hsum := lines_sum t
  obtain ⟨hw1, hw2⟩ := wl_ge (linesL t)
  obtain ⟨N, hN⟩ : ∃ N, (linesL t).length = N := ⟨_, rfl⟩
  have hNb : N ≤ 100001 := by omega
  have HXL := Lib.hid (fun (x : List UInt8) (hx : x ∈ linesL t) => show x.length ≤ 100000 by have := hw2 x hx; omega)
  have hsp := fun w => rsplit_ t w (by omega)
  unfold LinesPost at hsp
  rw [hN] at hsp
  have HSP := Lib.hid hsp
  have HN := Lib.hid hN
  have HV := Lib.hid (RV.start w (.slice none 0 0) (.slice none 0 0) (.slice none 0 0) (.slice none 0 0) sc0)
  clear hsum hw1 hw2 hsp hN
  go_enter Tryd.func9, Tryd.ntmps9
  go_wp2_with (go_at_call 20; refine (HSP.out _).mono ?_; rintro e w1 ⟨A, c, rfl, hsee, hA, hk⟩; have HI0 := Lib.hid (show RI w (linesL t) 0 sc0 0 0 false false (.slice none 0 0) (.slice none 0 0) (.slice none 0 0) (.slice none 0 0) A w1 from ⟨HV.out.low.then_ hk, by have := hk.size; simp at this; omega, HV.out.b0.keep hk (fun hf => hf), HV.out.b1.keep hk (fun hf => hf), ScR.nil _, (fun k hk => by simp [vBlk] at hk), by rw [HN.out]; exact hsee, fun post => rfl, fine0, by omega⟩); have HA := Lib.hid (show ∀ ad, A = some ad → ∃ g, ad = ⟨g, 0, none⟩ ∧ w.heap.size + 2 ≤ g from fun ad h => by obtain ⟨g, h1, h2⟩ := hA ad h; exact ⟨g, h1, by simpa using h2⟩); clear hsee hA hk HV HSP)
  go_loopw [7, 8, 9, 10] (fun v7 v8 v9 v10 wr => ∃ (k n z : Nat) (s : Sc) (sc cc : Bool) (v0 v1 v5 v6 : Value), k ≤ N ∧ v10 = .int .i64 k ∧ v7 = .int .i64 n ∧ v8 = .bool sc ∧ v9 = .bool cc ∧ RI w (linesL t) k s n z sc cc v0 v1 v5 v6 A wr) (fun _ _ _ v10 _ => N - (intOf v10).toNat)
  case atStart => exact ⟨0, 0, 0, sc0, false, false, _, _, _, _, Nat.zero_le _, rfl, rfl, rfl, rfl, HI0.out⟩
  case round =>
    obtain ⟨k, n, z, s, sc, cc, v0, v1, v5, v6, hk, rfl, rfl, rfl, rfl, hi⟩ := hrel
    obtain ⟨a0, k0, rfl, _⟩ := hi.sr.p0
    obtain ⟨a1, k1, rfl, _⟩ := hi.sr.p1
    obtain ⟨a5, k5, rfl, _⟩ := hi.sr.p5
    obtain ⟨a6, k6, rfl, _⟩ := hi.sr.p6
    have HIn := Lib.hid hi
    clear hi
    have hn4 := HIn.out.hn
    by_cases hlt : k < N
    · obtain ⟨ad, x, rfl, hx, cx⟩ := word_at HIn.out.see (show k < (linesL t).length by rw [HN.out]; exact hlt)
      have HX := Lib.hid hx
      have hxl := HXL.out x (List.mem_of_getElem? hx)
      have HWd := Lib.hid (fun w => rwords2_ x w (by omega))
      clear hx
      go_wp2_with fail
      refine (HWd.out _).mono ?_
      rintro e w2 ⟨A2, c2, rfl, hs2, hA2, hk2⟩
      have HI2 := Lib.hid (HIn.out.pure hk2)
      have HA2 := Lib.hid hA2
      clear hA2 hk2 cx HWd
      obtain ⟨nw, hnw⟩ : ∃ nw, (wordsL x).length = nw := ⟨_, rfl⟩
      rw [hnw] at hs2 ⊢
      rcases hws : wordsL x with _ | ⟨a, r⟩
      · rw [hws] at hs2 hnw
        obtain rfl : nw = 0 := by simpa using hnw.symm
        have HS := Lib.hid (HI2.out.skip HX.out (by rw [hws]; rfl))
        clear hs2 hnw hws
        go_wp2
        go_roundw
        case rel => exact ⟨k + 1, n, z, s, sc, cc, _, _, _, _, by omega, by go_num, rfl, rfl, rfl, HS.out⟩
        case measure => simp [intOf]; omega
      · have hane : a ≠ [] := words_ne x a (by rw [hws]; simp)
        obtain ⟨ch, a', rfl⟩ : ∃ ch a', a = ch :: a' := by cases a with | nil => exact absurd rfl hane | cons c l => exact ⟨c, l, rfl⟩
        obtain ⟨ad2, wd, rfl, hwd, cw⟩ := word_at hs2 (show 0 < nw by rw [hws] at hnw; simp at hnw; omega)
        rw [hws] at hwd
        simp at hwd
        subst hwd
        obtain ⟨gw, rfl, hgw⟩ := HA2.out ad2 rfl
        rw [add_flat] at cw
        have hn1 : 1 ≤ nw := by rw [hws] at hnw; simp at hnw; omega
        have hn2 : nw ≤ 1000000 := by have := (wordsF_len x []).1; unfold wordsL at hnw; omega
        have hb : ∀ h', (⟨(ch :: a').toArray⟩ : ByteArray)[0]'h' = ch := fun _ => rfl
        have HS2 := Lib.hid hs2
        have HWS := Lib.hid hws
        clear hs2 hws hnw hane
        by_cases hd : ch = 35
        · have q1 : ((ch.toNat : Int) == 35) = true := by rw [hd]; rfl
          have HS := Lib.hid (HI2.out.skip HX.out (by rw [HWS.out, hd]; rfl))
          clear hd
          go_wp2
          go_roundw
          case rel => exact ⟨k + 1, n, z, s, sc, cc, _, _, _, _, by omega, by go_num, rfl, rfl, rfl, HS.out⟩
          case measure => simp [intOf]; omega
        · have q1 : ((ch.toNat : Int) == 35) = false := by
            have : ch.toNat ≠ 35 := fun h => hd (UInt8.toNat_inj.1 h)
            simp; omega
          have HD := Lib.hid (show dead (wordsL x) = false by rw [HWS.out]; simp [dead, hd])
          clear hd
          have hwn : wrap64 ((n : Int) + 1) = (n : Int) + 1 := by unfold wrap64; omega
          have hwk : wrap64 ((k : Int) + 1) = (k : Int) + 1 := by unfold wrap64; omega
          have lk : k < 9223372036854775807 := by omega
          by_cases hfull : 400 < n + 1
          · have HW := Lib.hid (HI2.out.full HX.out HD.out hfull)
            have hf4 : 400 < (n : Int) + 1 := by omega
            have O0 := Lib.hid HI2.out.b0
            have l0 := HI2.out.b0.lt
            go_wp2_with ((with_reducible refine at_op ⟨none, .store 35 (.tmp 2) (.tmp 46), _, _, _, _⟩ ?_); refine wpList_store_row rfl 35 (.tmp 2) (.tmp 46) rfl w.heap.size #[.slice none 0 0, .slice none 0 0, .int .i64 0, .bool false, .int .i64 0, .slice none 0 0, .slice none 0 0] rfl rfl 35 _ O0.out (by kernel_rfl) rfl (HONE.out none none none none 0 0 0 0 0 0 0 0 0 0 false) ?_)
            refine rparse_end (H := w.heap.size) rfl rfl rfl rfl (O0.out.setRow #[.slice none 0 0, .slice none 0 0, .int .i64 0, .bool false, .int .i64 0, .slice none 0 0, .slice none 0 0]) rfl ?_
            unfold ParsePost
            rw [HW.out]
            exact ⟨_, _, _, _, rfl, ScR.nil _, HI2.out.low.setRow (.inr (Nat.le_refl _)) _⟩
          · have hf4 : ¬ (400 < (n : Int) + 1) := by omega
            have hfi := HI2.out.fine.count
            have hlw : ∀ a ∈ wordsL x, a.length ≤ 100000 := fun a ha => by have := (wordsF_len x []).2 a ha; simp at this; omega
            have hline := rline_ (.slice a0 s.pats.length k0) (.slice a1 s.parts.length k1) (.slice a5 s.edits.length k5) (.slice a6 s.certs.length k6) s sc cc (some ⟨gw, 0, none⟩) nw c2 w2.heap.size (wordsL x) w2 HI2.out.sr HS2.out (fun ad h => by cases h; exact ⟨gw, rfl⟩) hlw (words_ne x) (by omega) (by omega) (by omega)
            unfold scV at hline
            have HL := Lib.hid hline
            have B1 := Lib.hid HI2.out.b1
            clear hline hlw hfi
            cases ho : lineV s sc cc (wordsL x) with
            | none =>
              have HW := Lib.hid (HI2.out.wrong HX.out HD.out (by omega) ho)
              rw [ho] at HL
              clear ho
              go_wp2_with (first
                | ((with_reducible refine at_op ⟨some 50, _, _, _, _, _⟩ ?_); refine wpList_load_row rfl 35 (.tmp 5) rfl (w.heap.size + 1) rfl 35 #[.slice a0 s.pats.length k0, .slice a1 s.parts.length k1, .int .i64 s.table, .bool s.skip, .int .i64 s.every, .slice a5 s.edits.length k5, .slice a6 s.certs.length k6] (0, 0) _ B1.out Tryd.underlying35 rfl (by kernel_rfl) ?_)
                | (go_at_call 22; refine HL.out.mono ?_; rintro e w4 ⟨hk4, b0, m0, j0, b1, m1, j1, b5, m5, j5, b6, m6, j6, s', rfl, hres⟩; have HK4 := Lib.hid hk4; have O4 := Lib.hid (fun o => (HI2.out.b0.keep hk4 (fun hf => hf)).alloc o); unfold scV; clear hres hk4 HL)
                | ((with_reducible refine at_op ⟨none, .store 35 (.tmp 2) (.tmp 59), _, _, _, _⟩ ?_); refine wpList_store_row rfl 35 (.tmp 2) (.tmp 59) rfl w.heap.size #[.slice none 0 0, .slice none 0 0, .int .i64 0, .bool false, .int .i64 0, .slice none 0 0, .slice none 0 0] rfl rfl 35 _ (O4.out _) (by kernel_rfl) rfl (HONE.out none none none none 0 0 0 0 0 0 0 0 0 0 false) ?_))
              refine rparse_end (H := w.heap.size) rfl rfl rfl rfl ((O4.out _).setRow #[.slice none 0 0, .slice none 0 0, .int .i64 0, .bool false, .int .i64 0, .slice none 0 0, .slice none 0 0]) rfl ?_
              unfold ParsePost
              rw [HW.out]
              exact ⟨_, _, _, _, rfl, ScR.nil _, ((HI2.out.low.then_ HK4.out).alloc _).setRow (.inr (Nat.le_refl _)) _⟩
            | some q =>
              obtain ⟨s1, sc', cc'⟩ := q
              rw [ho] at HL
              obtain ⟨bs, hbs⟩ : ∃ bs : Bool, ((ch :: a') == [115, 99, 97, 110]) = bs := ⟨_, rfl⟩
              obtain ⟨bc, hbc⟩ : ∃ bc : Bool, ((ch :: a') == [99, 101, 114, 116, 115]) = bc := ⟨_, rfl⟩
              have hfl := lineV_flags ho
              rw [HWS.out] at hfl
              have hfl2 : sc' = (sc || bs) ∧ cc' = (cc || bc) := by
                rw [hfl.1, hfl.2, ← hbs, ← hbc]
                exact ⟨by simp [wScan, Bool.beq_eq_decide_eq], by simp [wCerts, Bool.beq_eq_decide_eq]⟩
              obtain ⟨rfl, rfl⟩ := hfl2
              have HO := Lib.hid ho
              clear ho hfl
              have qbs := hbs
              have qbc := hbc
              clear hbs hbc
              cases sc <;> cases cc
              all_goals
                go_wp2_with (first
                  | ((with_reducible refine at_op ⟨some 50, _, _, _, _, _⟩ ?_); refine wpList_load_row rfl 35 (.tmp 5) rfl (w.heap.size + 1) rfl 35 #[.slice a0 s.pats.length k0, .slice a1 s.parts.length k1, .int .i64 s.table, .bool s.skip, .int .i64 s.every, .slice a5 s.edits.length k5, .slice a6 s.certs.length k6] (0, 0) _ B1.out Tryd.underlying35 rfl (by kernel_rfl) ?_)
                  | (go_at_call 22; refine HL.out.mono ?_; rintro e w4 ⟨hk4, b0, m0, j0, b1, m1, j1, b5, m5, j5, b6, m6, j6, s', rfl, hres⟩; have HRES := Lib.hid hres; have HK4 := Lib.hid hk4; have O1 := Lib.hid (fun o => (HI2.out.b1.keep hk4 (fun hf => hf)).alloc o); have cw4 := keepc cw hk4; have lgw := block_lt_of_cell cw4; unfold scV; clear hres hk4 HL cw)
                  | ((with_reducible refine at_op ⟨some 76, _, _, _, _, _⟩ ?_); refine wpList_load_row rfl 35 (.tmp 12) rfl w4.heap.size rfl 35 #[.slice b0 m0 j0, .slice b1 m1 j1, .int .i64 s'.table, .bool s'.skip, .int .i64 s'.every, .slice b5 m5 j5, .slice b6 m6 j6] (0, 0) _ (Blk.new w4 35 #[.slice b0 m0 j0, .slice b1 m1 j1, .int .i64 s'.table, .bool s'.skip, .int .i64 s'.every, .slice b5 m5 j5, .slice b6 m6 j6]) Tryd.underlying35 rfl (by kernel_rfl) ?_)
                  | ((with_reducible refine at_op ⟨none, .store 35 (.tmp 5) (.tmp 76), _, _, _, _⟩ ?_); refine wpList_store_row rfl 35 (.tmp 5) (.tmp 76) rfl (w.heap.size + 1) #[.slice b0 m0 j0, .slice b1 m1 j1, .int .i64 s'.table, .bool s'.skip, .int .i64 s'.every, .slice b5 m5 j5, .slice b6 m6 j6] rfl rfl 35 _ (O1.out _) (by kernel_rfl) rfl (HONE.out _ _ _ _ _ _ _ _ _ _ _ _ _ _ _) ?_))
                obtain ⟨hr1, hr2, hr3⟩ := HRES.out _ rfl
                simp only at hr1
                subst hr1
                have HT := Lib.hid (HI2.out.take (W' := w4.alloc (.cells #[.slice b0 m0 j0, .slice b1 m1 j1, .int .i64 s1.table, .bool s1.skip, .int .i64 s1.every, .slice b5 m5 j5, .slice b6 m6 j6] 35)) HX.out HD.out (by omega) HO.out (HK4.out.alloc _) (hr2.pure ((Keeps.refl _ w4).alloc _)) (hr3 _ HI2.out.big HI2.out.sf) HA.out)
                go_roundw
                case rel => exact ⟨k + 1, n + 1, _, s1, _, _, _, _, _, _, by omega, by go_num, by go_num, rfl, rfl, HT.out⟩
                case measure => simp [intOf]; omega
    · obtain rfl : k = N := by omega
      have HDn := Lib.hid ((show RI w (linesL t) (linesL t).length s n z sc cc _ _ _ _ A wr by rw [HN.out]; exact HIn.out).done)
      have B0 := Lib.hid HIn.out.b0
      have B1 := Lib.hid HIn.out.b1
      cases sc with
      | false =>
        have ht : parseS t = (sc0, 0, 14) := HDn.out
        have HT := Lib.hid ht
        clear ht
        go_wp2_with ((with_reducible refine at_op ⟨none, .store 35 (.tmp 2) (.tmp 79), _, _, _, _⟩ ?_); refine wpList_store_row rfl 35 (.tmp 2) (.tmp 79) rfl w.heap.size #[.slice none 0 0, .slice none 0 0, .int .i64 0, .bool false, .int .i64 0, .slice none 0 0, .slice none 0 0] rfl rfl 35 _ B0.out (by kernel_rfl) rfl (HONE.out none none none none 0 0 0 0 0 0 0 0 0 0 false) ?_)
        refine rparse_end (H := w.heap.size) rfl rfl rfl rfl (B0.out.setRow #[.slice none 0 0, .slice none 0 0, .int .i64 0, .bool false, .int .i64 0, .slice none 0 0, .slice none 0 0]) rfl ?_
        unfold ParsePost
        rw [HT.out]
        exact ⟨_, _, _, _, rfl, ScR.nil _, HIn.out.low.setRow (.inr (Nat.le_refl _)) _⟩
      | true =>
        have ht : parseS t = (s, 0, 0) := HDn.out
        have HT := Lib.hid ht
        clear ht
        go_wp2_with (first
          | ((with_reducible refine at_op ⟨some 80, _, _, _, _, _⟩ ?_); refine wpList_load_row rfl 35 (.tmp 5) rfl (w.heap.size + 1) rfl 35 #[.slice a0 s.pats.length k0, .slice a1 s.parts.length k1, .int .i64 s.table, .bool s.skip, .int .i64 s.every, .slice a5 s.edits.length k5, .slice a6 s.certs.length k6] (0, 0) _ B1.out Tryd.underlying35 rfl (by kernel_rfl) ?_)
          | ((with_reducible refine at_op ⟨none, .store 35 (.tmp 2) (.tmp 80), _, _, _, _⟩ ?_); refine wpList_store_row rfl 35 (.tmp 2) (.tmp 80) rfl w.heap.size #[.slice a0 s.pats.length k0, .slice a1 s.parts.length k1, .int .i64 s.table, .bool s.skip, .int .i64 s.every, .slice a5 s.edits.length k5, .slice a6 s.certs.length k6] rfl rfl 35 _ B0.out (by kernel_rfl) rfl (HONE.out _ _ _ _ _ _ _ _ _ _ _ _ _ _ _) ?_))
        refine rparse_end (H := w.heap.size) rfl rfl rfl rfl (B0.out.setRow #[.slice a0 s.pats.length k0, .slice a1 s.parts.length k1, .int .i64 s.table, .bool s.skip, .int .i64 s.every, .slice a5 s.edits.length k5, .slice a6 s.certs.length k6]) rfl ?_
        unfold ParsePost
        rw [HT.out]
        exact ⟨_, _, _, _, rfl, HIn.out.sr.setRow HIn.out.sf (by omega) _, HIn.out.low.setRow (.inr (Nat.le_refl _)) _⟩

end Go.Proofs.YtjcjmjnajhkdaaaDoor
