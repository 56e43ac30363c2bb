/- How a script's reader takes a line; no condition but the sizes. -/
import Derived.Test.YtjcjmjnajhkdaaaDoorScrC
namespace Go.Proofs.YtjcjmjnajhkdaaaDoor
open Go.RowKit
set_option linter.unusedVariables false
set_option linter.unusedSimpArgs false
set_option maxRecDepth 100000

theorem unq_parts (b : List UInt8) : ∃ (x : List UInt8) (e : Int), unqV b = .tuple #[.string ⟨x.toArray⟩, .int .i64 e] ∧ ((e = 0 ∧ unqL b = some x) ∨ (e ≠ 0 ∧ unqL b = none)) := by
  unfold unqV
  cases h : unqL b with
  | some x => exact ⟨x, 0, rfl, .inl ⟨rfl, rfl⟩⟩
  | none => exact ⟨[], 3, rfl, .inr ⟨by decide, rfl⟩⟩

theorem lineV_pat (s : Sc) (sc cc : Bool) (b : List UInt8) (rest : List (List UInt8)) : lineV s sc cc (wPattern :: b :: rest) = if rest = [] then (unqL b).map (fun x => ({ s with pats := s.pats ++ [x] }, sc, cc)) else none := by
  match rest with
  | [] => simp [lineV]
  | [_] => simp [lineV]
  | [c, d] => simp [lineV, wPattern, wScan, wSpoil]
  | _ :: _ :: _ :: _ => simp [lineV]
theorem lineV_part (s : Sc) (sc cc : Bool) (b : List UInt8) (rest : List (List UInt8)) : lineV s sc cc (wPart :: b :: rest) = if rest = [] then (unqL b).map (fun x => ({ s with parts := s.parts ++ [x] }, sc, cc)) else none := by
  match rest with
  | [] => simp [lineV, wPart, wPattern]
  | [_] => simp [lineV]
  | [c, d] => simp [lineV, wPart, wScan, wSpoil]
  | _ :: _ :: _ :: _ => simp [lineV]
theorem lineV_certs (s : Sc) (sc cc : Bool) (b : List UInt8) (rest : List (List UInt8)) : lineV s sc cc (wCerts :: b :: rest) = if rest = [] ∧ (rowV b 0 1048576).2 = 0 ∧ 1 ≤ (rowV b 0 1048576).1.length ∧ (rowV b 0 1048576).1.length ≤ 400 ∧ cc = false then some ({ s with certs := (rowV b 0 1048576).1 }, sc, true) else none := by
  match rest with
  | [] => simp [lineV, wCerts, wPattern, wPart]
  | [_] => simp [lineV]
  | [c, d] => simp [lineV, wCerts, wScan, wSpoil]
  | _ :: _ :: _ :: _ => simp [lineV]
theorem lineV_scan (s : Sc) (x : Int) (hx : x = 0 ∨ x = 1) (cc : Bool) (r : List (List UInt8)) : lineV s (decide (x = 1)) cc (wScan :: r) = (scanV s x (wScan :: r)).map (fun s' => (s', true, cc)) := by
  have hc : (decide (x = 1) = false) ↔ x = 0 := by rcases hx with rfl | rfl <;> simp
  match r with
  | [] => simp [lineV, scanV]
  | [_] => simp [lineV, scanV, wScan, wPattern, wPart, wCerts]
  | [_, _] => simp [lineV, scanV]
  | [b, c, d] =>
    unfold lineV scanV
    dsimp only
    rw [if_pos rfl]
    by_cases hq : (parseV d 1 4611686018427387903).2 = 0 ∧ 0 < idx tabW b ∧ (c = wSkip ∨ c = wStep) ∧ x = 0
    · rw [if_pos ⟨hq.1, hq.2.1, hq.2.2.1, hc.2 hq.2.2.2⟩, if_pos hq]; rfl
    · rw [if_neg (fun h => hq ⟨h.1, h.2.1, h.2.2.1, hc.1 h.2.2.2⟩), if_neg hq]; rfl
  | _ :: _ :: _ :: _ :: _ => simp [lineV, scanV]
theorem lineV_spoil (s : Sc) (sc cc : Bool) (r : List (List UInt8)) : lineV s sc cc (wSpoil :: r) = (spoilV s (wSpoil :: r)).map (fun s' => (s', sc, cc)) := by
  match r with
  | [] => simp [lineV, spoilV]
  | [_] => simp [lineV, spoilV, wSpoil, wPattern, wPart, wCerts]
  | [_, _] => simp [lineV, spoilV]
  | [b, c, d] =>
    unfold lineV spoilV
    dsimp only
    rw [if_neg (by decide), if_pos rfl]
    split <;> rfl
  | _ :: _ :: _ :: _ :: _ => simp [lineV, spoilV]
theorem lineV_none (s : Sc) (sc cc : Bool) (a : List UInt8) (r : List (List UInt8)) (h1 : a ≠ wPattern) (h2 : a ≠ wPart) (h3 : a ≠ wScan) (h4 : a ≠ wSpoil) (h5 : a ≠ wCerts) : lineV s sc cc (a :: r) = none := by
  match r with
  | [] => simp [lineV]
  | [_] => simp [lineV, h1, h2, h5]
  | [_, _] => simp [lineV]
  | [b, c, d] => simp [lineV, h3, h4]
  | _ :: _ :: _ :: _ :: _ => simp [lineV]

/-- True, and what holds then; or false. -/
def LP {α : Type} (S : Nat → Prop) (o : Option α) (G : α → World → Prop) (w : World) (e : Ending) (w' : World) : Prop :=
  Keeps S w w' ∧ match o with | some z => e = .returned (.bool true) ∧ G z w' | none => e = .returned (.bool false)

theorem Rd.keep {w w' : World} {F b : Nat} {v0 v1 v5 v6 : Value} {s : Sc} {x y : Int} (h : Rd w F b v0 v1 v5 v6 s x y) (hk : Pure' w w') : Rd w' F b v0 v1 v5 v6 s x y :=
  ⟨h.blk.keep hk (fun hf => hf), h.r0.keep hk (fun _ _ hf => hf), h.r1.keep hk (fun _ _ hf => hf), h.r5.keep hk (fun _ _ hf => hf), h.r6.keep hk (fun _ _ hf => hf), h.f0, h.f1, h.f5, h.f6, h.apart, h.lt⟩
theorem Rd.kinds {w : World} {F b : Nat} {v0 v1 v5 v6 : Value} {s : Sc} {x y : Int} (h : Rd w F b v0 v1 v5 v6 s x y) : v0.ownBlock ≠ some b ∧ v1.ownBlock ≠ some b ∧ v5.ownBlock ≠ some b ∧ v6.ownBlock ≠ some b := by
  have := h.lt
  exact ⟨fun e => by have := h.f0 _ e; omega, fun e => by have := h.f1 _ e; omega, fun e => by have := h.f5 _ e; omega, fun e => by have := h.f6 _ e; omega⟩
theorem rows_differ {w : World} {e e' : TypeId} {z z' n n' : Nat} {v v' : Value} {xs xs' : List Value} (h : Row w e z v n xs) (h' : Row w e' z' v' n' xs') (hne : e ≠ e') : ∀ k, v.ownBlock = some k → v'.ownBlock ≠ some k := by
  intro k hk hk'
  rcases h.2 with ⟨rfl, _⟩ | ⟨g, cap, cur, rfl, _, hh, _⟩
  · simp [Value.ownBlock] at hk
  · rcases h'.2 with ⟨rfl, _⟩ | ⟨g', cap', cur', rfl, _, hh', _⟩
    · simp [Value.ownBlock] at hk'
    · have e1 : g = k := by simpa [Value.ownBlock] using hk
      have e2 : g' = k := by simpa [Value.ownBlock] using hk'
      subst e1; subst e2
      exact Blk.differ (t := e) (t' := e') hh hh' hne rfl

set_option maxHeartbeats 4000000 in
theorem line_pat (F b : Nat) (v0 v1 v5 v6 : Value) (s : Sc) (x y : Int) (g n c : Nat) (a2 : List UInt8) (w : World) (h : Rd w F b v0 v1 v5 v6 s x y) (hF : F ≤ w.heap.size) (h2 : 2 ≤ n) (hn : n ≤ 1000000)
    (c0 : w.cell? ⟨g, 0, none⟩ = some (.string ⟨#[112, 97, 116, 116, 101, 114, 110]⟩)) (c1 : w.cell? ⟨g, 1, none⟩ = some (.string ⟨a2.toArray⟩)) (hl : a2.length ≤ 100000) (hp : s.pats.length ≤ 100000) :
    Calls Tryd.prog 19 #[.pointer (some ⟨b, 0, none⟩), .slice (some ⟨g, 0, none⟩) n c] w fun e w' => LP (fun k => k = b ∨ v0.ownBlock = some k) (if n = 2 then unqL a2 else none) (fun z w' => ∃ v', Rd w' F b v' v1 v5 v6 { s with pats := s.pats ++ [z] } x y) w e w' := by
  obtain ⟨i0, hi, hz0, hz1, hz2⟩ := info_parts strInfo
  obtain ⟨bq, eq, hq, hqq⟩ := unq_parts a2
  have hu := fun w => unquote_ a2 w hl
  rw [hq] at hu
  have HU := Lib.hid hu
  obtain ⟨o, ho⟩ : ∃ o, (if n = 2 then unqL a2 else none) = o := ⟨_, rfl⟩
  have HQ := Lib.hid (show (n = 2 ∧ eq = 0 ∧ o = some bq) ∨ (¬ (eq = 0 ∧ n = 2) ∧ o = none) by
    subst ho
    by_cases h22 : n = 2
    · rw [if_pos h22]
      rcases hqq with ⟨h1, h2⟩ | ⟨h1, h2⟩
      · exact .inl ⟨h22, h1, h2⟩
      · exact .inr ⟨fun h => h1 h.1, h2⟩
    · rw [if_neg h22]; exact .inr ⟨fun h => h22 h.2, rfl⟩)
  rw [ho]
  clear ho
  have HR := Lib.hid h
  have HF := Lib.hid hF
  have HC := Lib.hid (fun W (hW : Pure' w W) => keepc c0 hW)
  have hlt := h.blk.lt
  clear hu hq hqq h hF
  go_enter Tryd.func19, Tryd.ntmps19
  go_wp2_with (first
    | (go_at_call 42; refine (HU.out _).mono ?_; rintro e w1 ⟨rfl, hk⟩; have HK1 := Lib.hid hk; have HR1 := Lib.hid (HR.out.keep hk); have d0 := HC.out w1 hk; have x0 := HR1.out.blk.cell 0; have y0 := HR1.out.blk.frozen 0; clear hk c0 c1)
    | (at_builtin; refine wpl_append _ rfl (.tmp 34) (.tmp 36) 23 rfl 9 i0 (.string ByteArray.empty) 1 16 Tryd.underlying23 hi hz0 hz1 hz2 rfl (by decide) v0 s.pats.length (strVs s.pats) rfl ?own ⟨w1.heap.size, 0, none⟩ 1 1 [.string ⟨bq.toArray⟩] rfl rfl ?news ?one (by decide) ?b1 ?b2 ?k))
  case own => exact Row.alloc HR1.out.r0 _
  case news => exact news1
  case one => exact strV_one _
  case b1 => unfold maxLen; omega
  case b2 => omega
  case k =>
    intro g6 cap6 w6 hr6 hg6 hw6 hlt6
    have hk6 := ((HK1.out.mono (S' := fun k => k = b ∨ v0.ownBlock = some k) (fun _ _ hf => hf.elim)).alloc (.cells #[.string ⟨bq.toArray⟩] 9)).grown hg6 (fun k hk => .inl (.inr hk))
    have hkk := HR1.out.kinds
    have hb6 := (HR1.out.blk.alloc (.cells #[.string ⟨bq.toArray⟩] 9)).grown hg6 hkk.1
    have hsz1 := HK1.out.size
    have hF := HF.out
    have hw6' : v0.ownBlock = some g6 ∨ w1.heap.size ≤ g6 := hw6.imp id (fun e => by rw [e]; simp)
    have hgF : F ≤ g6 := by
      rcases hw6' with h | h
      · exact HR1.out.f0 _ h
      · omega
    have hne6 : g6 ≠ b := by have := HR1.out.lt; omega
    have ks : Keeps (fun k => v0.ownBlock = some k) w1 w6 := ((Keeps.refl _ w1).alloc (.cells #[.string ⟨bq.toArray⟩] 9)).grown hg6 (fun k hk => .inl hk)
    have HK6 := Lib.hid hk6
    have HD : Hid (∀ v' : Value, v' = .slice (some ⟨g6, 0, none⟩) (s.pats.length + 1) cap6 → ∃ v', Rd (w6.setCell ⟨b, 0, none⟩ (.slice (some ⟨g6, 0, none⟩) (s.pats.length + 1) cap6)) F b v' v1 v5 v6 { s with pats := s.pats ++ [bq] } x y) := Lib.hid (by
      intro v' _
      refine ⟨.slice (some ⟨g6, 0, none⟩) (s.pats.length + 1) cap6, (hb6.set_ 0 _).to rfl, ?_, ?_, ?_, ?_, ?_, ?_, HR1.out.f5, HR1.out.f6, ?_, HR1.out.lt⟩
      · simpa [strVs] using Row.off (b := b) (i := 0) (by simp [Value.ownBlock]; exact hne6) hr6
      · exact Row.off (b := b) (i := 0) hkk.2.1 (HR1.out.r1.keep ks (fun k h1 h0 => HR1.out.apart k h0 h1))
      · exact Row.off (b := b) (i := 0) hkk.2.2.1 (HR1.out.r5.keep ks (fun k h1 h0 => rows_differ HR1.out.r5 HR1.out.r0 (by decide) k h1 h0))
      · exact Row.off (b := b) (i := 0) hkk.2.2.2 (HR1.out.r6.keep ks (fun k h1 h0 => rows_differ HR1.out.r6 HR1.out.r0 (by decide) k h1 h0))
      · intro k hk; simp [Value.ownBlock] at hk; omega
      · exact HR1.out.f1
      · intro k hk h1
        simp [Value.ownBlock] at hk
        rcases hw6' with h | h
        · exact HR1.out.apart k (hk ▸ h) h1
        · have := HR1.out.r1.lt k h1; omega)
    have HB6 := Lib.hid hb6
    have x6 := hb6.cell 0
    have y6 := hb6.frozen 0
    clear hk6 hb6 hr6 hg6 hw6 hw6' ks hkk HR HR1 HC HK1 HU x0 y0
    go_wp2
    all_goals go_ret
    all_goals refine ⟨HK6.out.setCell (p := ⟨b, 0, none⟩) (.inl (.inl rfl)) _, ?_⟩
    all_goals rcases HQ.out with ⟨e1, e2, rfl⟩ | ⟨e1, rfl⟩
    all_goals first
      | (subst e1; subst e2; exact ⟨rfl, HD.out _ rfl⟩)
      | (exfalso; first | omega | (simp_all; done))
      | rfl
      | (have q22 : ((n : Int) == 2) = false := by
           have := e1
           simp
           omega
         show Ending.returned (.bool ((n : Int) == 2)) = _
         rw [q22])
      | (simp_all; done)

set_option maxHeartbeats 4000000 in
theorem line_part (F b : Nat) (v0 v1 v5 v6 : Value) (s : Sc) (x y : Int) (g n c : Nat) (a2 : List UInt8) (w : World) (h : Rd w F b v0 v1 v5 v6 s x y) (hF : F ≤ w.heap.size) (h2 : 2 ≤ n) (hn : n ≤ 1000000)
    (c0 : w.cell? ⟨g, 0, none⟩ = some (.string ⟨#[112, 97, 114, 116]⟩)) (c1 : w.cell? ⟨g, 1, none⟩ = some (.string ⟨a2.toArray⟩)) (hl : a2.length ≤ 100000) (hp : s.parts.length ≤ 100000) :
    Calls Tryd.prog 19 #[.pointer (some ⟨b, 0, none⟩), .slice (some ⟨g, 0, none⟩) n c] w fun e w' => LP (fun k => k = b ∨ v1.ownBlock = some k) (if n = 2 then unqL a2 else none) (fun z w' => ∃ v', Rd w' F b v0 v' v5 v6 { s with parts := s.parts ++ [z] } x y) w e w' := by
  obtain ⟨i0, hi, hz0, hz1, hz2⟩ := info_parts strInfo
  obtain ⟨bq, eq, hq, hqq⟩ := unq_parts a2
  have hu := fun w => unquote_ a2 w hl
  rw [hq] at hu
  have HU := Lib.hid hu
  obtain ⟨o, ho⟩ : ∃ o, (if n = 2 then unqL a2 else none) = o := ⟨_, rfl⟩
  have HQ := Lib.hid (show (n = 2 ∧ eq = 0 ∧ o = some bq) ∨ (¬ (eq = 0 ∧ n = 2) ∧ o = none) by
    subst ho
    by_cases h22 : n = 2
    · rw [if_pos h22]
      rcases hqq with ⟨h1, h2⟩ | ⟨h1, h2⟩
      · exact .inl ⟨h22, h1, h2⟩
      · exact .inr ⟨fun h => h1 h.1, h2⟩
    · rw [if_neg h22]; exact .inr ⟨fun h => h22 h.2, rfl⟩)
  rw [ho]
  clear ho
  have HR := Lib.hid h
  have HF := Lib.hid hF
  have HC := Lib.hid (fun W (hW : Pure' w W) => keepc c0 hW)
  have hlt := h.blk.lt
  clear hu hq hqq h hF
  go_enter Tryd.func19, Tryd.ntmps19
  go_wp2_with (first
    | (go_at_call 42; refine (HU.out _).mono ?_; rintro e w1 ⟨rfl, hk⟩; have HK1 := Lib.hid hk; have HR1 := Lib.hid (HR.out.keep hk); have d0 := HC.out w1 hk; have x0 := HR1.out.blk.cell 1; have y0 := HR1.out.blk.frozen 1; clear hk c0 c1)
    | (at_builtin; refine wpl_append _ rfl (.tmp 46) (.tmp 48) 23 rfl 9 i0 (.string ByteArray.empty) 1 16 Tryd.underlying23 hi hz0 hz1 hz2 rfl (by decide) v1 s.parts.length (strVs s.parts) rfl ?own ⟨w1.heap.size, 0, none⟩ 1 1 [.string ⟨bq.toArray⟩] rfl rfl ?news ?one (by decide) ?b1 ?b2 ?k))
  case own => exact Row.alloc HR1.out.r1 _
  case news => exact news1
  case one => exact strV_one _
  case b1 => unfold maxLen; omega
  case b2 => omega
  case k =>
    intro g6 cap6 w6 hr6 hg6 hw6 hlt6
    have hk6 := ((HK1.out.mono (S' := fun k => k = b ∨ v1.ownBlock = some k) (fun _ _ hf => hf.elim)).alloc (.cells #[.string ⟨bq.toArray⟩] 9)).grown hg6 (fun k hk => .inl (.inr hk))
    have hkk := HR1.out.kinds
    have hb6 := (HR1.out.blk.alloc (.cells #[.string ⟨bq.toArray⟩] 9)).grown hg6 hkk.2.1
    have hsz1 := HK1.out.size
    have hF := HF.out
    have hw6' : v1.ownBlock = some g6 ∨ w1.heap.size ≤ g6 := hw6.imp id (fun e => by rw [e]; simp)
    have hgF : F ≤ g6 := by
      rcases hw6' with h | h
      · exact HR1.out.f1 _ h
      · omega
    have hne6 : g6 ≠ b := by have := HR1.out.lt; omega
    have ks : Keeps (fun k => v1.ownBlock = some k) w1 w6 := ((Keeps.refl _ w1).alloc (.cells #[.string ⟨bq.toArray⟩] 9)).grown hg6 (fun k hk => .inl hk)
    have HK6 := Lib.hid hk6
    have HD : Hid (∀ v' : Value, v' = .slice (some ⟨g6, 0, none⟩) (s.parts.length + 1) cap6 → ∃ v', Rd (w6.setCell ⟨b, 1, none⟩ (.slice (some ⟨g6, 0, none⟩) (s.parts.length + 1) cap6)) F b v0 v' v5 v6 { s with parts := s.parts ++ [bq] } x y) := Lib.hid (by
      intro v' _
      refine ⟨.slice (some ⟨g6, 0, none⟩) (s.parts.length + 1) cap6, (hb6.set_ 1 _).to rfl, ?_, ?_, ?_, ?_, ?_, ?_, HR1.out.f5, HR1.out.f6, ?_, HR1.out.lt⟩
      · exact Row.off (b := b) (i := 1) hkk.1 (HR1.out.r0.keep ks (fun k h1 h0 => HR1.out.apart k h1 h0))
      · simpa [strVs] using Row.off (b := b) (i := 1) (by simp [Value.ownBlock]; exact hne6) hr6
      · exact Row.off (b := b) (i := 1) hkk.2.2.1 (HR1.out.r5.keep ks (fun k h1 h0 => rows_differ HR1.out.r5 HR1.out.r1 (by decide) k h1 h0))
      · exact Row.off (b := b) (i := 1) hkk.2.2.2 (HR1.out.r6.keep ks (fun k h1 h0 => rows_differ HR1.out.r6 HR1.out.r1 (by decide) k h1 h0))
      · exact HR1.out.f0
      · intro k hk; simp [Value.ownBlock] at hk; omega
      · intro k hk h1
        simp [Value.ownBlock] at h1
        rcases hw6' with h | h
        · exact HR1.out.apart k hk (h1 ▸ h)
        · have := HR1.out.r0.lt k hk; omega)
    have HB6 := Lib.hid hb6
    have x6 := hb6.cell 1
    have y6 := hb6.frozen 1
    clear hk6 hb6 hr6 hg6 hw6 hw6' ks hkk HR HR1 HC HK1 HU x0 y0
    go_wp2
    all_goals go_ret
    all_goals refine ⟨HK6.out.setCell (p := ⟨b, 1, none⟩) (.inl (.inl rfl)) _, ?_⟩
    all_goals rcases HQ.out with ⟨e1, e2, rfl⟩ | ⟨e1, rfl⟩
    all_goals first
      | (subst e1; subst e2; exact ⟨rfl, HD.out _ rfl⟩)
      | (exfalso; first | omega | (simp_all; done))
      | rfl
      | (have q22 : ((n : Int) == 2) = false := by
           have := e1
           simp
           omega
         show Ending.returned (.bool ((n : Int) == 2)) = _
         rw [q22])
      | (simp_all; done)

theorem LP.turn {α β : Type} {S S' : Nat → Prop} {o : Option α} {G : α → World → Prop} {G' : β → World → Prop} {w w' : World} {e : Ending} (f : α → β) (h : LP S o G w e w') (hS : ∀ k, S k → S' k) (hG : ∀ z W, G z W → G' (f z) W) : LP S' (o.map f) G' w e w' := by
  obtain ⟨h1, h2⟩ := h
  refine ⟨h1.mono (fun k _ hk => hS k hk), ?_⟩
  cases o with
  | none => exact h2
  | some z => exact ⟨h2.1, hG z _ h2.2⟩

theorem rowP_len (lo hi : Int) : ∀ (ps : List (List UInt8)) (acc : List Int), (rowP lo hi ps acc).1.length ≤ acc.length + ps.length
  | [], acc => by simp [rowP]
  | p :: ps, acc => by
    unfold rowP
    split
    · have := rowP_len lo hi ps (acc ++ [(parseV p lo hi).1]); simp at this ⊢; omega
    · simp
theorem rowV_len (s : List UInt8) (lo hi : Int) : (rowV s lo hi).1.length ≤ s.length + 1 := by
  unfold rowV
  split
  · simp
  · have h1 := rowP_len lo hi (splitL s) []
    have h2 := (sF_len s []).1
    unfold splitL at *
    simp at h1 ⊢
    omega
theorem Rd.certs {w w1 : World} {F b : Nat} {v0 v1 v5 v6 : Value} {s : Sc} {x y : Int} {L : List Int} {A : Option Addr} {n k : Nat} (h : Rd w F b v0 v1 v5 v6 s x y) (hF : F ≤ w.heap.size) (hn : L.length = n) (hk : Nums w w1 (.slice A n k) L) (u : Int) :
    Rd ((w1.setCell ⟨b, 6, none⟩ (.slice A n k)).setCell ⟨b, 8, none⟩ (.int .i64 u)) F b v0 v1 v5 (.slice A n k) { s with certs := L } x u := by
  have h1 := h.keep hk.pure
  have hkk := h1.kinds
  have hlt := h.lt
  have hv : (Value.slice A n k).ownBlock ≠ some b := fun e => by have := hk.own b e; omega
  refine ⟨((h1.blk.set_ 6 _).set_ 8 _).to rfl, ?_, ?_, ?_, ?_, h.f0, h.f1, h.f5, fun j hj => by have := hk.own j hj; omega, h.apart, h.lt⟩
  · exact (h1.r0.off hkk.1).off hkk.1
  · exact (h1.r1.off hkk.2.1).off hkk.2.1
  · exact (h1.r5.off hkk.2.2.1).off hkk.2.2.1
  · exact (hk.row.off hv).off hv

set_option maxHeartbeats 4000000 in
theorem line_certs (F b : Nat) (v0 v1 v5 v6 : Value) (s : Sc) (x y : Int) (g n c : Nat) (a2 : List UInt8) (w : World) (h : Rd w F b v0 v1 v5 v6 s x y) (hF : F ≤ w.heap.size) (h2 : 2 ≤ n) (hn : n ≤ 1000000) (m : Int)
    (hmx : w.cell? ⟨2, 0, none⟩ = some (.int .i64 m)) (hy : y = 0 ∨ y = 1)
    (c0 : w.cell? ⟨g, 0, none⟩ = some (.string ⟨#[99, 101, 114, 116, 115]⟩)) (c1 : w.cell? ⟨g, 1, none⟩ = some (.string ⟨a2.toArray⟩)) (hl : a2.length ≤ 100000) :
    Calls Tryd.prog 19 #[.pointer (some ⟨b, 0, none⟩), .slice (some ⟨g, 0, none⟩) n c] w fun e w' => LP (fun k => k = b)
      (if n = 2 ∧ (rowV a2 0 1048576).2 = 0 ∧ 1 ≤ (rowV a2 0 1048576).1.length ∧ (rowV a2 0 1048576).1.length ≤ 400 ∧ y = 0 then some (rowV a2 0 1048576).1 else none) (fun z w' => ∃ v', Rd w' F b v0 v1 v5 v' { s with certs := z } x (y + 1)) w e w' := by
  have hp := fun W (hW : Pure' w W) => parserow2_ a2 0 1048576 W m (keepc hmx hW) hl (by decide) (by decide)
  unfold RowPost2 at hp
  obtain ⟨pr, hpr⟩ : ∃ pr, rowV a2 0 1048576 = pr := ⟨_, rfl⟩
  obtain ⟨L, er⟩ := pr
  rw [hpr] at hp ⊢
  dsimp only at hp ⊢
  obtain ⟨LL, hLL⟩ : ∃ LL, L.length = LL := ⟨_, rfl⟩
  have hL : LL ≤ 1000000 := by
    have := rowV_len a2 0 1048576
    rw [hpr] at this
    simp only at this
    omega
  obtain ⟨o, ho⟩ : ∃ o, (if n = 2 ∧ er = 0 ∧ 1 ≤ L.length ∧ L.length ≤ 400 ∧ y = 0 then some L else none) = o := ⟨_, rfl⟩
  have HQ := Lib.hid (show ((n = 2 ∧ er = 0 ∧ 1 ≤ LL ∧ LL ≤ 400 ∧ y = 0) ∧ o = some L) ∨ (¬ (n = 2 ∧ er = 0 ∧ 1 ≤ LL ∧ LL ≤ 400 ∧ y = 0) ∧ o = none) by
    subst ho; subst hLL
    by_cases hc : n = 2 ∧ er = 0 ∧ 1 ≤ L.length ∧ L.length ≤ 400 ∧ y = 0
    · exact .inl ⟨hc, if_pos hc⟩
    · exact .inr ⟨hc, if_neg hc⟩)
  rw [ho]
  rw [hLL] at hp
  have HP := Lib.hid hp
  have HR := Lib.hid h
  have HF := Lib.hid hF
  have HLL := Lib.hid hLL
  have hlt := h.blk.lt
  have hwr : wrap64 (y + 1) = y + 1 := by unfold wrap64; omega
  clear hp h hF ho hmx hpr hLL
  go_enter Tryd.func19, Tryd.ntmps19
  go_wp2_with (go_at_call 45; refine (HP.out _ (by first | exact Keeps.refl _ _ | exact (Keeps.refl _ _).drewN _)).mono ?_; rintro e w1 ⟨A1, k1, rfl, hk⟩; have HN := Lib.hid hk; have HR1 := Lib.hid (HR.out.keep hk.pure); have x0 := HR1.out.blk.cell 6; have y0 := HR1.out.blk.frozen 6; have x8 := HR1.out.blk.cell 8; have y8 := HR1.out.blk.frozen 8; clear hk c0 c1)
  all_goals go_ret
  all_goals refine ⟨((HN.out.pure.mono (S' := fun k => k = b) (fun _ _ hf => hf.elim)).setCell (p := ⟨b, 6, none⟩) (.inl rfl) _).setCell (p := ⟨b, 8, none⟩) (.inl rfl) _, ?_⟩
  all_goals rcases HQ.out with ⟨⟨e1, e2, e3, e4, e5⟩, rfl⟩ | ⟨e1, rfl⟩
  all_goals first
    | (subst e1; subst e2; subst e5; exact ⟨rfl, _, HR.out.certs HF.out HLL.out HN.out _⟩)
    | (have q4 : decide ((LL : Int) ≤ 400) = true := by simp; omega
       subst e1; subst e2; subst e5
       refine ⟨?_, _, HR.out.certs HF.out HLL.out HN.out _⟩
       show Ending.returned (.bool (decide ((LL : Int) ≤ 400))) = _
       rw [q4])
    | (exfalso; first | omega | (simp_all; done))
    | rfl
    | (have q4 : decide ((LL : Int) ≤ 400) = false := by
         have := e1
         simp
         omega
       show Ending.returned (.bool (decide ((LL : Int) ≤ 400))) = _
       rw [q4])
    | (simp_all; done)
    | trace_state

theorem scanV_keeps {s z : Sc} {x : Int} {ws : List (List UInt8)} (h : scanV s x ws = some z) : x = 0 ∧ z.pats = s.pats ∧ z.parts = s.parts ∧ z.edits = s.edits ∧ z.certs = s.certs := by
  match ws, h with
  | [a, b, c, d], h =>
    unfold scanV at h
    dsimp only at h
    split at h
    · rename_i hc
      cases h
      exact ⟨hc.2.2.2, rfl, rfl, rfl, rfl⟩
    · cases h
theorem spoilV_keeps {s z : Sc} {ws : List (List UInt8)} (h : spoilV s ws = some z) : z.pats = s.pats ∧ z.parts = s.parts ∧ z.certs = s.certs := by
  match ws, h with
  | [a, b, c, d], h =>
    unfold spoilV at h
    dsimp only at h
    split at h
    · cases h
      exact ⟨rfl, rfl, rfl⟩
    · cases h

set_option maxHeartbeats 4000000 in
theorem line_scan (F b : Nat) (v0 v1 v5 v6 : Value) (s : Sc) (x y : Int) (g n c B : Nat) (r : List (List UInt8)) (w : World) (h : Rd w F b v0 v1 v5 v6 s x y) (hs : Sees w B 1 (some ⟨g, 0, none⟩) n (strVs (wScan :: r))) (hg : g ≠ b) (h2 : 2 ≤ n) (hn : n ≤ 1000000)
    (hl : ∀ a ∈ wScan :: r, a.length ≤ 100000) (hx : x = 0 ∨ x = 1) (cc : Bool) :
    Calls Tryd.prog 19 #[.pointer (some ⟨b, 0, none⟩), .slice (some ⟨g, 0, none⟩) n c] w fun e w' => LP (fun k => k = b ∨ v5.ownBlock = some k) (lineV s (decide (x = 1)) cc (wScan :: r)) (fun r w' => ∃ v5' x', Rd w' F b v0 v1 v5' v6 r.1 x' y ∧ (x' = 0 ∨ x' = 1) ∧ r.2.1 = decide (x' = 1) ∧ r.2.2 = cc) w e w' := by
  have hA : ∀ ad, some (⟨g, 0, none⟩ : Addr) = some ad → ∃ g', ad = ⟨g', 0, none⟩ ∧ g' ≠ b := by intro ad e; cases e; exact ⟨g, rfl, hg⟩
  obtain ⟨ad0, wd0, he, hw0, c0⟩ := word_at hs (show 0 < n by omega)
  cases he
  rw [add_flat] at c0
  simp at hw0
  rw [← hw0] at c0
  clear hw0
  rw [lineV_scan s x hx cc r]
  have hsc := scan_ b v0 v1 v5 v6 s x y (some ⟨g, 0, none⟩) n c B (wScan :: r) w h.blk hs hA hn hl hx
  have HS := Lib.hid hsc
  have HR := Lib.hid h
  replace c0 : w.cell? ⟨g, 0, none⟩ = some (.string ⟨#[115, 99, 97, 110]⟩) := c0
  obtain ⟨o, ho⟩ : ∃ o, scanV s x (wScan :: r) = o := ⟨_, rfl⟩
  have HO := Lib.hid ho
  have HX := Lib.hid hx
  rw [ho]
  clear hsc hs h hl ho hA hx
  go_enter Tryd.func19, Tryd.ntmps19
  go_wp2_with (go_at_call 43; refine HS.out.mono ?_; rintro e w1 hk; unfold ScanPost at hk; rw [HO.out] at hk; obtain ⟨hk1, hk2⟩ := hk; have HK1 := Lib.hid hk1; cases o with | none => _ | some z => _)
  · subst hk2
    clear hk1
    go_wp2
    go_ret
    exact ⟨HK1.out.mono (fun k _ hk => .inl hk), rfl⟩
  · obtain ⟨he, hb⟩ := hk2
    subst he
    have HB := Lib.hid hb
    clear hk1 hb
    go_wp2
    go_ret
    refine ⟨HK1.out.mono (fun k _ hk => .inl hk), rfl, ?_⟩
    obtain ⟨hx0, z0, z1, z5, z6⟩ := scanV_keeps HO.out
    have hkk := HR.out.kinds
    refine ⟨v5, x + 1, ⟨HB.out, ?_, ?_, ?_, ?_, HR.out.f0, HR.out.f1, HR.out.f5, HR.out.f6, HR.out.apart, HR.out.lt⟩, .inr (by omega), by subst hx0; rfl, rfl⟩
    · rw [z0]; exact HR.out.r0.keep HK1.out (fun k h1 h2 => hkk.1 (h2 ▸ h1))
    · rw [z1]; exact HR.out.r1.keep HK1.out (fun k h1 h2 => hkk.2.1 (h2 ▸ h1))
    · rw [z5]; exact HR.out.r5.keep HK1.out (fun k h1 h2 => hkk.2.2.1 (h2 ▸ h1))
    · rw [z6]; exact HR.out.r6.keep HK1.out (fun k h1 h2 => hkk.2.2.2 (h2 ▸ h1))

set_option maxHeartbeats 4000000 in
theorem line_spoil (F b : Nat) (v0 v1 v5 v6 : Value) (s : Sc) (x y : Int) (g n c B : Nat) (r : List (List UInt8)) (w : World) (h : Rd w F b v0 v1 v5 v6 s x y) (hF : F ≤ w.heap.size) (hs : Sees w B 1 (some ⟨g, 0, none⟩) n (strVs (wSpoil :: r))) (hg : g ≠ b) (h2 : 2 ≤ n) (hn : n ≤ 1000000)
    (hl : ∀ a ∈ wSpoil :: r, a.length ≤ 100000) (hx : x = 0 ∨ x = 1) (hp : s.edits.length ≤ 100000) (cc : Bool) :
    Calls Tryd.prog 19 #[.pointer (some ⟨b, 0, none⟩), .slice (some ⟨g, 0, none⟩) n c] w fun e w' => LP (fun k => k = b ∨ v5.ownBlock = some k) (lineV s (decide (x = 1)) cc (wSpoil :: r)) (fun r w' => ∃ v5' x', Rd w' F b v0 v1 v5' v6 r.1 x' y ∧ (x' = 0 ∨ x' = 1) ∧ r.2.1 = decide (x' = 1) ∧ r.2.2 = cc) w e w' := by
  have hA : ∀ ad, some (⟨g, 0, none⟩ : Addr) = some ad → ∃ g', ad = ⟨g', 0, none⟩ ∧ g' ≠ b := by intro ad e; cases e; exact ⟨g, rfl, hg⟩
  obtain ⟨ad0, wd0, he, hw0, c0⟩ := word_at hs (show 0 < n by omega)
  cases he
  rw [add_flat] at c0
  simp at hw0
  rw [← hw0] at c0
  clear hw0
  rw [lineV_spoil s _ cc r]
  have hkk := h.kinds
  have hsc := spoil_ b v0 v1 v5 v6 s x y (some ⟨g, 0, none⟩) n c B (wSpoil :: r) w h.blk h.r5 hkk.2.2.1 hs hA hn hl hp
  have HS := Lib.hid hsc
  have HR := Lib.hid h
  have HF := Lib.hid hF
  replace c0 : w.cell? ⟨g, 0, none⟩ = some (.string ⟨#[115, 112, 111, 105, 108]⟩) := c0
  obtain ⟨o, ho⟩ : ∃ o, spoilV s (wSpoil :: r) = o := ⟨_, rfl⟩
  have HO := Lib.hid ho
  have HX := Lib.hid hx
  rw [ho]
  clear hsc hs h hl ho hA hx hF hkk
  go_enter Tryd.func19, Tryd.ntmps19
  go_wp2_with (go_at_call 44; refine HS.out.mono ?_; rintro e w1 hk; unfold SpoilPost at hk; rw [HO.out] at hk; obtain ⟨hk1, hk2⟩ := hk; have HK1 := Lib.hid hk1; cases o with | none => _ | some z => _)
  · subst hk2
    clear hk1
    go_wp2
    go_ret
    exact ⟨HK1.out.mono (fun k _ hk => hk), rfl⟩
  · obtain ⟨he, v5', hb, hr5, ho5⟩ := hk2
    subst he
    have HB := Lib.hid hb
    have HR5 := Lib.hid hr5
    have HO5 := Lib.hid ho5
    clear hk1 hb hr5 ho5
    go_wp2
    go_ret
    refine ⟨HK1.out, rfl, ?_⟩
    obtain ⟨z0, z1, z6⟩ := spoilV_keeps HO.out
    have hkk := HR.out.kinds
    have hF := HF.out
    refine ⟨v5', x, ⟨HB.out, ?_, ?_, HR5.out, ?_, HR.out.f0, HR.out.f1, ?_, HR.out.f6, HR.out.apart, HR.out.lt⟩, HX.out, rfl, rfl⟩
    · rw [z0]; exact HR.out.r0.keep HK1.out (fun k h1 h2 => h2.elim (fun h2 => hkk.1 (h2 ▸ h1)) (fun h2 => rows_differ HR.out.r0 HR.out.r5 (by decide) k h1 h2))
    · rw [z1]; exact HR.out.r1.keep HK1.out (fun k h1 h2 => h2.elim (fun h2 => hkk.2.1 (h2 ▸ h1)) (fun h2 => rows_differ HR.out.r1 HR.out.r5 (by decide) k h1 h2))
    · rw [z6]; exact HR.out.r6.keep HK1.out (fun k h1 h2 => h2.elim (fun h2 => hkk.2.2.2 (h2 ▸ h1)) (fun h2 => rows_differ HR.out.r6 HR.out.r5 (by decide) k h1 h2))
    · intro k hk
      rcases HO5.out k hk with h | h
      · exact HR.out.f5 k h
      · omega

/-- What a line leaves. -/
def LineG (F b : Nat) (r : Sc × Bool × Bool) (w' : World) : Prop := ∃ v0 v1 v5 v6 x y, Rd w' F b v0 v1 v5 v6 r.1 x y ∧ (x = 0 ∨ x = 1) ∧ (y = 0 ∨ y = 1) ∧ r.2.1 = decide (x = 1) ∧ r.2.2 = decide (y = 1)

set_option maxHeartbeats 4000000 in
theorem line_ (F b : Nat) (v0 v1 v5 v6 : Value) (s : Sc) (x y : Int) (A : Option Addr) (n c B : Nat) (ws : List (List UInt8)) (w : World) (h : Rd w F b v0 v1 v5 v6 s x y) (hF : F ≤ w.heap.size) (hs : Sees w B 1 A n (strVs ws)) (hA : ∀ ad, A = some ad → ∃ g, ad = ⟨g, 0, none⟩ ∧ g ≠ b) (hn : n ≤ 1000000)
    (hl : ∀ a ∈ ws, a.length ≤ 100000) (hx : x = 0 ∨ x = 1) (hy : y = 0 ∨ y = 1) (hp0 : s.pats.length ≤ 100000) (hp1 : s.parts.length ≤ 100000) (hp5 : s.edits.length ≤ 100000) (m : Int) (hmx : w.cell? ⟨2, 0, none⟩ = some (.int .i64 m)) :
    Calls Tryd.prog 19 #[.pointer (some ⟨b, 0, none⟩), .slice A n c] w fun e w' => LP (fun k => k = b ∨ v0.ownBlock = some k ∨ v1.ownBlock = some k ∨ v5.ownBlock = some k) (lineV s (decide (x = 1)) (decide (y = 1)) ws) (LineG F b) w e w' := by
  have hlen := hs.1
  rw [strVs_len, Nat.mul_one] at hlen
  by_cases h2 : n < 2
  · have hv : lineV s (decide (x = 1)) (decide (y = 1)) ws = none := by
      match ws, hlen with
      | [], _ => rfl
      | [_], _ => rfl
      | _ :: _ :: _, hlen => simp at hlen; omega
    rw [hv]
    clear hs hl h hA hmx hv hlen
    go_enter Tryd.func19, Tryd.ntmps19
    go_wp2
    go_ret
    exact ⟨Keeps.refl _ _, rfl⟩
  have h2' : 2 ≤ n := by omega
  obtain ⟨a, a2, r, rfl⟩ : ∃ a a2 r, ws = a :: a2 :: r := by
    match ws, hlen with
    | [], hlen => simp at hlen; omega
    | [_], hlen => simp at hlen; omega
    | a :: b :: r, _ => exact ⟨a, b, r, rfl⟩
  have hr : r = [] ↔ n = 2 := by
    rw [← List.length_eq_zero_iff]; simp at hlen; omega
  obtain ⟨ad0, wd0, rfl, hw0, c0⟩ := word_at hs (show 0 < n by omega)
  obtain ⟨ad1, wd1, he, hw1, c1⟩ := word_at hs (show 1 < n by omega)
  cases he
  obtain ⟨g, rfl, hg⟩ := hA ad0 rfl
  rw [add_flat] at c0 c1
  simp at hw0 hw1
  subst hw0; subst hw1
  have hl1 := hl a2 (by simp)
  by_cases e1 : a = wPattern
  · subst e1
    rw [lineV_pat]
    refine (line_pat F b v0 v1 v5 v6 s x y g n c a2 w h hF h2' hn c0 c1 hl1 hp0).mono fun e w' hk => ?_
    have hk2 := hk.turn (S' := fun k => k = b ∨ v0.ownBlock = some k ∨ v1.ownBlock = some k ∨ v5.ownBlock = some k) (G' := LineG F b) (fun z => ({ s with pats := s.pats ++ [z] }, decide (x = 1), decide (y = 1))) (fun k hk => hk.imp id .inl) (fun z W hz => by obtain ⟨v', hz⟩ := hz; exact ⟨v', v1, v5, v6, x, y, hz, hx, hy, rfl, rfl⟩)
    by_cases hr0 : r = []
    · rw [if_pos (hr.1 hr0)] at hk2; rw [if_pos hr0]; exact hk2
    · rw [if_neg (fun h => hr0 (hr.2 h))] at hk2; rw [if_neg hr0]; exact hk2
  by_cases e2 : a = wPart
  · subst e2
    rw [lineV_part]
    refine (line_part F b v0 v1 v5 v6 s x y g n c a2 w h hF h2' hn c0 c1 hl1 hp1).mono fun e w' hk => ?_
    have hk2 := hk.turn (S' := fun k => k = b ∨ v0.ownBlock = some k ∨ v1.ownBlock = some k ∨ v5.ownBlock = some k) (G' := LineG F b) (fun z => ({ s with parts := s.parts ++ [z] }, decide (x = 1), decide (y = 1))) (fun k hk => hk.imp id (fun h => .inr (.inl h))) (fun z W hz => by obtain ⟨v', hz⟩ := hz; exact ⟨v0, v', v5, v6, x, y, hz, hx, hy, rfl, rfl⟩)
    by_cases hr0 : r = []
    · rw [if_pos (hr.1 hr0)] at hk2; rw [if_pos hr0]; exact hk2
    · rw [if_neg (fun h => hr0 (hr.2 h))] at hk2; rw [if_neg hr0]; exact hk2
  by_cases e3 : a = wScan
  · subst e3
    refine (line_scan F b v0 v1 v5 v6 s x y g n c B (a2 :: r) w h hs hg h2' hn hl hx (decide (y = 1))).mono fun e w' hk => ?_
    have hk2 := hk.turn (S' := fun k => k = b ∨ v0.ownBlock = some k ∨ v1.ownBlock = some k ∨ v5.ownBlock = some k) (G' := LineG F b) id (fun k hk => hk.imp id (fun h => .inr (.inr h))) (fun z W hz => by obtain ⟨v', x', hz, h1, h2, h3⟩ := hz; exact ⟨v0, v1, v', v6, x', y, hz, h1, hy, h2, h3⟩)
    rwa [Option.map_id] at hk2
  by_cases e4 : a = wSpoil
  · subst e4
    refine (line_spoil F b v0 v1 v5 v6 s x y g n c B (a2 :: r) w h hF hs hg h2' hn hl hx hp5 (decide (y = 1))).mono fun e w' hk => ?_
    have hk2 := hk.turn (S' := fun k => k = b ∨ v0.ownBlock = some k ∨ v1.ownBlock = some k ∨ v5.ownBlock = some k) (G' := LineG F b) id (fun k hk => hk.imp id (fun h => .inr (.inr h))) (fun z W hz => by obtain ⟨v', x', hz, h1, h2, h3⟩ := hz; exact ⟨v0, v1, v', v6, x', y, hz, h1, hy, h2, h3⟩)
    rwa [Option.map_id] at hk2
  by_cases e5 : a = wCerts
  · subst e5
    rw [lineV_certs]
    refine (line_certs F b v0 v1 v5 v6 s x y g n c a2 w h hF h2' hn m hmx hy c0 c1 hl1).mono fun e w' hk => ?_
    by_cases hc : n = 2 ∧ (rowV a2 0 1048576).2 = 0 ∧ 1 ≤ (rowV a2 0 1048576).1.length ∧ (rowV a2 0 1048576).1.length ≤ 400 ∧ y = 0
    · rw [if_pos hc] at hk
      rw [if_pos ⟨hr.2 hc.1, hc.2.1, hc.2.2.1, hc.2.2.2.1, by rw [hc.2.2.2.2]; rfl⟩]
      refine hk.turn (S' := fun k => k = b ∨ v0.ownBlock = some k ∨ v1.ownBlock = some k ∨ v5.ownBlock = some k) (G' := LineG F b) (fun z => ({ s with certs := z }, decide (x = 1), true)) (fun k hk => .inl hk) (fun z W hz => by obtain ⟨v', hz⟩ := hz; exact ⟨v0, v1, v5, v', x, y + 1, hz, hx, .inr (by omega), rfl, by rw [hc.2.2.2.2]; rfl⟩)
    · rw [if_neg hc] at hk
      rw [if_neg (fun h => hc ⟨hr.1 h.1, h.2.1, h.2.2.1, h.2.2.2.1, by have := h.2.2.2.2; simp at this; omega⟩)]
      exact ⟨hk.1.mono (fun k _ hk => .inl hk), hk.2⟩
  rw [lineV_none _ _ _ a _ e1 e2 e3 e4 e5]
  have q1 : (a == [112, 97, 116, 116, 101, 114, 110]) = false := by simpa [wPattern] using e1
  have q2 : (a == [112, 97, 114, 116]) = false := by simpa [wPart] using e2
  have q3 : (a == [115, 99, 97, 110]) = false := by simpa [wScan] using e3
  have q4 : (a == [115, 112, 111, 105, 108]) = false := by simpa [wSpoil] using e4
  have q5 : (a == [99, 101, 114, 116, 115]) = false := by simpa [wCerts] using e5
  clear hs hl h hA hmx hr e1 e2 e3 e4 e5 hl1 hlen hx hy
  go_enter Tryd.func19, Tryd.ntmps19
  go_wp2
  go_ret
  exact ⟨Keeps.refl _ _, rfl⟩

end Go.Proofs.YtjcjmjnajhkdaaaDoor
