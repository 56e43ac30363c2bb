import Derived.Test.YtjcjmjnajhkdaaaDoorEscN
namespace Go.Proofs.YtjcjmjnajhkdaaaDoor
open Go.RowKit
set_option linter.unusedVariables false
set_option linter.unusedSimpArgs false
set_option maxRecDepth 100000

noncomputable def unqV (s : List UInt8) : Value := match unqL s with
  | some out => .tuple #[.string ⟨out.toArray⟩, .int .i64 0]
  | none => .tuple #[.string ⟨#[]⟩, .int .i64 3]

theorem reads_nil {t : List UInt8} (h : Reads [] t) : t = [] := by
  cases h with
  | done => rfl
  | step h1 _ => exact nomatch h1
theorem reads_next {s r o : List UInt8} {c : UInt8} (h : nextL s = some (c, r)) (ho : Reads s o) : ∃ t, o = c :: t ∧ Reads r t := by
  cases ho with
  | done => exact nomatch h
  | step h1 h2 => rw [h] at h1; injection h1 with h1; injection h1 with e1 e2; subst e1; subst e2; exact ⟨_, rfl, h2⟩
theorem reads_none {s o : List UInt8} (h : nextL s = none) (hs : s ≠ []) (ho : Reads s o) : False := by
  cases ho with
  | done => exact hs rfl
  | step h1 h2 => rw [h] at h1; exact nomatch h1
theorem quote_reads {s o : List UInt8} (h : quoteL o = s) (hs : s ≠ [45]) : Reads s o := by
  unfold quoteL at h
  split at h
  · exact absurd h.symm hs
  · split at h
    · rename_i e; subst e; subst h
      exact .step (c := 45) (r := []) (by decide +kernel) .done
    · subst h; exact reads_signs o
theorem next_len {s r : List UInt8} {c : UInt8} (h : nextL s = some (c, r)) : r.length < s.length := by
  unfold nextL at h
  split at h
  · exact nomatch h
  · split at h
    · injection h with h; injection h with _ h; subst h; simp; try omega
    · split at h
      · exact nomatch h
      · split at h
        · injection h with h; injection h with _ h; subst h; simp; try omega
        · split at h
          · exact nomatch h
          · exact nomatch h
          · split at h
            · exact nomatch h
            · split at h
              · injection h with h; injection h with _ h; subst h; simp; omega
              · exact nomatch h

/-- What stands when `rest` is left of s, and `out` is read. -/
def UnInv (s out rest : List UInt8) : Prop := out.length + rest.length ≤ s.length ∧ ∀ o, Reads s o → ∃ t, o = out ++ t ∧ Reads rest t
theorem UnInv.start (s : List UInt8) : UnInv s [] s := ⟨by simp, fun o h => ⟨o, rfl, h⟩⟩
theorem UnInv.step {s out rest r : List UInt8} {c : UInt8} (h : UnInv s out rest) (hn : nextL rest = some (c, r)) : UnInv s (out ++ [c]) r := by
  refine ⟨by have := next_len hn; have := h.1; simp; omega, fun o ho => ?_⟩
  obtain ⟨t, e, ht⟩ := h.2 o ho
  obtain ⟨t', e', ht'⟩ := reads_next hn ht
  exact ⟨t', by rw [e, e']; simp, ht'⟩
theorem UnInv.fails {s out rest : List UInt8} (h : UnInv s out rest) (hs : s ≠ [45]) (hr : rest ≠ []) (hn : nextL rest = none) : unqL s = none := by
  refine unq_none fun o ho => ?_
  obtain ⟨t, _, ht⟩ := h.2 o (quote_reads ho hs)
  exact reads_none hn hr ht
theorem UnInv.ends {s out : List UInt8} (h : UnInv s out []) (hs : s ≠ [45]) (hq : quoteL out ≠ s) : unqL s = none := by
  refine unq_none fun o ho => ?_
  obtain ⟨t, e, ht⟩ := h.2 o (quote_reads ho hs)
  rw [reads_nil ht, List.append_nil] at e
  exact hq (e ▸ ho)

set_option maxHeartbeats 1000000 in
theorem unquote_big (s : List UInt8) (w : World) (hs : s.length ≤ 100000) (h45 : s ≠ [45]) : Calls Tryd.prog 42 #[.string ⟨s.toArray⟩] w fun e w' => e = .returned (unqV s) ∧ Pure' w w' := by
  obtain ⟨i0, hi, hz0, hz1, hz2⟩ := info_parts u8info'
  have q2 : (s == [45]) = false := by simpa using h45
  have HN := Lib.hid next_
  have HQ := Lib.hid quote_
  go_enter Tryd.func42, Tryd.ntmps42
  go_wp2
  go_loopw [4, 5] (fun v4 v5 wr => ∃ out rest : List UInt8, ∃ a c, v4 = .slice a out.length c ∧ Row wr 5 1 (.slice a out.length c) out.length (out.map byteV) ∧ v5 = .string ⟨rest.toArray⟩ ∧ UnInv s out rest ∧ Pure' w wr ∧ w.heap.size ≤ wr.heap.size ∧ (∀ b, (Value.slice a out.length c).ownBlock = some b → w.heap.size ≤ b)) (fun _ v5 _ => match v5 with | .string b => b.size | _ => 0)
  case atStart => exact ⟨[], s, none, 0, rfl, Row.nil _ _ _, rfl, UnInv.start s, Keeps.refl _ _, Nat.le_refl _, by simp [Value.ownBlock]⟩
  case round =>
    obtain ⟨out, rest, a, c, rfl, hrow, rfl, hinv, hpure, hsz, hown⟩ := hrel
    have HI := Lib.hid hinv
    have HR := Lib.hid hrow
    have HP := Lib.hid hpure
    have HO := Lib.hid hown
    clear hinv hrow hpure hown
    by_cases hr : rest = []
    · subst hr
      have hcv := conv_row (dst := 9) Tryd.underlying87 Tryd.underlying5 Tryd.underlying9 HR.out
      have hlen : out.length ≤ 1000000 := by have := HI.out.1; simp at this; omega
      by_cases hq : quoteL out = s
      · have hv := Lib.hid (show unqV s = .tuple #[.string ⟨out.toArray⟩, .int .i64 0] by unfold unqV; rw [unq_iff.2 hq])
        have HQ1 := Lib.hid hq
        clear hq
        go_wp2_with (go_at_call 54; refine (HQ.out _ _ hlen).mono ?_; rintro e w2 ⟨rfl, hk2⟩; rw [HQ1.out]; have HK2 := Lib.hid hk2; clear hk2)
        go_ret2
        rw [hv.out]
        exact ⟨rfl, HP.out.trans HK2.out (fun _ _ h => h)⟩
      · have hv := Lib.hid (show unqV s = .tuple #[.string ⟨#[]⟩, .int .i64 3] by unfold unqV; rw [HI.out.ends h45 hq])
        have hq2 : (quoteL out == s) = false := by simpa using hq
        clear hq
        go_wp2_with (go_at_call 54; refine (HQ.out _ _ hlen).mono ?_; rintro e w2 ⟨rfl, hk2⟩; have HK2 := Lib.hid hk2; clear hk2)
        go_ret2
        rw [hv.out]
        exact ⟨rfl, HP.out.trans HK2.out (fun _ _ h => h)⟩
    · have hre : rest.isEmpty = false := by cases rest with | nil => exact absurd rfl hr | cons _ _ => rfl
      have hlen : rest.length ≤ 1000000 := by have := HI.out.1; omega
      cases hn : nextL rest with
      | none =>
        have hv := Lib.hid (show unqV s = .tuple #[.string ⟨#[]⟩, .int .i64 3] by unfold unqV; rw [HI.out.fails h45 hr hn])
        have hx := Lib.hid (show nextV rest = .tuple #[.int .u8 0, .string ⟨#[]⟩, .bool false] by unfold nextV; rw [hn])
        clear hn
        go_wp2_with (go_at_call 66; refine (HN.out rest _ hr hlen).mono ?_; rintro e w2 ⟨rfl, q, rfl⟩; rw [hx.out])
        go_ret2
        rw [hv.out]
        exact ⟨rfl, HP.out.drewN _⟩
      | some cr =>
        obtain ⟨b, r⟩ := cr
        have hx := Lib.hid (show nextV rest = .tuple #[.int .u8 b.toNat, .string ⟨r.toArray⟩, .bool true] by unfold nextV; rw [hn])
        have HI2 := Lib.hid (HI.out.step hn)
        have HL := Lib.hid (next_len hn)
        clear hn
        go_wp2_with (first | (go_at_call 66; refine (HN.out rest _ hr hlen).mono ?_; rintro e w2 ⟨rfl, q, rfl⟩; rw [hx.out]) | (at_builtin; refine wpl_append _ rfl (.tmp 23) (.tmp 25) 87 rfl 5 i0 (.int .u8 0) 1 1 Tryd.underlying87 hi hz0 hz1 hz2 rfl (by decide) (.slice a out.length c) out.length (out.map byteV) rfl ?own ⟨wr.heap.size, 0, none⟩ 1 1 [.int .u8 b.toNat] rfl rfl ?news ?one (by decide) ?b1 ?b2 ?k))
        case own => exact (HR.out.drewN _).alloc _
        case news => exact news1
        case one => exact fun u hu => by simp at hu; subst hu; rfl
        case b1 => unfold maxLen; have := HI.out.1; omega
        case b2 => have := HI.out.1; omega
        case k =>
          intro g cap w3 hrow3 hgrow hg hgl
          have HR3 := Lib.hid hrow3
          have HG3 := Lib.hid hgrow
          have HGB := Lib.hid hg
          clear hrow3 hgrow hg
          go_wp2
          go_roundw
          case rel =>
            have hsz3 := HG3.out.size
            have hP3 : Pure' w w3 := (((HP.out.drewN q).alloc _)).grown HG3.out (fun k hk => .inr (HO.out k hk))
            refine ⟨out ++ [b], r, some ⟨g, 0, none⟩, cap, by simp, ?_, rfl, HI2.out, hP3, hP3.size, ?_⟩
            · have := HR3.out
              simpa [byteV] using this
            · intro x hx
              have hxg : g = x := by simpa [Value.ownBlock] using hx
              rcases HGB.out with h | h
              · exact hxg ▸ HO.out g h
              · have h' : g = wr.heap.size + 1 := h
                omega
          case measure => have := HL.out; simp [ByteArray.size]; omega

theorem unqV_dash : unqV [45] = .tuple #[.string ⟨#[]⟩, .int .i64 0] := by unfold unqV; rw [unq_iff.2 (show quoteL [] = [45] from rfl)]
set_option maxHeartbeats 1000000 in
theorem unquote_ (s : List UInt8) (w : World) (hs : s.length ≤ 100000) : Calls Tryd.prog 42 #[.string ⟨s.toArray⟩] w fun e w' => e = .returned (unqV s) ∧ Pure' w w' := by
  by_cases h45 : s = [45]
  · subst h45
    rw [unqV_dash]
    go_enter Tryd.func42, Tryd.ntmps42
    go_wp2
    go_ret2
    exact ⟨rfl, Keeps.refl _ _⟩
  · exact unquote_big s w hs h45
end Go.Proofs.YtjcjmjnajhkdaaaDoor
