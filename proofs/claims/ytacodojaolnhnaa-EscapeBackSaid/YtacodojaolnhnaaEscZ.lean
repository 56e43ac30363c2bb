/- What EscapeBack answers; no condition. -/
import Derived.Test.YtacodojaolnhnaaEscY
namespace Go.Proofs.Ytacodojaolnhnaa
open Go.RowKit
set_option linter.unusedVariables false
set_option linter.unusedSimpArgs false
set_option maxRecDepth 100000

theorem quote_ge (l : List UInt8) : l.length ≤ (quoteL l).length := by
  unfold quoteL
  split
  · rename_i h; subst h; simp
  · split
    · rename_i h; subst h; simp [codedL]
    · exact signs_ge l

theorem unqV_back (l : List UInt8) : unqV (quoteL l) = .tuple #[.string ⟨l.toArray⟩, .int .i64 0] := by
  unfold unqV; rw [unq_quote]

theorem unqV_cases (t : List UInt8) : (∃ x, quoteL x = t ∧ unqV t = .tuple #[.string ⟨x.toArray⟩, .int .i64 0]) ∨ unqV t = .tuple #[.string ⟨#[]⟩, .int .i64 3] := by
  unfold unqV
  cases h : unqL t with
  | none => exact .inr rfl
  | some x => exact .inl ⟨x, unq_iff.1 h, rfl⟩

theorem quote_words (l : List UInt8) : wordsL (quoteL l) = [quoteL l] :=
  words_one _ (quote_ne l) fun x hx h => by have := (quote_range l x hx).1; rw [h] at this; exact absurd this (by decide)

theorem quote_beq (l t : List UInt8) : (quoteL l == quoteL t) = (l == t) := by
  by_cases h : l = t
  · subst h; simp
  · have h2 : quoteL l ≠ quoteL t := fun e => h (quote_inj e)
    have e1 : (l == t) = false := by simpa using h
    have e2 : (quoteL l == quoteL t) = false := by simpa using h2
    rw [e1, e2]

theorem alloc_size (w : World) (o : Obj) : (w.alloc o).heap.size = w.heap.size + 1 := by show (w.heap.push o).size = _; exact Array.size_push _
theorem sees_one (w : World) (e : TypeId) (u : Value) : Sees (w.alloc (.cells #[u] e)) (w.alloc (.cells #[u] e)).heap.size 1 (some ⟨w.heap.size, 0, none⟩) 1 [u] :=
  ⟨rfl, fun _ => ⟨_, rfl, by rw [alloc_size]; exact Nat.lt_succ_self _, news1⟩⟩

theorem range_at {q : List UInt8} (h : ∀ x ∈ q, 33 ≤ x.toNat ∧ x.toNat ≤ 126) {k : Nat} (hk : k < q.length) : ∃ c : UInt8, (∀ h', (⟨q.toArray⟩ : ByteArray)[k]'h' = c) ∧ 33 ≤ c.toNat ∧ c.toNat ≤ 126 :=
  ⟨q[k], fun _ => rfl, h _ (List.getElem_mem hk)⟩

set_option maxHeartbeats 2000000 in
theorem back_walk (l t : List UInt8) (w : World) (hs : l.length ≤ maxLen) (ht : t.length ≤ maxLen) : Calls Try.prog 10 #[.string ⟨l.toArray⟩, .string ⟨t.toArray⟩] w fun e w' => e = .returned (.bool true) ∧ Pure' w w' := by
  have hsz : ((⟨l.toArray⟩ : ByteArray)).size = l.length := by simp [ByteArray.size]
  have hsz2 : ((⟨t.toArray⟩ : ByteArray)).size = t.length := by simp [ByteArray.size]
  unfold maxLen at hs ht
  have H5 := Lib.hid awake_
  by_cases h : 500 < l.length
  · go_enter Try.func10, Try.ntmps10
    go_wp2_with (go_at_call 23; refine (H5.out _).mono ?_; rintro e w1 ⟨rfl, hp1⟩)
    go_ret
    exact ⟨rfl, by assumption⟩
  by_cases h' : 500 < t.length
  · go_enter Try.func10, Try.ntmps10
    go_wp2_with (go_at_call 23; refine (H5.out _).mono ?_; rintro e w1 ⟨rfl, hp1⟩)
    go_ret
    exact ⟨rfl, by assumption⟩
  have u1 := unqV_back l
  have u2 := quote_words l
  have u3 := quote_range l
  have u4 := quote_beq l t
  have u5 := quote_len l
  have u6 := unqV_cases t
  obtain ⟨q, hq⟩ : ∃ q, quoteL l = q := ⟨_, rfl⟩
  obtain ⟨qt, hqt⟩ : ∃ qt, quoteL t = qt := ⟨_, rfl⟩
  rw [hq] at u1 u2 u3 u4 u5
  rw [hqt] at u4
  have H1 := Lib.hid (fun (s : List UInt8) w (h : s.length ≤ 3000) => quote_ s w (by omega))
  have H2 := Lib.hid (fun (s : List UInt8) w (h : s.length ≤ 3000) => unquote_ s w (by omega))
  have H3 : Hid (∀ w, Calls Try.prog 44 #[.string ⟨q.toArray⟩] w fun e w' => ∃ A c, e = .returned (.slice A 1 c) ∧ Sees w' w'.heap.size 1 A 1 ([(⟨q.toArray⟩ : ByteArray)].map Value.string) ∧ Pure' w w') := Lib.hid (fun w => by
    have := words_ q w (by omega)
    unfold WordsPost at this
    rw [u2] at this
    exact this)
  have H6 := Lib.hid same_
  have EQ := Lib.hid hq
  have EQT := Lib.hid hqt
  have EU := Lib.hid u1
  have HR := Lib.hid (fun k (h : k < q.length) => range_at u3 h)
  have HC := Lib.hid u6
  have hqs : ((⟨q.toArray⟩ : ByteArray)).size = q.length := by simp [ByteArray.size]
  clear hq hqt u1 u2 u3 u6
  obtain ⟨b, hb⟩ : ∃ b, (l == t) = b := ⟨_, rfl⟩
  rw [hb] at u4
  go_enter Try.func10, Try.ntmps10
  go_wp2_with (first
    | (go_at_call 24; refine (H1.out _ _ (by omega)).mono ?_; rintro e w1 ⟨rfl, hk⟩; first | (rw [EQ.out]; have HK1 := Lib.hid hk; clear hk) | (rw [EQT.out]; have HK2 := Lib.hid hk; clear hk))
    | (go_at_call 41; refine (H2.out _ _ (by omega)).mono ?_; rintro e w2 ⟨rfl, hk⟩; rw [EU.out]; have HK3 := Lib.hid hk; clear hk)
    | (go_at_call 44; refine (H3.out _).mono ?_; rintro e w3 ⟨A3, c3, rfl, hs3, hk⟩; have HK4 := Lib.hid hk; have HS3 := Lib.hid hs3; clear hk hs3)
    | (go_at_call 43; refine (H6.out _ _ _ _ _ (w3.heap.size + 1) [⟨q.toArray⟩] _ (HS3.out.pure ((Keeps.refl _ _).alloc _) (Nat.le_refl _) |>.more (Nat.le_succ _)) (sees_one w3 _ _ |>.more (Nat.le_of_eq (alloc_size _ _))) (by decide)).mono ?_; rintro e w5 ⟨rfl, m, rfl⟩))
  have HP := Lib.hid ((((((HK1.out.then_ HK3.out).then_ HK4.out).alloc _).drewN _).then_ HK2.out))
  clear HK1 HK2 HK3 HK4 HS3
  have htl : t.length ≤ 500 := by omega
  have hql : q.length ≤ 2004 := by omega
  clear u4 hb u5
  generalize hn : q.length = n at *
  go_loopw [8] (fun v8 wr => ∃ k : Nat, k ≤ n ∧ v8 = .int .i64 k ∧ wr = w1) (fun v8 _ => n - (intOf v8).toNat)
  case atStart => exact ⟨0, Nat.zero_le _, rfl, rfl⟩
  case round =>
    obtain ⟨k, hk, rfl, rfl⟩ := hrel
    by_cases hlt : k < n
    · obtain ⟨c, hg, hc1, hc2⟩ := HR.out k hlt
      have hlt2 := c.toNat_lt
      go_wp2
      go_roundw
      case rel => exact ⟨k + 1, by omega, by go_num, trivial⟩
      case measure => simp [intOf]; omega
    · obtain rfl : k = n := by omega
      rcases HC.out with ⟨x, hx, hv⟩ | hv
      · have hxl : x.length ≤ 3000 := by have := quote_ge x; rw [hx] at this; omega
        have EX := Lib.hid hx
        have EV := Lib.hid hv
        clear hx hv
        go_wp2_with (first
          | (go_at_call 41; refine (H2.out _ _ (by omega)).mono ?_; rintro e w2 ⟨rfl, hk⟩; rw [EV.out]; have HK3 := Lib.hid hk; clear hk)
          | (go_at_call 24; refine (H1.out _ _ (by omega)).mono ?_; rintro e w4 ⟨rfl, hk⟩; rw [EX.out]; have HK1 := Lib.hid hk; clear hk)
          | (go_at_call 23; refine (H5.out _).mono ?_; rintro e w6 ⟨rfl, hk⟩; have HK6 := Lib.hid hk; clear hk))
        go_ret
        exact ⟨rfl, ((HP.out.then_ HK3.out).then_ HK1.out).then_ HK6.out⟩
      · have EV := Lib.hid hv
        clear hv
        go_wp2_with (first
          | (go_at_call 41; refine (H2.out _ _ (by omega)).mono ?_; rintro e w2 ⟨rfl, hk⟩; rw [EV.out]; have HK3 := Lib.hid hk; clear hk)
          | (go_at_call 23; refine (H5.out _).mono ?_; rintro e w6 ⟨rfl, hk⟩; have HK6 := Lib.hid hk; clear hk))
        go_ret
        exact ⟨rfl, (HP.out.then_ HK3.out).then_ HK6.out⟩

theorem back_row (w : World) (s t : ByteArray) (hs : s.size ≤ maxLen) (ht : t.size ≤ maxLen) :
    Calls Try.prog 10 #[.string s, .string t] w fun e w' => e = .returned (.bool true) ∧ Pure' w w' := by
  exact back_walk s.data.toList t.data.toList w (by rw [← Lib.size_eq]; exact hs) (by rw [← Lib.size_eq]; exact ht)
end Go.Proofs.Ytacodojaolnhnaa
