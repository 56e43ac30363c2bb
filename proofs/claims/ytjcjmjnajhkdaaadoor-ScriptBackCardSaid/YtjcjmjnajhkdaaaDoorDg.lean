/- Numbers as texts, and back: the plain law of layer 1; no program in sight; A number's text, by the reference: what the walks of its functions give; no condition but that the number is an int; A number's text, by the program; no condition but that the number is an int; A row's text, by the program and by the reference; no condition but the sizes; A row's text, by the program; no condition but the sizes; The number of a text, by the program; no condition but the sizes; The number of a text, by the program; no condition but the sizes; The form of a number's text, by the reference; no condition but the sizes; The number of a text, by the reference; no condition but the sizes; A row's parts between commas, and what they are read as: the plain law; no program in sight; The numbers of a row, by the program and by the reference; no condition but the sizes, and that the variable of the search's b -/
import Derived.Test.YtjcjmjnajhkdaaaDoorMem
import Derived.Lib.Join
import Derived.Test.YtjcjmjnajhkdaaaDoorProg
import Derived.Test.YtjcjmjnajhkdaaaDoorShelf
import Derived.Lib.FieldsP
import Derived.Lib.SplitLaws
-- part DigL
namespace Go.Proofs.YtjcjmjnajhkdaaaDoor
set_option linter.unusedVariables false
set_option linter.unusedSimpArgs false

def dg (k : Nat) : UInt8 := UInt8.ofNat (48 + k)
def natL (k : Nat) : List UInt8 := if k < 10 then [dg k] else natL (k / 10) ++ [dg (k % 10)]
termination_by k
decreasing_by omega

def textL (n : Int) : List UInt8 := if n < 0 then 45 :: natL n.natAbs else natL n.natAbs

def isD (c : UInt8) : Bool := decide (48 ≤ c.toNat ∧ c.toNat ≤ 57)
def stripD (s : List UInt8) : List UInt8 := if s.head? = some 45 then s.tail else s
def valL (d : List UInt8) : Nat := d.foldl (fun a c => 10 * a + (c.toNat - 48)) 0
def formB (s : List UInt8) : Bool := (stripD s).all isD && (!(stripD s).isEmpty && ((stripD s).headD 0 != 48 || s == [48]))
def numZ (s : List UInt8) : Int := if s.head? = some 45 then -(valL (stripD s) : Int) else valL (stripD s)

theorem valL_snoc (d : List UInt8) (c : UInt8) : valL (d ++ [c]) = 10 * valL d + (c.toNat - 48) := by simp [valL]
theorem digit_of (k : Nat) (h : k < 10) : (dg k).toNat = 48 + k := by unfold dg; rw [UInt8.toNat_ofNat']; omega
theorem dg_of {k : Nat} {c : UInt8} (h : 48 + k = c.toNat) : dg k = c := by unfold dg; rw [h]; simp
theorem natL_small {k : Nat} (h : k < 10) : natL k = [dg k] := by rw [natL, if_pos h]
theorem natL_big {k : Nat} (h : ¬ k < 10) : natL k = natL (k / 10) ++ [dg (k % 10)] := by rw [natL, if_neg h]

theorem natL_val (k : Nat) : valL (natL k) = k := by
  induction k using Nat.strongRecOn with
  | _ k ih =>
    by_cases h : k < 10
    · rw [natL_small h]; simp only [valL, List.foldl]; rw [digit_of k h]; omega
    · rw [natL_big h, valL_snoc, ih (k / 10) (by omega), digit_of _ (by omega)]; omega
theorem natL_digits (k : Nat) : ∀ c ∈ natL k, 48 ≤ c.toNat ∧ c.toNat ≤ 57 := by
  induction k using Nat.strongRecOn with
  | _ k ih =>
    intro c hc
    by_cases h : k < 10
    · rw [natL_small h] at hc; rw [List.mem_singleton.1 hc, digit_of k h]; omega
    · rw [natL_big h] at hc
      rcases List.mem_append.1 hc with hc | hc
      · exact ih (k / 10) (by omega) c hc
      · rw [List.mem_singleton.1 hc, digit_of _ (by omega)]; omega
theorem natL_ne (k : Nat) : natL k ≠ [] := by
  by_cases h : k < 10
  · rw [natL_small h]; simp
  · rw [natL_big h]; simp
theorem natL_len (m k : Nat) (h : k < 10 ^ m) (hm : 1 ≤ m) : (natL k).length ≤ m := by
  induction m generalizing k with
  | zero => omega
  | succ m ih =>
    by_cases hk : k < 10
    · rw [natL_small hk]; simp
    · rw [natL_big hk, List.length_append]
      have h1 : k / 10 < 10 ^ m := by rw [Nat.pow_succ] at h; omega
      have h2 : 1 ≤ m := by
        rcases Nat.eq_zero_or_pos m with rfl | h2
        · simp at h; omega
        · exact h2
      have := ih (k / 10) h1 h2
      simp; omega
theorem natL_head (k : Nat) (hk : 0 < k) : (natL k).headD 0 ≠ 48 := by
  induction k using Nat.strongRecOn with
  | _ k ih =>
    by_cases h : k < 10
    · rw [natL_small h]
      intro he
      have := congrArg UInt8.toNat (show dg k = 48 from he)
      rw [digit_of k h] at this
      have h48 : (48 : UInt8).toNat = 48 := rfl
      omega
    · rw [natL_big h]
      have := ih (k / 10) (by omega) (by omega)
      cases hn : natL (k / 10) with
      | nil => exact absurd hn (natL_ne _)
      | cons a l => rw [hn] at this; simpa using this

theorem valL_cons (a : UInt8) (l : List UInt8) : ∀ b, l.foldl (fun a c => 10 * a + (c.toNat - 48)) b = b * 10 ^ l.length + valL l := by
  induction l with
  | nil => intro b; simp [valL]
  | cons c l ih =>
    intro b
    simp only [List.foldl_cons, List.length_cons, valL]
    rw [ih, ih (10 * 0 + (c.toNat - 48)), Nat.pow_succ, Nat.add_mul, Nat.mul_zero, Nat.zero_add]
    have : 10 * b * 10 ^ l.length = b * (10 ^ l.length * 10) := by rw [Nat.mul_comm 10 b, Nat.mul_assoc, Nat.mul_comm 10]
    omega
theorem valL_pos {c : UInt8} {l : List UInt8} (h : 48 ≤ c.toNat) (hc : c ≠ 48) : 10 ^ l.length ≤ valL (c :: l) := by
  have h1 : c.toNat ≠ 48 := fun e => hc (UInt8.toNat_inj.1 e)
  show _ ≤ (c :: l).foldl _ 0
  rw [List.foldl_cons, valL_cons c]
  have : 1 * 10 ^ l.length ≤ (10 * 0 + (c.toNat - 48)) * 10 ^ l.length := Nat.mul_le_mul_right _ (by omega)
  omega

/-- A row of digits, without a 0 ahead, is the text of its number. -/
theorem natL_of_val : ∀ (n : Nat) (d : List UInt8), d.length = n → d ≠ [] → (∀ c ∈ d, 48 ≤ c.toNat ∧ c.toNat ≤ 57) → (d.headD 0 ≠ 48 ∨ d = [48]) → natL (valL d) = d := by
  intro n
  induction n with
  | zero => intro d h hne; exact absurd (List.eq_nil_of_length_eq_zero h) hne
  | succ n ih =>
    intro d hl hne hd h0
    obtain ⟨d', c, rfl⟩ : ∃ d' c, d = d' ++ [c] := ⟨d.dropLast, d.getLast hne, (List.dropLast_concat_getLast hne).symm⟩
    have hc := hd c (by simp)
    rw [valL_snoc]
    by_cases he : d' = []
    · subst he
      have : 10 * valL [] + (c.toNat - 48) < 10 := by simp [valL]; omega
      rw [natL_small this]
      rw [dg_of (c := c) (by simp [valL]; omega), List.nil_append]
    · have hh : d'.headD 0 ≠ 48 := by
        rcases h0 with h0 | h0
        · cases d' with
          | nil => exact absurd rfl he
          | cons a l => simpa using h0
        · cases d' with
          | nil => exact absurd rfl he
          | cons a l => simp at h0
      have hv : 1 ≤ valL d' := by
        cases d' with
        | nil => exact absurd rfl he
        | cons a l =>
          have := valL_pos (l := l) (hd a (by simp)).1 (by simpa using hh)
          have : 0 < 10 ^ l.length := Nat.pow_pos (by decide)
          omega
      have h2 := ih d' (by simpa using hl) he (fun c hc => hd c (by simp [hc])) (.inl hh)
      rw [natL_big (by omega), show (10 * valL d' + (c.toNat - 48)) / 10 = valL d' by omega, h2, dg_of (c := c) (by omega)]

theorem natL_head_ne (k : Nat) : (natL k).head? ≠ some 45 := by
  cases h : natL k with
  | nil => simp
  | cons a l =>
    have := natL_digits k a (by rw [h]; simp)
    intro he
    simp at he
    rw [he] at this
    exact absurd this.1 (by decide)
theorem textL_neg {n : Int} (h : n < 0) : textL n = 45 :: natL n.natAbs := by rw [textL, if_pos h]
theorem textL_pos {n : Int} (h : ¬ n < 0) : textL n = natL n.natAbs := by rw [textL, if_neg h]
theorem textL_ne (n : Int) : textL n ≠ [] := by
  unfold textL; split
  · simp
  · exact natL_ne _
theorem strip_text (n : Int) : stripD (textL n) = natL n.natAbs := by
  by_cases h : n < 0
  · rw [textL_neg h]; rfl
  · rw [textL_pos h, stripD, if_neg (natL_head_ne _)]
theorem form_text (n : Int) : formB (textL n) = true := by
  unfold formB
  rw [strip_text]
  have h1 : (natL n.natAbs).all isD = true := List.all_eq_true.2 fun c hc => by simp [isD, natL_digits _ c hc]
  have h2 : (natL n.natAbs).isEmpty = false := by cases h : natL n.natAbs with | nil => exact absurd h (natL_ne _) | cons _ _ => rfl
  rw [h1, h2]
  by_cases h : n = 0
  · subst h
    have : textL 0 = [48] := by rw [textL_pos (by decide)]; exact natL_small (by decide)
    rw [this]; simp
  · have := natL_head n.natAbs (by omega)
    simp only [Bool.not_false, Bool.true_and, Bool.or_eq_true, bne_iff_ne]
    exact .inl this
theorem num_text (n : Int) : numZ (textL n) = n := by
  unfold numZ
  rw [strip_text, natL_val]
  by_cases h : n < 0
  · rw [textL_neg h, List.head?_cons, if_pos rfl]; omega
  · rw [textL_pos h, if_neg (natL_head_ne _)]; omega

theorem form_parts {s : List UInt8} (h : formB s = true) : (∀ c ∈ stripD s, 48 ≤ c.toNat ∧ c.toNat ≤ 57) ∧ stripD s ≠ [] ∧ ((stripD s).headD 0 ≠ 48 ∨ s = [48]) := by
  unfold formB at h
  simp only [Bool.and_eq_true, Bool.or_eq_true, List.all_eq_true, isD, decide_eq_true_eq, Bool.not_eq_true', bne_iff_ne, beq_iff_eq] at h
  obtain ⟨h1, h2, h3⟩ := h
  exact ⟨h1, by intro e; rw [e] at h2; exact absurd h2 (by decide), h3⟩
theorem text_num {s : List UInt8} (h : formB s = true) : textL (numZ s) = s := by
  obtain ⟨h1, h2, h3⟩ := form_parts h
  by_cases hm : s.head? = some 45
  · obtain ⟨r, rfl⟩ : ∃ r, s = 45 :: r := by
      cases s with
      | nil => simp at hm
      | cons a l => simp at hm; exact ⟨l, by rw [hm]⟩
    have hs : stripD (45 :: r) = r := rfl
    rw [hs] at h1 h2 h3
    have h0 : r.headD 0 ≠ 48 := by
      rcases h3 with h3 | h3
      · exact h3
      · simp at h3
    have hv : 1 ≤ valL r := by
      cases r with
      | nil => exact absurd rfl h2
      | cons a l =>
        have := valL_pos (l := l) (h1 a (by simp)).1 (by simpa using h0)
        have : 0 < 10 ^ l.length := Nat.pow_pos (by decide)
        omega
    have hz : numZ (45 :: r) = -(valL r : Int) := by unfold numZ; rw [List.head?_cons, if_pos rfl, hs]
    rw [hz, textL_neg (by omega), show (-(valL r : Int)).natAbs = valL r by omega, natL_of_val _ r rfl h2 h1 (.inl h0)]
  · have hs : stripD s = s := by rw [stripD, if_neg hm]
    rw [hs] at h1 h2 h3
    have hz : numZ s = (valL s : Int) := by unfold numZ; rw [if_neg hm, hs]
    rw [hz, textL_pos (by omega), show ((valL s : Nat) : Int).natAbs = valL s by omega, natL_of_val _ s rfl h2 h1 h3]
theorem val_big {d : List UInt8} (h1 : ∀ c ∈ d, 48 ≤ c.toNat ∧ c.toNat ≤ 57) (h0 : d.headD 0 ≠ 48) (hl : 20 ≤ d.length) : 10 ^ 19 ≤ valL d := by
  cases d with
  | nil => simp at hl
  | cons a l =>
    have h2 := valL_pos (l := l) (h1 a (by simp)).1 (by simpa using h0)
    have h3 : 10 ^ 19 ≤ 10 ^ l.length := Nat.pow_le_pow_right (by decide) (by simp at hl; omega)
    omega
theorem val_small : ∀ (d : List UInt8), (∀ c ∈ d, 48 ≤ c.toNat ∧ c.toNat ≤ 57) → valL d < 10 ^ d.length
  | [], _ => by simp [valL]
  | c :: l, h => by
    have h1 := val_small l fun c hc => h c (by simp [hc])
    have h2 := h c (by simp)
    show (c :: l).foldl _ 0 < _
    rw [List.foldl_cons, valL_cons c, List.length_cons, Nat.pow_succ]
    have : (10 * 0 + (c.toNat - 48)) * 10 ^ l.length ≤ 9 * 10 ^ l.length := Nat.mul_le_mul_right _ (by omega)
    omega

/-- The number of a text, or why there is none. -/
def parseV (s : List UInt8) (least most : Int) : Int × Int :=
  if formB s then (if -9223372036854775808 ≤ numZ s ∧ numZ s ≤ 9223372036854775807 ∧ least ≤ numZ s ∧ numZ s ≤ most then (numZ s, 0) else (0, 11)) else (0, 3)
theorem parse_back (n : Int) (h : -9223372036854775808 ≤ n ∧ n ≤ 9223372036854775807) : parseV (textL n) (-9223372036854775808) 9223372036854775807 = (n, 0) := by
  unfold parseV
  rw [form_text, num_text, if_pos rfl, if_pos ⟨h.1, h.2, h.1, h.2⟩]

/-- A row's text. -/
def rowL (l : List Int) : List UInt8 := if l = [] then [45] else Lib.join (l.map textL) [44]
theorem join_snoc (a : List UInt8) (l : List (List UInt8)) (x : List UInt8) : Lib.join ((a :: l) ++ [x]) [44] = Lib.join (a :: l) [44] ++ 44 :: x := by
  induction l generalizing a with
  | nil => simp [Lib.join_cons, Lib.joinTail]
  | cons b l ih => simp [Lib.join_cons, Lib.joinTail]
end Go.Proofs.YtjcjmjnajhkdaaaDoor

-- part DigA
namespace Go.Proofs.YtjcjmjnajhkdaaaDoor
open Go.RowKit
set_option linter.unusedVariables false
set_option linter.unusedSimpArgs false
set_option maxRecDepth 100000

theorem tdiv_neg10 {n : Int} (h : n < 0) : Int.tdiv n 10 = -((n.natAbs / 10 : Nat) : Int) := by
  have e : n = -((n.natAbs : Nat) : Int) := by omega
  conv => lhs; rw [e, Int.neg_tdiv]
  rfl
theorem tmod_neg10 {n : Int} (h : n < 0) : Int.tmod n 10 = -((n.natAbs % 10 : Nat) : Int) := by
  have e : n = -((n.natAbs : Nat) : Int) := by omega
  conv => lhs; rw [e, Int.neg_tmod]
  rfl
theorem ret_num {k : IntKind} {a b : Int} (h : a = b) : Ending.returned (.int k a) = .returned (.int k b) := by rw [h]
theorem size_ (n : Int) (w : World) (h1 : -9223372036854775808 ≤ n) (h2 : n ≤ 9223372036854775807) : Calls Tryd.prog 75 #[.int .i64 n] w fun e w' => e = .returned (.int .u64 n.natAbs) ∧ w = w' := by
  go_enter Tryd.func75, Tryd.ntmps75
  by_cases h : n < 0
  · go_wp2
    go_ret
    exact ⟨ret_num (by omega), rfl⟩
  · go_wp2
    go_ret
    exact ⟨ret_num (by omega), rfl⟩

end Go.Proofs.YtjcjmjnajhkdaaaDoor

-- part DigB
namespace Go.Proofs.YtjcjmjnajhkdaaaDoor
open Go.RowKit
set_option linter.unusedVariables false
set_option linter.unusedSimpArgs false
set_option maxRecDepth 100000

/-- The array: zeros, then what is written. -/
def arrL (suf : List UInt8) : List Value := List.replicate (20 - suf.length) (.int .u8 0) ++ suf.map byteV
theorem arr_len {suf : List UInt8} (h : suf.length ≤ 20) : (arrL suf).length = 20 := by simp [arrL]; omega
theorem arr_set {suf : List UInt8} (h : suf.length < 20) (c : UInt8) : (arrL suf).toArray.setIfInBounds (20 - suf.length - 1) (byteV c) = (arrL (c :: suf)).toArray := by
  have e : 20 - suf.length = (19 - suf.length) + 1 := by omega
  rw [show 20 - suf.length - 1 = 19 - suf.length by omega]
  rw [List.setIfInBounds_toArray]
  congr 1
  unfold arrL
  rw [e, List.replicate_succ', List.append_assoc, List.set_append_right _ _ (by simp)]
  simp
theorem byte_dg (k : Nat) : byteV (dg (k % 10)) = .int .u8 (48 + (k : Int) % 10) := by
  unfold byteV; rw [digit_of _ (by omega)]; rfl
theorem arr_get {suf : List UInt8} (h : suf.length ≤ 20) {p : Nat} (hp : p < 20) : ∃ u, (arrL suf).toArray[p]? = some u := by
  rw [List.getElem?_toArray, List.getElem?_eq_getElem (by rw [arr_len h]; exact hp)]
  exact ⟨_, rfl⟩

theorem slice20 (g p n : Nat) (z : Int) (hz : z = p) (hp : p + n = 20) (hn : 0 < n) (W : World) : (Instr.sliceAt 109 (.pointer (some ⟨g, 0, none⟩)) (some (.int .i64 z)) none none).run Tryd.prog W = .ok (.slice (some ⟨g, p, none⟩) n n) W := by
  have hal : Tryd.prog.arrayLen 109 = 20 := by simp [Program.arrayLen, Tryd.underlying109]
  have hel : Tryd.prog.elem 109 = 5 := by simp [Program.elem, Tryd.underlying109]
  rw [run_sliceAt_array_l W 109 ⟨g, 0, none⟩ (by rw [hal, hel]; exact Tryd.underlying109) .i64 z (by omega) (by rw [hal]; omega), hal, hel, Tryd.sizeOf5]
  subst hz
  simp only [Result.andThen, slicedAt, Int.toNat_natCast, Addr.add]
  rw [if_neg (by omega), show 20 - p = n by omega]
  simp
  omega
theorem conv20 {W : World} {g : Nat} {suf : List UInt8} (h : Blk W g 109 (arrL suf).toArray) (hs : suf.length ≤ 20) : (convert 87 9 (.slice (some ⟨g, 20 - suf.length, none⟩) suf.length suf.length)).run Tryd.prog W = .ok (.string ⟨suf.toArray⟩) W := by
  rw [run_convert_bytes_arg W 87 5 Tryd.underlying87 Tryd.underlying5 g (20 - suf.length) suf.length suf.length (suf.map fun b => (b.toNat : Int)) (by simp) (fun i hi => ?_) 9 Tryd.underlying9]
  · congr 3
    unfold strOfNums
    congr 2
    rw [List.map_map]
    exact (List.map_congr_left (fun b _ => by simp)).trans (List.map_id suf)
  · rw [h.cell, List.getElem?_toArray, arrL, List.getElem?_append_right (by simp)]
    simp [List.getD, hi, byteV]

set_option maxHeartbeats 1000000 in
theorem text_ (n : Int) (w : World) (h1 : -9223372036854775808 ≤ n) (h2 : n ≤ 9223372036854775807) : Calls Tryd.prog 56 #[.int .i64 n] w fun e w' => e = .returned (.string ⟨(textL n).toArray⟩) ∧ Pure' w w' := by
  have hl := natL_len 19 n.natAbs (by omega) (by omega)
  obtain ⟨k0, hk0⟩ : ∃ k, n.natAbs = k := ⟨_, rfl⟩
  rw [hk0] at hl
  have HS : Hid (∀ w, Calls Tryd.prog 75 #[.int .i64 n] w fun e w' => e = .returned (.int .u64 k0) ∧ w = w') := Lib.hid (fun w => by have := size_ n w h1 h2; rwa [hk0] at this)
  go_enter Tryd.func56, Tryd.ntmps56
  go_wp2_with (go_at_call 75; refine (HS.out _).mono ?_; rintro e w1 ⟨rfl, rfl⟩)
  have HB0 := Lib.hid (show Blk (w.alloc (.cells (arrL []).toArray 109)) w.heap.size 109 (arrL []).toArray from Blk.new w _ _)
  go_loopw [4, 5] (fun v4 v5 wr => ∃ (k : Nat) (suf : List UInt8), natL k0 = natL k ++ suf ∧ k ≤ 9223372036854775808 ∧ v5 = .int .u64 k ∧ v4 = .int .i64 (20 - suf.length : Nat) ∧ Blk wr w.heap.size 109 (arrL suf).toArray ∧ Pure' w wr) (fun _ v5 _ => (intOf v5).toNat)
  case atStart => exact ⟨k0, [], by simp, by omega, rfl, rfl, HB0.out, (Keeps.refl _ w).alloc _⟩
  case round =>
    obtain ⟨k, suf, hkk, hkb, rfl, rfl, hB, hp⟩ := hrel
    have hpos := List.length_pos_iff.2 (natL_ne k)
    have hls : suf.length + (natL k).length ≤ 19 := by rw [hkk, List.length_append] at hl; omega
    have hsl : suf.length ≤ 18 := by omega
    obtain ⟨u, hu⟩ := arr_get (suf := suf) (by omega) (p := 20 - suf.length - 1) (by omega)
    have c0 := hB.cell (20 - suf.length - 1)
    rw [hu] at c0
    have f0 := hB.frozen (20 - suf.length - 1)
    have hB1 := hB.set_ (20 - suf.length - 1) (byteV (dg (k % 10)))
    rw [arr_set (by omega), byte_dg] at hB1
    have HP1 := Lib.hid (hp.setCell (p := ⟨w.heap.size, 20 - suf.length - 1, none⟩) (.inr (Nat.le_refl _)) (.int .u8 (48 + (k : Int) % 10)))
    by_cases h10 : k < 10
    · rw [natL_small h10] at hkk
      have hkk' : natL k0 = dg (k % 10) :: suf := by rw [hkk, Nat.mod_eq_of_lt h10]; rfl
      have h10' : (k : Int) < 10 := by omega
      have hsl2 : suf.length + 1 ≤ 19 := by omega
      by_cases hn : n < 0
      · have ht : textL n = 45 :: dg (k % 10) :: suf := by rw [textL_neg hn, hk0, hkk']
        obtain ⟨u1, hu1⟩ := arr_get (suf := dg (k % 10) :: suf) (by simp; omega) (p := 20 - suf.length - 1 - 1) (by omega)
        have c1 := hB1.cell (20 - suf.length - 1 - 1)
        rw [hu1] at c1
        have f1 := hB1.frozen (20 - suf.length - 1 - 1)
        have hB2 := hB1.set_ (20 - suf.length - 1 - 1) (byteV 45)
        have ha := arr_set (suf := dg (k % 10) :: suf) (by simp; omega) 45
        rw [List.length_cons, ← Nat.sub_sub] at ha
        rw [ha, show byteV 45 = .int .u8 45 from rfl] at hB2
        have hcv := conv20 hB2 (by simp; omega)
        rw [List.length_cons, List.length_cons, ← Nat.sub_sub, ← Nat.sub_sub] at hcv
        have hsl := slice20 w.heap.size (20 - suf.length - 1 - 1) (suf.length + 1 + 1) (((20 - suf.length : Nat) : Int) - 1 - 1) (by omega) (by omega) (by omega)
        have HP2 := Lib.hid (HP1.out.setCell (p := ⟨w.heap.size, 20 - suf.length - 1 - 1, none⟩) (.inr (Nat.le_refl _)) (.int .u8 45))
        have HT := Lib.hid ht
        clear hu hu1 hpos hB hB1 hB2 hkk hkk' hp ht ha
        generalize dg (k % 10) :: suf = T at *
        generalize suf.length = m at *
        go_wp2
        go_ret
        rw [HT.out]
        exact ⟨rfl, HP2.out⟩
      · have ht : textL n = dg (k % 10) :: suf := by rw [textL_pos hn, hk0, hkk']
        have hcv := conv20 hB1 (by simp; omega)
        rw [List.length_cons, ← Nat.sub_sub] at hcv
        have hsl := slice20 w.heap.size (20 - suf.length - 1) (suf.length + 1) (((20 - suf.length : Nat) : Int) - 1) (by omega) (by omega) (by omega)
        have HT := Lib.hid ht
        clear hu hpos hB hB1 hkk hkk' hp ht
        generalize dg (k % 10) :: suf = T at *
        generalize suf.length = m at *
        go_wp2
        go_ret
        rw [HT.out]
        exact ⟨rfl, HP1.out⟩
    · have h10' : ¬ (k : Int) < 10 := by omega
      rw [natL_big h10] at hkk
      have HB1 := Lib.hid hB1
      have HK := Lib.hid hkk
      clear hkk hB1 hp hpos hB hu
      generalize hm : suf.length = m at *
      have HM := Lib.hid hm
      clear hm
      go_wp2
      go_roundw
      case rel =>
        refine ⟨k / 10, dg (k % 10) :: suf, by rw [HK.out]; simp, by omega, by go_num, ?_, HB1.out, HP1.out⟩
        have := HM.out
        simp
        omega
      case measure => simp [intOf]; omega
end Go.Proofs.YtjcjmjnajhkdaaaDoor

-- part DigC
namespace Go.Proofs.YtjcjmjnajhkdaaaDoor
open Go.RowKit
set_option linter.unusedVariables false
set_option linter.unusedSimpArgs false
set_option maxRecDepth 100000

/-- The text of the first k numbers. -/
def jn (zs : List Int) (k : Nat) : List UInt8 := Lib.join ((zs.take k).map textL) [44]
theorem jn_zero (zs : List Int) : jn zs 0 = [] := rfl
theorem take_next {zs : List Int} {k : Nat} {z : Int} (h : zs[k]? = some z) : zs.take (k + 1) = zs.take k ++ [z] := by
  rw [List.take_add_one, h]; rfl
theorem jn_one {zs : List Int} {z : Int} (h : zs[0]? = some z) : jn zs 1 = textL z := by
  unfold jn; rw [take_next h]; simp [Lib.join_one]
theorem jn_succ {zs : List Int} {k : Nat} {z : Int} (h : zs[k]? = some z) (hk : 0 < k) : jn zs (k + 1) = jn zs k ++ 44 :: textL z := by
  unfold jn
  rw [take_next h, List.map_append]
  have hl : k < zs.length := (List.getElem?_eq_some_iff.1 h).1
  cases hm : (zs.take k).map textL with
  | nil =>
    have : min k zs.length = 0 := by rw [← List.length_take, ← List.length_map (f := textL), hm]; rfl
    omega
  | cons a l => exact join_snoc a l _
theorem textL_len {z : Int} (h1 : -9223372036854775808 ≤ z) (h2 : z ≤ 9223372036854775807) : (textL z).length ≤ 20 := by
  have := natL_len 19 z.natAbs (by omega) (by omega)
  unfold textL; split
  · simp; omega
  · omega
theorem jn_len {zs : List Int} (hz : ∀ z ∈ zs, -9223372036854775808 ≤ z ∧ z ≤ 9223372036854775807) : ∀ k, k ≤ zs.length → (jn zs k).length ≤ 21 * k
  | 0, _ => Nat.le_refl _
  | k + 1, hk => by
    have ih := jn_len hz k (by omega)
    have h := List.getElem?_eq_getElem (l := zs) (i := k) (by omega)
    have hb := hz zs[k] (List.getElem_mem _)
    have ht := textL_len hb.1 hb.2
    rcases Nat.eq_zero_or_pos k with rfl | hk0
    · rw [jn_one h]; omega
    · rw [jn_succ h hk0]; simp; omega
theorem jn_all (zs : List Int) (h : zs ≠ []) : jn zs zs.length = rowL zs := by
  unfold jn rowL; rw [if_neg h, List.take_of_length_le (Nat.le_refl _)]
theorem jn_ne {zs : List Int} {k : Nat} (h : 0 < k) (hk : k ≤ zs.length) : (jn zs k).isEmpty = false := by
  obtain ⟨j, rfl⟩ : ∃ j, k = j + 1 := ⟨k - 1, by omega⟩
  have hh := List.getElem?_eq_getElem (l := zs) (i := j) (by omega)
  rcases Nat.eq_zero_or_pos j with rfl | h0
  · rw [jn_one hh]
    cases e : textL zs[0] with
    | nil => exact absurd e (textL_ne _)
    | cons _ _ => rfl
  · rw [jn_succ hh h0]; simp

/-- The number at place k of a row that came in. -/
theorem ints_at {w : World} {B n k : Nat} {A : Option Addr} {zs : List Int} (h : Sees w B 1 A n (zs.map (Value.int .i64))) (hk : k < n) : ∃ (ad : Addr) (z : Int), A = some ad ∧ zs[k]? = some z ∧ w.cell? (ad.add k) = some (.int .i64 z) := by
  obtain ⟨ad, u, hA, hu, hc⟩ := h.at_ hk
  have hl : k < zs.length := by have := h.1; simp at this; omega
  refine ⟨ad, zs[k], hA, List.getElem?_eq_getElem hl, ?_⟩
  rw [List.getElem?_map, List.getElem?_eq_getElem hl] at hu
  simp only [Option.map_some, Option.some.injEq] at hu
  rw [hc, hu]

end Go.Proofs.YtjcjmjnajhkdaaaDoor

-- part DigD
namespace Go.Proofs.YtjcjmjnajhkdaaaDoor
open Go.RowKit
set_option linter.unusedVariables false
set_option linter.unusedSimpArgs false
set_option maxRecDepth 100000

theorem strInfo' : (Tryd.prog.info? 9).map (fun i => (i.zero, i.size, i.bytes)) = some (some (.string ByteArray.empty), 1, 16) := by kernel_rfl
def txV (z : Int) : Value := .string ⟨(textL z).toArray⟩
/-- The texts of the first k numbers, and empty texts behind. -/
def prt (zs : List Int) (k : Nat) : List Value := (zs.take k).map txV ++ List.replicate (zs.length - k) (.string ⟨#[]⟩)
theorem prt_zero (zs : List Int) : prt zs 0 = List.replicate zs.length (.string ⟨#[]⟩) := by simp [prt]
theorem prt_all (zs : List Int) : prt zs zs.length = zs.map txV := by simp [prt]
theorem prt_set {zs : List Int} {k : Nat} {z : Int} (h : zs[k]? = some z) : (prt zs k).set k (txV z) = prt zs (k + 1) := by
  have hk : k < zs.length := (List.getElem?_eq_some_iff.1 h).1
  unfold prt
  rw [take_next h, show zs.length - k = (zs.length - (k + 1)) + 1 by omega, List.replicate_succ, List.map_append, List.append_assoc]
  have hl : ((zs.take k).map txV).length = k := by simp; omega
  have := Lib.set_mid ((zs.take k).map txV) (Value.string ⟨#[]⟩) (txV z) (List.replicate (zs.length - (k + 1)) (.string ⟨#[]⟩))
  rw [hl] at this
  rw [this]
  rfl

set_option maxHeartbeats 1000000 in
theorem row_ (A : Option Addr) (n c B : Nat) (zs : List Int) (w : World) (h : Sees w B 1 A n (zs.map (Value.int .i64))) (hB : B ≤ w.heap.size) (hn : n ≤ 1000) (hz : ∀ z ∈ zs, -9223372036854775808 ≤ z ∧ z ≤ 9223372036854775807) :
    Calls Tryd.prog 58 #[.slice A n c] w fun e w' => e = .returned (.string ⟨(rowL zs).toArray⟩) ∧ Pure' w w' := by
  have hll : zs.length = n := by have := h.1; simpa using this
  obtain ⟨i0, hi, hz0, hz1, hz2⟩ := info_parts strInfo'
  have HS := Lib.hid h
  have HZ := Lib.hid hz
  have HN := Lib.hid hll
  by_cases h0 : n = 0
  · subst h0
    have hzs : zs = [] := List.eq_nil_of_length_eq_zero hll
    subst hzs
    go_enter Tryd.func58, Tryd.ntmps58
    go_wp2
    go_ret
    exact ⟨rfl, Keeps.refl _ _⟩
  clear h hz hll
  go_enter Tryd.func58, Tryd.ntmps58
  go_wp2_with (at_make; refine wpl_make _ rfl (.tmp 10) (.tmp 10) 23 rfl 9 i0 (.string ByteArray.empty) Tryd.underlying23 hi hz0 hz1 rfl .i64 .i64 _ _ n rfl rfl rfl rfl ?b2 ?b3 ?k)
  case b2 => rw [hz2]; omega
  case b3 => unfold maxLen; omega
  case k =>
    intro w1 ho hg hlt
    have HK := Lib.hid ((Keeps.refl (fun _ => False) w).grown hg (fun k hk => by cases hk))
    have HO : Hid (Row w1 9 1 (.slice (some ⟨w.heap.size, 0, none⟩) n n) n (prt zs 0)) := Lib.hid (by rw [prt_zero, HN.out]; exact ho)
    have HT := Lib.hid text_
    clear ho hg
    generalize hb : w.heap.size = b at *
    go_wp2
    go_loopw [14] (fun v14 wr => ∃ k : Nat, k ≤ n ∧ v14 = .int .i64 k ∧ Row wr 9 1 (.slice (some ⟨b, 0, none⟩) n n) n (prt zs k) ∧ Pure' w wr) (fun v14 _ => n - (intOf v14).toNat)
    case atStart => exact ⟨0, Nat.zero_le _, rfl, HO.out, HK.out⟩
    case round =>
      obtain ⟨k, hk, rfl, hr, hp⟩ := hrel
      by_cases hlt : k < n
      · have hs2 := HS.out.pure hp (by omega)
        obtain ⟨ad, z, rfl, hzk, hc⟩ := ints_at hs2 hlt
        have hbd := HZ.out z (List.mem_of_getElem? hzk)
        have HR := Lib.hid hr
        have HP := Lib.hid hp
        have HT' := Lib.hid (fun w => text_ z w hbd.1 hbd.2)
        have HSet := Lib.hid (prt_set hzk)
        clear hr hp hs2 hzk
        go_wp2_with (go_at_call 56; refine (HT'.out _).mono ?_; rintro e w2 ⟨rfl, hk2⟩; have HR1 := Lib.hid (HR.out.keep hk2 (fun _ _ h => h)); have HP1 := Lib.hid (HP.out.then_ hk2); clear hk2; obtain ⟨u, hu, hcu⟩ := Row.at_ HR1.out (i := k) (by omega); have f0 := Row.free HR1.out (i := k); clear hu)
        go_roundw
        case rel =>
          refine ⟨k + 1, by omega, by go_num, ?_, HP1.out.setCell (p := ⟨b, k, none⟩) (.inr (Nat.le_of_eq hb)) _⟩
          have := Row.set_ HR1.out (i := k) (txV z)
          rw [HSet.out] at this
          exact this
        case measure => simp [intOf]; omega
      · obtain rfl : k = n := by omega
        have e1 : (zs.map (fun z => (⟨(textL z).toArray⟩ : ByteArray))).length = k := by rw [List.length_map]; exact HN.out
        have e2 : (zs.map (fun z => (⟨(textL z).toArray⟩ : ByteArray))).map (·.data.toList) = zs.map textL := by
          rw [List.map_map]; exact List.map_congr_left fun z _ => by simp
        have hzne : zs ≠ [] := fun e => by have := HN.out; rw [e] at this; exact h0 this.symm
        have e3 : Lib.join (zs.map textL) [44] = rowL zs := by unfold rowL; rw [if_neg hzne]
        have hlen : (rowL zs).length ≤ 21 * k := by rw [← jn_all zs hzne, HN.out]; exact jn_len HZ.out k (by rw [HN.out]; exact Nat.le_refl _)
        have hrr := hr
        rw [show prt zs k = zs.map txV by have := prt_all zs; rwa [HN.out] at this] at hrr
        have hJ := Tryd.strings_Join b 0 k (zs.map (fun z => (⟨(textL z).toArray⟩ : ByteArray))) ⟨#[44]⟩ wr (fun j x hx => by
            rw [Nat.zero_add]
            refine hrr.cell ?_
            rw [List.getElem?_map] at hx ⊢
            cases hq : zs[j]? with
            | none => rw [hq] at hx; cases hx
            | some z => rw [hq] at hx; simp at hx; rw [← hx]; rfl) (hr.lt b rfl) (by rw [e1]; omega) (by rw [e1]; exact Nat.le_refl _) (by
            rw [e2, show (⟨#[44]⟩ : ByteArray).data.toList = [44] from rfl, e3]; omega)
        rw [e1, e2, show (⟨#[44]⟩ : ByteArray).data.toList = [44] from rfl, e3] at hJ
        have HJ := Lib.hid hJ
        have HP := Lib.hid hp
        clear hJ hr hrr hp hlen e1 e2 e3
        go_wp2_with (go_at_call 26; refine HJ.out.mono ?_; rintro e w2 ⟨rfl, hk2⟩; have HP1 := Lib.hid (HP.out.then_ (Keeps.of_below hk2)); clear hk2)
        go_ret
        exact ⟨rfl, HP1.out⟩
end Go.Proofs.YtjcjmjnajhkdaaaDoor

-- part DigE
namespace Go.Proofs.YtjcjmjnajhkdaaaDoor
open Go.RowKit
set_option linter.unusedVariables false
set_option linter.unusedSimpArgs false
set_option maxRecDepth 100000

theorem trim_strip (s : List UInt8) : Lib.trimPrefix s [45] = stripD s := by
  unfold Lib.trimPrefix Lib.hasPrefix stripD
  cases s with
  | nil => simp
  | cons a l =>
    by_cases h : a = 45
    · subst h; simp [List.isPrefixOf]
    · have h' : ¬ 45 = a := fun e => h e.symm
      simp [List.isPrefixOf, h, h']

def formV (s : List UInt8) : Value := if (stripD s).all isD = true then .tuple #[.string ⟨(stripD s).toArray⟩, .bool (formB s)] else .tuple #[.string ⟨#[]⟩, .bool false]

theorem formV_bad {s : List UInt8} (h : (stripD s).all isD = false) : formV s = .tuple #[.string ⟨#[]⟩, .bool false] := by unfold formV; rw [h]; rfl
theorem formV_good {s : List UInt8} (h : (stripD s).all isD = true) : formV s = .tuple #[.string ⟨(stripD s).toArray⟩, .bool (formB s)] := by unfold formV; rw [h]; rfl
theorem bytes_pure (w : World) (t : TypeId) (s : ByteArray) : Pure' w (Lib.bytesWorld w t s) :=
  ⟨rfl, rfl, rfl, by rw [Lib.bytesWorld_size]; omega, fun k hk _ => Lib.bytesWorld_at_old _ _ _ _ hk⟩

theorem take_all {d : List UInt8} {k : Nat} {c : UInt8} (h : d[k]? = some c) (ha : (d.take k).all isD = true) (hc : isD c = true) : (d.take (k + 1)).all isD = true := by
  rw [List.take_add_one, h]
  simp only [Option.toList, List.all_append, ha, Bool.true_and]
  simp [hc]

set_option maxHeartbeats 1000000 in
theorem form_ (s : List UInt8) (w : World) (hs : s.length ≤ 1000000) : Calls Tryd.prog 82 #[.string ⟨s.toArray⟩] w fun e w' => e = .returned (formV s) ∧ Pure' w w' := by
  have ht := Tryd.strings_TrimPrefix ⟨s.toArray⟩ ⟨#[45]⟩ w
  rw [show (⟨#[45]⟩ : ByteArray).data.toList = [45] from rfl, show (⟨s.toArray⟩ : ByteArray).data.toList = s from rfl, trim_strip] at ht
  have hdl : (stripD s).length ≤ 1000000 := by
    unfold stripD
    split
    · rw [List.length_tail]; omega
    · exact hs
  obtain ⟨d, hd⟩ : ∃ d, stripD s = d := ⟨_, rfl⟩
  rw [hd] at ht hdl
  have HT := Lib.hid ht
  have HD := Lib.hid hd
  clear ht hd
  go_enter Tryd.func82, Tryd.ntmps82
  go_wp2_with (go_at_call 92; refine HT.out.mono ?_; rintro e w1 ⟨rfl, rfl⟩)
  rw [Lib.run_convert_string_bytes _ 9 87 5 _ Tryd.underlying9 Tryd.underlying87 Tryd.underlying5]
  simp only [Result.andThen]
  rw [Oper.upon_value]
  have hsz : ((⟨d.toArray⟩ : ByteArray)).size = d.length := by simp [ByteArray.size]
  have HC : Hid (∀ k c, d[k]? = some c → (Lib.bytesWorld w1 5 ⟨d.toArray⟩).cell? ⟨w1.heap.size, k, none⟩ = some (.int .u8 c.toNat)) := Lib.hid (fun k c hk => by
    have hlt := (List.getElem?_eq_some_iff.1 hk).1
    have := Lib.bytesWorld_cell w1 5 ⟨d.toArray⟩ k (by rw [hsz]; exact hlt)
    simpa [hk] using this)
  have HP := Lib.hid (bytes_pure w1 5 ⟨d.toArray⟩)
  rw [hsz]
  generalize hcap : grownCap _ _ _ _ = cap
  generalize Lib.bytesWorld w1 5 ⟨d.toArray⟩ = w2 at *
  generalize hn : d.length = n at *
  go_wp2
  go_loopw [12] (fun v wr => ∃ k : Nat, k ≤ n ∧ v = .int .i64 k ∧ (d.take k).all isD = true ∧ wr = w2) (fun v _ => n - (intOf v).toNat)
  case atStart => exact ⟨0, Nat.zero_le _, rfl, rfl, rfl⟩
  case round =>
    obtain ⟨k, hk, rfl, hall, rfl⟩ := hrel
    have HA := Lib.hid hall
    clear hall
    by_cases hlt : k < n
    · obtain ⟨c, hdk⟩ : ∃ c, d[k]? = some c := ⟨_, List.getElem?_eq_getElem (by omega)⟩
      have hc := HC.out k c hdk
      have hcl := c.toNat_lt
      by_cases hD : isD c = true
      · have HA1 := Lib.hid (take_all hdk HA.out hD)
        have hb : 48 ≤ c.toNat ∧ c.toNat ≤ 57 := by simpa [isD] using hD
        obtain ⟨hb1, hb2⟩ := hb
        clear hdk hD
        go_wp2
        go_roundw
        case rel => exact ⟨k + 1, by omega, by go_num, HA1.out, trivial⟩
        case measure => simp [intOf]; omega
      · have HF : Hid (formV s = .tuple #[.string ⟨#[]⟩, .bool false]) := Lib.hid (formV_bad (by
          rw [HD.out]
          cases h : d.all isD with
          | false => rfl
          | true => exact absurd (List.all_eq_true.1 h c (List.mem_of_getElem? hdk)) hD))
        have hb : (c.toNat : Int) < 48 ∨ (57 : Int) < c.toNat := by
          simp [isD] at hD
          omega
        clear hdk hD
        rcases hb with hb | hb
        · go_wp2
          go_ret2
          rw [HF.out]
          exact ⟨rfl, HP.out⟩
        · have hb' : (48 : Int) ≤ c.toNat := by omega
          go_wp2
          go_ret2
          rw [HF.out]
          exact ⟨rfl, HP.out⟩
    · obtain rfl : k = n := by omega
      have hall : (stripD s).all isD = true := by rw [HD.out]; have := HA.out; rwa [List.take_of_length_le (by omega)] at this
      have hF := formV_good hall
      unfold formB at hF
      rw [hall, HD.out] at hF
      cases d with
      | nil =>
        have HF := Lib.hid hF
        clear hF hall
        go_wp2
        go_ret2
        rw [HF.out]
        exact ⟨rfl, HP.out⟩
      | cons c r =>
        have hg : ∀ h', (⟨(c :: r).toArray⟩ : ByteArray)[0]'h' = c := fun _ => rfl
        have hcl := c.toNat_lt
        simp only [List.isEmpty_cons, Bool.not_false, Bool.true_and, List.headD_cons] at hF
        have hck : (c != 48) = ((c.toNat : Int) != 48) := by
          by_cases h : c = 48
          · subst h; rfl
          · have : c.toNat ≠ 48 := fun e => h (UInt8.toNat_inj.1 e)
            have h1 : (c != 48) = true := by simpa using h
            rw [h1]; symm; simp; omega
        rw [hck] at hF
        have hq3 : (c :: r).isEmpty = false := rfl
        have hql : 0 < k := by simp at hn; omega
        generalize hb1 : ((c.toNat : Int) != 48) = b1 at *
        generalize hb2 : (s == [48]) = b2 at *
        have HF := Lib.hid hF
        clear hF hall hck
        generalize c :: r = dd at *
        cases b1 with
        | true =>
          go_wp2
          go_ret2
          rw [HF.out]
          exact ⟨rfl, HP.out⟩
        | false =>
          go_wp2
          go_ret2
          rw [HF.out]
          exact ⟨rfl, HP.out⟩
end Go.Proofs.YtjcjmjnajhkdaaaDoor

-- part DigF
namespace Go.Proofs.YtjcjmjnajhkdaaaDoor
open Go.RowKit
set_option linter.unusedVariables false
set_option linter.unusedSimpArgs false
set_option maxRecDepth 100000

def parseR (s : List UInt8) (least most : Int) : Value := .tuple #[.int .i64 (parseV s least most).1, .int .i64 (parseV s least most).2]
theorem ret_two {k : IntKind} {x y : Int} {z : Value} (h : x = y) : Ending.returned (.tuple #[.int k x, z]) = .returned (.tuple #[.int k y, z]) := by rw [h]
theorem parse_form {s : List UInt8} (h : formB s = false) (least most : Int) : parseR s least most = .tuple #[.int .i64 0, .int .i64 3] := by
  unfold parseR parseV; rw [h]; rfl
theorem parse_out {s : List UInt8} (h : formB s = true) {least most : Int} (hz : numZ s < -9223372036854775808 ∨ 9223372036854775807 < numZ s ∨ numZ s < least ∨ most < numZ s) : parseR s least most = .tuple #[.int .i64 0, .int .i64 11] := by
  unfold parseR parseV; rw [if_pos h, if_neg (by omega)]
theorem parse_in {s : List UInt8} (h : formB s = true) {least most : Int} {z : Int} (e : numZ s = z) (hz : -9223372036854775808 ≤ z ∧ z ≤ 9223372036854775807 ∧ least ≤ z ∧ z ≤ most) : parseR s least most = .tuple #[.int .i64 z, .int .i64 0] := by
  unfold parseR parseV; rw [if_pos h, e, if_pos hz]
theorem form_no {s : List UInt8} (h : formB s = false) : ∃ x, formV s = .tuple #[.string x, .bool false] := by
  cases ha : (stripD s).all isD with
  | true => exact ⟨_, by rw [formV_good ha, h]⟩
  | false => exact ⟨_, formV_bad ha⟩
theorem form_yes {s : List UInt8} (h : formB s = true) : formV s = .tuple #[.string ⟨(stripD s).toArray⟩, .bool true] := by
  have ha : (stripD s).all isD = true := by unfold formB at h; rw [Bool.and_eq_true] at h; exact h.1
  rw [formV_good ha, h]
theorem num_long {s : List UInt8} (h : formB s = true) (hl : 20 ≤ (stripD s).length) : numZ s < -9223372036854775808 ∨ 9223372036854775807 < numZ s := by
  obtain ⟨h1, h2, h3⟩ := form_parts h
  have h0 : (stripD s).headD 0 ≠ 48 := by
    rcases h3 with h3 | h3
    · exact h3
    · rw [h3] at hl; exact absurd hl (by decide)
  have := val_big h1 h0 hl
  unfold numZ; split <;> omega
theorem val_take {d : List UInt8} {k : Nat} {c : UInt8} (h : d[k]? = some c) : valL (d.take (k + 1)) = 10 * valL (d.take k) + (c.toNat - 48) := by
  rw [List.take_add_one, h]; exact valL_snoc _ _
theorem val_lt {d : List UInt8} (h : ∀ c ∈ d, 48 ≤ c.toNat ∧ c.toNat ≤ 57) {m : Nat} (hl : d.length ≤ m) : valL d < 10 ^ m :=
  Nat.lt_of_lt_of_le (val_small d h) (Nat.pow_le_pow_right (by decide) hl)
theorem below_pos {r : List UInt8} (h : formB (45 :: r) = true) : 1 ≤ valL r := by
  obtain ⟨h1, h2, h3⟩ := form_parts h
  rw [show stripD (45 :: r) = r from rfl] at h1 h2 h3
  have h0 : r.headD 0 ≠ 48 := by
    rcases h3 with h3 | h3
    · exact h3
    · simp at h3
  cases r with
  | nil => exact absurd rfl h2
  | cons a l =>
    have := valL_pos (l := l) (h1 a (by simp)).1 (by simpa using h0)
    have : 0 < 10 ^ l.length := Nat.pow_pos (by decide)
    omega

set_option maxHeartbeats 2000000 in
theorem parse_ (s : List UInt8) (least most : Int) (w : World) (hs : s.length ≤ 1000000) (hl : -9223372036854775808 ≤ least ∧ least ≤ 9223372036854775807) (hm : -9223372036854775808 ≤ most ∧ most ≤ 9223372036854775807) :
    Calls Tryd.prog 67 #[.string ⟨s.toArray⟩, .int .i64 least, .int .i64 most] w fun e w' => e = .returned (parseR s least most) ∧ Pure' w w' := by
  obtain ⟨hl1, hl2⟩ := hl
  obtain ⟨hm1, hm2⟩ := hm
  have hF := fun w => form_ s w hs
  cases hfb : formB s with
  | false =>
    have HR := Lib.hid (parse_form hfb least most)
    obtain ⟨x, hx⟩ := form_no hfb
    rw [hx] at hF
    have HF := Lib.hid hF
    clear hF hx hfb
    go_enter Tryd.func67, Tryd.ntmps67
    go_wp2_with (go_at_call 82; refine (HF.out _).mono ?_; rintro e w1 ⟨rfl, hk⟩; have HK := Lib.hid hk; clear hk)
    go_ret2
    rw [HR.out]
    exact ⟨rfl, HK.out⟩
  | true =>
    rw [form_yes hfb] at hF
    obtain ⟨hd1, hd2, hd3⟩ := form_parts hfb
    have hnl := num_long hfb
    have HFB := Lib.hid hfb
    have hdl : (stripD s).length ≤ 1000000 := by
      unfold stripD
      split
      · rw [List.length_tail]; omega
      · exact hs
    obtain ⟨d, hd⟩ : ∃ d, stripD s = d := ⟨_, rfl⟩
    rw [hd] at hF hd1 hd2 hd3 hnl hdl
    have HF := Lib.hid hF
    have HD := Lib.hid hd
    have HD1 := Lib.hid hd1
    have hsz : ((⟨d.toArray⟩ : ByteArray)).size = d.length := by simp [ByteArray.size]
    clear hF hd hd1 hd3 hd2 hfb
    by_cases hlen : 19 < d.length
    · have HR := Lib.hid (parse_out HFB.out (least := least) (most := most) (by have := hnl (by omega); omega))
      clear hnl
      go_enter Tryd.func67, Tryd.ntmps67
      go_wp2_with (go_at_call 82; refine (HF.out _).mono ?_; rintro e w1 ⟨rfl, hk⟩; have HK := Lib.hid hk; clear hk)
      go_ret2
      rw [HR.out]
      exact ⟨rfl, HK.out⟩
    · clear hnl
      obtain ⟨a, r, rfl⟩ : ∃ a r, s = a :: r := by
        cases s with
        | nil => have := HFB.out; exact absurd this (by decide)
        | cons a r => exact ⟨a, r, rfl⟩
      have hg : ∀ h', (⟨(a :: r).toArray⟩ : ByteArray)[0]'h' = a := fun _ => rfl
      have hal := a.toNat_lt
      have hsz2 : ((⟨(a :: r).toArray⟩ : ByteArray)).size = r.length + 1 := by simp [ByteArray.size]
      go_enter Tryd.func67, Tryd.ntmps67
      go_wp2_with (go_at_call 82; refine (HF.out _).mono ?_; rintro e w1 ⟨rfl, hk⟩; have HK := Lib.hid hk; clear hk)
      rw [Lib.run_convert_string_bytes _ 9 87 5 _ Tryd.underlying9 Tryd.underlying87 Tryd.underlying5]
      simp only [Result.andThen]
      rw [Oper.upon_value]
      have HC : Hid (∀ k c, d[k]? = some c → (Lib.bytesWorld w1 5 ⟨d.toArray⟩).cell? ⟨w1.heap.size, k, none⟩ = some (.int .u8 c.toNat)) := Lib.hid (fun k c hk => by
        have hlt := (List.getElem?_eq_some_iff.1 hk).1
        have := Lib.bytesWorld_cell w1 5 ⟨d.toArray⟩ k (by rw [hsz]; exact hlt)
        simpa [hk] using this)
      have HP := Lib.hid (HK.out.then_ (bytes_pure w1 5 ⟨d.toArray⟩))
      rw [hsz]
      generalize hcap : grownCap _ _ _ _ = cap
      generalize Lib.bytesWorld w1 5 ⟨d.toArray⟩ = w2 at *
      generalize hn : d.length = n at *
      go_wp2
      go_loopw [10, 28] (fun v10 v28 wr => ∃ k : Nat, k ≤ n ∧ v28 = .int .i64 k ∧ v10 = .int .u64 (valL (d.take k)) ∧ wr = w2) (fun _ v28 _ => n - (intOf v28).toNat)
      case atStart => exact ⟨0, Nat.zero_le _, rfl, rfl, rfl⟩
      case round =>
        obtain ⟨k, hk, rfl, rfl, rfl⟩ := hrel
        by_cases hlt : k < n
        · obtain ⟨c, hdk⟩ : ∃ c, d[k]? = some c := ⟨_, List.getElem?_eq_getElem (by omega)⟩
          have hc := HC.out k c hdk
          have hcl := c.toNat_lt
          obtain ⟨hb1, hb2⟩ := HD1.out c (List.mem_of_getElem? hdk)
          have HV := Lib.hid (val_take hdk)
          have hvl : valL (d.take k) < 10 ^ 18 := val_lt (fun c hc => HD1.out c (List.mem_of_mem_take hc)) (by rw [List.length_take]; omega)
          rw [show 10 ^ 18 = 1000000000000000000 from rfl] at hvl
          clear hdk
          generalize valL (d.take k) = v at *
          go_wp2
          go_roundw
          case rel => exact ⟨k + 1, by omega, by go_num, by rw [HV.out]; go_num, trivial⟩
          case measure => simp [intOf]; omega
        · obtain rfl : k = n := by omega
          have hv : valL (d.take k) < 10 ^ 19 := val_lt (fun c hc => HD1.out c (List.mem_of_mem_take hc)) (by rw [List.length_take]; omega)
          rw [show 10 ^ 19 = 10000000000000000000 from rfl] at hv
          have hvd : valL (d.take k) = valL (stripD (a :: r)) := by rw [HD.out, List.take_of_length_le (by omega)]
          by_cases ha : a = 45
          · subst ha
            have hz : numZ (45 :: r) = -(valL (d.take k) : Int) := by rw [hvd]; rfl
            have h1 : 1 ≤ valL (d.take k) := by rw [hvd]; exact below_pos HFB.out
            generalize valL (d.take k) = v at *
            clear hvd hlt
            by_cases hbig : 9223372036854775808 < v
            · have HR := Lib.hid (parse_out HFB.out (least := least) (most := most) (by omega))
              clear hz
              go_wp2
              go_ret2
              rw [HR.out]
              exact ⟨rfl, HP.out⟩
            · by_cases h2 : -(v : Int) < least
              · have HR := Lib.hid (parse_out HFB.out (least := least) (most := most) (by omega))
                clear hz
                by_cases hsm : v ≤ 9223372036854775807
                · go_wp2
                  go_ret2
                  rw [HR.out]
                  exact ⟨rfl, HP.out⟩
                · obtain rfl : v = 9223372036854775808 := by omega
                  go_wp2
                  go_ret2
                  rw [HR.out]
                  exact ⟨rfl, HP.out⟩
              · by_cases h3 : most < -(v : Int)
                · have HR := Lib.hid (parse_out HFB.out (least := least) (most := most) (by omega))
                  clear hz
                  by_cases hsm : v ≤ 9223372036854775807
                  · go_wp2
                    go_ret2
                    rw [HR.out]
                    exact ⟨rfl, HP.out⟩
                  · exfalso; omega
                · have HR := Lib.hid (parse_in HFB.out (least := least) (most := most) hz (by omega))
                  clear hz
                  by_cases hsm : v ≤ 9223372036854775807
                  · go_wp2
                    go_ret2
                    rw [HR.out]
                    exact ⟨ret_two (by omega), HP.out⟩
                  · obtain rfl : v = 9223372036854775808 := by omega
                    go_wp2
                    go_ret2
                    rw [HR.out]
                    exact ⟨ret_two (by omega), HP.out⟩
          · have hh : (a :: r).head? ≠ some 45 := by simpa using ha
            have hz : numZ (a :: r) = (valL (d.take k) : Int) := by rw [hvd]; unfold numZ; rw [if_neg hh]
            have ha1 : a.toNat ≠ 45 := fun e => ha (UInt8.toNat_inj.1 e)
            have hat : ((a.toNat : Int) == 45) = false := by simp; omega
            generalize valL (d.take k) = v at *
            clear hvd hlt ha ha1 hh
            by_cases hbig : 9223372036854775807 < v
            · have HR := Lib.hid (parse_out HFB.out (least := least) (most := most) (by omega))
              clear hz
              go_wp2
              go_ret2
              rw [HR.out]
              exact ⟨rfl, HP.out⟩
            · by_cases h2 : (v : Int) < least
              · have HR := Lib.hid (parse_out HFB.out (least := least) (most := most) (by omega))
                clear hz
                go_wp2
                go_ret2
                rw [HR.out]
                exact ⟨rfl, HP.out⟩
              · by_cases h3 : most < (v : Int)
                · have HR := Lib.hid (parse_out HFB.out (least := least) (most := most) (by omega))
                  clear hz
                  go_wp2
                  go_ret2
                  rw [HR.out]
                  exact ⟨rfl, HP.out⟩
                · have HR := Lib.hid (parse_in HFB.out (least := least) (most := most) hz (by omega))
                  clear hz
                  go_wp2
                  go_ret2
                  rw [HR.out]
                  exact ⟨rfl, HP.out⟩
theorem sees_new (w : World) (e : TypeId) (us : List Value) (n : Nat) (hn : us.length = n) : Sees (w.alloc (.cells us.toArray e)) (w.alloc (.cells us.toArray e)).heap.size 1 (some ⟨w.heap.size, 0, none⟩) n us := by
  refine ⟨by omega, fun _ => ⟨_, rfl, ?_, fun j u hu => ?_⟩⟩
  · show w.heap.size < (w.heap.push _).size
    rw [Array.size_push]; exact Nat.lt_succ_self _
  · rw [show (⟨w.heap.size, 0, none⟩ : Addr).add j = ⟨w.heap.size, j, none⟩ from by unfold Addr.add; split <;> simp_all, (Blk.new w e us.toArray).cell]
    simpa using hu

end Go.Proofs.YtjcjmjnajhkdaaaDoor

-- part DigI
namespace Go.Proofs.YtjcjmjnajhkdaaaDoor
open Go.RowKit
set_option linter.unusedVariables false
set_option linter.unusedSimpArgs false
set_option maxRecDepth 100000

theorem byte_at {s : List UInt8} {k : Nat} {c : UInt8} (h : s[k]? = some c) : ∀ h', (⟨s.toArray⟩ : ByteArray)[k]'h' = c := by
  intro h'
  have hl := (List.getElem?_eq_some_iff.1 h).1
  rw [List.getElem?_eq_getElem hl] at h
  injection h
theorem ne48 (c : UInt8) : (c != 48) = ((c.toNat : Int) != 48) := by
  by_cases h : c = 48
  · subst h; rfl
  · have : c.toNat ≠ 48 := fun e => h (UInt8.toNat_inj.1 e)
    have h1 : (c != 48) = true := by simpa using h
    rw [h1]; symm; simp; omega
theorem all_from {s : List UInt8} {f n : Nat} (hn : s.length = n) (h : ∀ j c, f ≤ j → j < n → s[j]? = some c → isD c = true) : (s.drop f).all isD = true := by
  refine List.all_eq_true.2 fun c hc => ?_
  obtain ⟨i, hi⟩ := List.mem_iff_getElem?.1 hc
  rw [List.getElem?_drop] at hi
  exact h (f + i) c (by omega) (by have := (List.getElem?_eq_some_iff.1 hi).1; omega) hi
theorem not_all {s : List UInt8} {f k : Nat} {c : UInt8} (hk : s[k]? = some c) (hf : f ≤ k) (hc : isD c = false) : (s.drop f).all isD = false := by
  cases h : (s.drop f).all isD with
  | false => rfl
  | true =>
    have hm : c ∈ s.drop f := List.mem_iff_getElem?.2 ⟨k - f, by rw [List.getElem?_drop, show f + (k - f) = k by omega]; exact hk⟩
    have := List.all_eq_true.1 h c hm
    rw [hc] at this; cases this
theorem form_all {s : List UInt8} (h : (stripD s).all isD = false) : formB s = false := by unfold formB; rw [h]; rfl

set_option maxHeartbeats 2000000 in
theorem rform_ (s : List UInt8) (w : World) (hs : s.length ≤ 1000000) : Calls Tryd.prog 70 #[.string ⟨s.toArray⟩] w fun e w' => e = .returned (.bool (formB s)) ∧ w = w' := by
  cases s with
  | nil =>
    go_enter Tryd.func70, Tryd.ntmps70
    go_wp2
    go_loopw [4] (fun v4 wr => v4 = .int .i64 0 ∧ wr = w) (fun _ _ => 0)
    case atStart => exact ⟨rfl, rfl⟩
    case round =>
      obtain ⟨rfl, rfl⟩ := hrel
      go_wp2
      go_ret
      exact ⟨rfl, rfl⟩
  | cons a r =>
    have h0 := byte_at (s := a :: r) (k := 0) rfl
    have hal := a.toNat_lt
    have hsz : ((⟨(a :: r).toArray⟩ : ByteArray)).size = (a :: r).length := by simp [ByteArray.size]
    have hlen : (a :: r).length = r.length + 1 := rfl
    by_cases ha : a = 45
    · have hst : stripD (a :: r) = (a :: r).drop 1 := by subst ha; rfl
      have t0 : ((a.toNat : Int) == 45) = true := by subst ha; rfl
      have HST := Lib.hid hst
      clear hst ha
      obtain ⟨s, hS⟩ : ∃ s, a :: r = s := ⟨_, rfl⟩
      rw [hS] at h0 hsz hs hlen HST ⊢
      have HS := Lib.hid hS
      clear hS
      generalize hn : s.length = n at *
      have HN := Lib.hid hn
      have HLEN := Lib.hid hlen
      have hn1 : 1 ≤ n := by omega
      clear hn hlen
      go_enter Tryd.func70, Tryd.ntmps70
      go_wp2
      go_loopw [4] (fun v4 wr => ∃ k : Nat, 1 ≤ k ∧ k ≤ n ∧ v4 = .int .i64 k ∧ (∀ j c, 1 ≤ j → j < k → s[j]? = some c → isD c = true) ∧ wr = w) (fun v4 _ => n - (intOf v4).toNat)
      case atStart => exact ⟨1, Nat.le_refl _, by omega, rfl, fun j c h1 h2 => by omega, rfl⟩
      case round =>
        obtain ⟨k, hfk, hk, rfl, hall, rfl⟩ := hrel
        have HA := Lib.hid hall
        clear hall
        by_cases hlt : k < n
        · obtain ⟨c, hdk⟩ : ∃ c, s[k]? = some c := ⟨_, List.getElem?_eq_getElem (by rw [HN.out]; exact hlt)⟩
          have hg := byte_at hdk
          have hcl := c.toNat_lt
          by_cases hD : isD c = true
          · have hb : 48 ≤ c.toNat ∧ c.toNat ≤ 57 := by simpa [isD] using hD
            obtain ⟨hb1, hb2⟩ := hb
            have HK := Lib.hid hdk
            have HDD := Lib.hid hD
            clear hdk hD
            go_wp2
            go_roundw
            case rel =>
              refine ⟨k + 1, by omega, by omega, by go_num, fun j c' h1 h2 h3 => ?_, trivial⟩
              by_cases hjk : j = k
              · subst hjk; have := HK.out.symm.trans h3; injection this with e; rw [← e]; exact HDD.out
              · exact HA.out j c' h1 (by omega) h3
            case measure => simp [intOf]; omega
          · have HF : Hid (formB s = false) := Lib.hid (form_all (by rw [HST.out]; exact not_all hdk hfk (by simpa using hD)))
            have hb : (c.toNat : Int) < 48 ∨ (57 : Int) < c.toNat := by
              simp [isD] at hD
              omega
            clear hdk hD
            rcases hb with hb | hb
            · go_wp2
              go_ret
              rw [HF.out]
              exact ⟨rfl, rfl⟩
            · have hb' : (48 : Int) ≤ c.toNat := by omega
              go_wp2
              go_ret
              rw [HF.out]
              exact ⟨rfl, rfl⟩
        · obtain rfl : k = n := by omega
          have hall := all_from HN.out HA.out
          have hF : formB s = (!(s.drop 1).isEmpty && ((s.drop 1).headD 0 != 48 || s == [48])) := by unfold formB; rw [HST.out, hall, Bool.true_and]
          cases hr : r with
          | nil =>
            have hk1 : k = 1 := by rw [HLEN.out, hr]; rfl
            have HF := Lib.hid hF
            have HF2 : Hid (formB s = false) := Lib.hid (by rw [HF.out, ← HS.out, hr]; rfl)
            subst hk1
            clear hF hr hall
            go_wp2
            go_ret
            rw [HF2.out]
            exact ⟨rfl, rfl⟩
          | cons c r2 =>
            have h1 := byte_at (s := s) (k := 1) (c := c) (by rw [← HS.out, hr]; rfl)
            have hcl := c.toNat_lt
            have hk1 : 2 ≤ k := by have := HLEN.out; rw [hr] at this; simp only [List.length_cons] at this; omega
            have HF2 : Hid (formB s = ((c.toNat : Int) != 48)) := Lib.hid (by
              rw [hF, ← HS.out, hr, ← ne48]
              have e : (a :: c :: r2 == [48]) = false := by simp
              rw [e]; simp)
            have hk2 : ((k : Int) == 1) = false := by simp; omega
            clear hF hr hall
            generalize hb1 : ((c.toNat : Int) != 48) = b1 at *
            cases b1 with
            | true =>
              go_wp2
              go_ret
              rw [HF2.out]
              exact ⟨rfl, rfl⟩
            | false =>
              go_wp2
              go_ret
              rw [HF2.out]
              exact ⟨rfl, rfl⟩

    · have hst : stripD (a :: r) = (a :: r).drop 0 := by rw [stripD, if_neg (by simpa using ha)]; rfl
      have t0 : ((a.toNat : Int) == 45) = false := by have : a.toNat ≠ 45 := fun e => ha (UInt8.toNat_inj.1 e); simp; omega
      have HST := Lib.hid hst
      clear hst ha
      obtain ⟨s, hS⟩ : ∃ s, a :: r = s := ⟨_, rfl⟩
      rw [hS] at h0 hsz hs hlen HST ⊢
      have HS := Lib.hid hS
      clear hS
      generalize hn : s.length = n at *
      have HN := Lib.hid hn
      have HLEN := Lib.hid hlen
      have hn1 : 1 ≤ n := by omega
      clear hn hlen
      go_enter Tryd.func70, Tryd.ntmps70
      go_wp2
      go_loopw [4] (fun v4 wr => ∃ k : Nat, 0 ≤ k ∧ k ≤ n ∧ v4 = .int .i64 k ∧ (∀ j c, 0 ≤ j → j < k → s[j]? = some c → isD c = true) ∧ wr = w) (fun v4 _ => n - (intOf v4).toNat)
      case atStart => exact ⟨0, Nat.le_refl _, by omega, rfl, fun j c h1 h2 => by omega, rfl⟩
      case round =>
        obtain ⟨k, hfk, hk, rfl, hall, rfl⟩ := hrel
        have HA := Lib.hid hall
        clear hall
        by_cases hlt : k < n
        · obtain ⟨c, hdk⟩ : ∃ c, s[k]? = some c := ⟨_, List.getElem?_eq_getElem (by rw [HN.out]; exact hlt)⟩
          have hg := byte_at hdk
          have hcl := c.toNat_lt
          by_cases hD : isD c = true
          · have hb : 48 ≤ c.toNat ∧ c.toNat ≤ 57 := by simpa [isD] using hD
            obtain ⟨hb1, hb2⟩ := hb
            have HK := Lib.hid hdk
            have HDD := Lib.hid hD
            clear hdk hD
            go_wp2
            go_roundw
            case rel =>
              refine ⟨k + 1, by omega, by omega, by go_num, fun j c' h1 h2 h3 => ?_, trivial⟩
              by_cases hjk : j = k
              · subst hjk; have := HK.out.symm.trans h3; injection this with e; rw [← e]; exact HDD.out
              · exact HA.out j c' h1 (by omega) h3
            case measure => simp [intOf]; omega
          · have HF : Hid (formB s = false) := Lib.hid (form_all (by rw [HST.out]; exact not_all hdk hfk (by simpa using hD)))
            have hb : (c.toNat : Int) < 48 ∨ (57 : Int) < c.toNat := by
              simp [isD] at hD
              omega
            clear hdk hD
            rcases hb with hb | hb
            · go_wp2
              go_ret
              rw [HF.out]
              exact ⟨rfl, rfl⟩
            · have hb' : (48 : Int) ≤ c.toNat := by omega
              go_wp2
              go_ret
              rw [HF.out]
              exact ⟨rfl, rfl⟩
        · obtain rfl : k = n := by omega
          have hall := all_from HN.out HA.out
          have hF : formB s = (!(s.drop 0).isEmpty && ((s.drop 0).headD 0 != 48 || s == [48])) := by unfold formB; rw [HST.out, hall, Bool.true_and]
          have HF2 : Hid (formB s = (((a.toNat : Int) != 48) || ((k : Int) == 1))) := Lib.hid (by
            rw [hF, ← HS.out, ← ne48]
            have e : (a :: r == [48]) = (!(a != 48) && ((k : Int) == 1)) := by
              cases r with
              | nil =>
                have : k = 1 := by rw [HLEN.out]; rfl
                rw [this]
                by_cases h : a = 48
                · subst h; rfl
                · have h1 : (a != 48) = true := by simpa using h
                  have h2 : ([a] == [48]) = false := by simpa using h
                  rw [h1, h2]; rfl
              | cons c r2 =>
                have : k ≠ 1 := by have := HLEN.out; simp only [List.length_cons] at this; omega
                have h2 : ((k : Int) == 1) = false := by simp; omega
                rw [h2]; simp
            rw [e]
            simp only [List.drop_zero, List.isEmpty_cons, List.headD_cons, Bool.not_false, Bool.true_and]
            generalize (a != 48) = x
            generalize ((k : Int) == 1) = y
            cases x <;> cases y <;> rfl)
          clear hF hall
          generalize hb1 : ((a.toNat : Int) != 48) = b1 at *
          cases b1 with
          | true =>
            go_wp2
            go_ret
            rw [HF2.out]
            exact ⟨rfl, rfl⟩
          | false =>
            by_cases hk1 : k = 1
            · have hk2 : ((k : Int) == 1) = true := by rw [hk1]; rfl
              rw [hk2] at HF2
              clear hk1
              go_wp2
              go_ret
              rw [HF2.out]
              exact ⟨rfl, rfl⟩
            · have hk2 : ((k : Int) == 1) = false := by simp; omega
              rw [hk2] at HF2
              clear hk1
              go_wp2
              go_ret
              rw [HF2.out]
              exact ⟨rfl, rfl⟩

end Go.Proofs.YtjcjmjnajhkdaaaDoor

-- part DigJ
namespace Go.Proofs.YtjcjmjnajhkdaaaDoor
open Go.RowKit
set_option linter.unusedVariables false
set_option linter.unusedSimpArgs false
set_option maxRecDepth 100000

/-- A text without its signs. -/
def nf (l : List UInt8) : List UInt8 := l.filter (fun c => c != 45)
theorem nf_strip {s : List UInt8} (h : formB s = true) : nf s = stripD s := by
  obtain ⟨h1, h2, h3⟩ := form_parts h
  have hd : nf (stripD s) = stripD s := by
    unfold nf
    refine List.filter_eq_self.2 fun c hc => ?_
    have := h1 c hc
    simp only [bne_iff_ne]
    intro e; rw [e] at this; exact absurd this.1 (by decide)
  by_cases hm : s.head? = some 45
  · cases s with
    | nil => simp at hm
    | cons a r =>
      simp at hm
      subst hm
      rw [show stripD (45 :: r) = r from rfl] at hd ⊢
      rw [show nf (45 :: r) = nf r from rfl]; exact hd
  · have e : stripD s = s := by rw [stripD, if_neg hm]
    rw [e] at hd ⊢; exact hd
theorem nf_dig {s : List UInt8} (h : formB s = true) {k : Nat} {c : UInt8} (hk : s[k]? = some c) (hc : c ≠ 45) : 48 ≤ c.toNat ∧ c.toNat ≤ 57 := by
  obtain ⟨h1, _, _⟩ := form_parts h
  refine h1 c ?_
  rw [← nf_strip h]
  exact List.mem_filter.2 ⟨List.mem_of_getElem? hk, by simpa using hc⟩
theorem nf_skip {s : List UInt8} {k : Nat} (hk : s[k]? = some 45) : nf (s.take (k + 1)) = nf (s.take k) := by
  rw [List.take_add_one, hk]; unfold nf; rw [List.filter_append]; simp
theorem nf_more {s : List UInt8} {k : Nat} {c : UInt8} (hk : s[k]? = some c) (hc : c ≠ 45) : valL (nf (s.take (k + 1))) = 10 * valL (nf (s.take k)) + (c.toNat - 48) := by
  have e : nf (s.take (k + 1)) = nf (s.take k) ++ [c] := by
    rw [List.take_add_one, hk]; unfold nf; rw [List.filter_append]; simp [hc]
  rw [e, valL_snoc]
theorem val_app (a b : List UInt8) : valL a ≤ valL (a ++ b) := by
  have e : valL (a ++ b) = valL a * 10 ^ b.length + valL b := by
    unfold valL
    rw [List.foldl_append]
    exact valL_cons 0 b _
  have h1 : 0 < 10 ^ b.length := Nat.pow_pos (by decide)
  have h2 : valL a * 1 ≤ valL a * 10 ^ b.length := Nat.mul_le_mul_left _ h1
  omega
theorem nf_le {s : List UInt8} (h : formB s = true) (k : Nat) : valL (nf (s.take k)) ≤ valL (stripD s) := by
  have e : nf s = nf (s.take k) ++ nf (s.drop k) := by
    unfold nf; rw [← List.filter_append, List.take_append_drop]
  rw [← nf_strip h, e]
  exact val_app _ _
theorem num_big {s : List UInt8} (h : formB s = true) (hv : 9223372036854775808 < valL (stripD s)) (least most : Int) : parseR s least most = .tuple #[.int .i64 0, .int .i64 11] := by
  refine parse_out h ?_
  unfold numZ
  split <;> omega

set_option maxHeartbeats 4000000 in
theorem rparse_ (s : List UInt8) (least most : Int) (w : World) (hs : s.length ≤ 1000000) (hl : -9223372036854775808 ≤ least ∧ least ≤ 9223372036854775807) (hm : -9223372036854775808 ≤ most ∧ most ≤ 9223372036854775807) :
    Calls Tryd.prog 47 #[.string ⟨s.toArray⟩, .int .i64 least, .int .i64 most] w fun e w' => e = .returned (parseR s least most) ∧ w = w' := by
  obtain ⟨hl1, hl2⟩ := hl
  obtain ⟨hm1, hm2⟩ := hm
  have hF := fun w => rform_ s w hs
  cases hfb : formB s with
  | false =>
    have HR := Lib.hid (parse_form hfb least most)
    rw [hfb] at hF
    have HF := Lib.hid hF
    clear hF hfb
    go_enter Tryd.func47, Tryd.ntmps47
    go_wp2_with (go_at_call 70; refine (HF.out _).mono ?_; rintro e w1 ⟨rfl, rfl⟩)
    go_ret2
    rw [HR.out]
    exact ⟨rfl, rfl⟩
  | true =>
    rw [hfb] at hF
    have HF := Lib.hid hF
    have HFB := Lib.hid hfb
    clear hF hfb
    obtain ⟨a, r, hS⟩ : ∃ a r, s = a :: r := by
      cases s with
      | nil => have := HFB.out; exact absurd this (by decide)
      | cons a r => exact ⟨a, r, rfl⟩
    have h0 := byte_at (s := s) (k := 0) (c := a) (by rw [hS]; rfl)
    have hal := a.toNat_lt
    have hsz : ((⟨s.toArray⟩ : ByteArray)).size = s.length := by simp [ByteArray.size]
    have hn1 : 1 ≤ s.length := by rw [hS]; exact Nat.le_add_left _ _
    have HS := Lib.hid hS
    clear hS
    generalize hn : s.length = n at *
    have HN := Lib.hid hn
    clear hn
    go_enter Tryd.func47, Tryd.ntmps47
    go_wp2_with (go_at_call 70; refine (HF.out _).mono ?_; rintro e w1 ⟨rfl, rfl⟩)
    go_loopw [8, 9] (fun v8 v9 wr => ∃ k : Nat, k ≤ n ∧ v9 = .int .i64 k ∧ v8 = .int .i64 (-((valL (nf (s.take k)) : Nat) : Int)) ∧ valL (nf (s.take k)) ≤ 9223372036854775808 ∧ wr = w) (fun _ v9 _ => n - (intOf v9).toNat)
    case atStart => exact ⟨0, Nat.zero_le _, rfl, rfl, Nat.zero_le _, rfl⟩
    case round =>
      obtain ⟨k, hk, rfl, rfl, hvb, rfl⟩ := hrel
      by_cases hlt : k < n
      · obtain ⟨c, hdk⟩ : ∃ c, s[k]? = some c := ⟨_, List.getElem?_eq_getElem (by rw [HN.out]; exact hlt)⟩
        have hg := byte_at hdk
        have hcl := c.toNat_lt
        by_cases h45 : c = 45
        · subst h45
          have HV := Lib.hid (nf_skip hdk)
          generalize hvv : valL (nf (s.take k)) = v at *
          have HVV := Lib.hid hvv
          clear hdk hvv
          go_wp2
          go_roundw
          case rel => exact ⟨k + 1, by omega, by go_num, by rw [HV.out, HVV.out], by rw [HV.out, HVV.out]; exact hvb, trivial⟩
          case measure => simp [intOf]; omega
        · have t45 : ((c.toNat : Int) == 45) = false := by
            have : c.toNat ≠ 45 := fun e => h45 (UInt8.toNat_inj.1 e)
            simp; omega
          obtain ⟨hb1, hb2⟩ := nf_dig HFB.out hdk h45
          have HV := Lib.hid (nf_more hdk h45)
          have HB := Lib.hid (nf_le HFB.out (k + 1))
          generalize valL (nf (s.take k)) = v at *
          clear hdk h45
          by_cases hA : 922337203685477580 < v
          · have HR := Lib.hid (num_big HFB.out (by have := HB.out; rw [HV.out] at this; omega) least most)
            go_wp2
            go_ret2
            rw [HR.out]
            exact ⟨rfl, rfl⟩
          · by_cases hB : v = 922337203685477580
            · have tB : (-(v : Int) == -922337203685477580) = true := by rw [hB]; rfl
              have hv1 : v ≤ 922337203685477580 := by omega
              have hv2 : 922337203685477580 ≤ v := by omega
              clear hA hB
              by_cases h9 : 56 < c.toNat
              · have HR := Lib.hid (num_big HFB.out (by have := HB.out; rw [HV.out] at this; omega) least most)
                go_wp2
                go_ret2
                rw [HR.out]
                exact ⟨rfl, rfl⟩
              · go_wp2
                go_roundw
                case rel => exact ⟨k + 1, by omega, by go_num, by rw [HV.out]; go_num, by rw [HV.out]; omega, trivial⟩
                case measure => simp [intOf]; omega
            · have hC : -922337203685477580 < -(v : Int) := by omega
              have hC2 : -(v : Int) ≤ 0 := by omega
              have hvb' : v ≤ 922337203685477579 := by omega
              clear hA hB hvb
              generalize hz : -(v : Int) = z at *
              have HZ := Lib.hid hz
              have HVB := Lib.hid hvb'
              clear hz hvb'
              have tB : (z == -922337203685477580) = false := by
                rw [beq_eq_false_iff_ne]; omega
              go_wp2
              go_roundw
              case rel => exact ⟨k + 1, by omega, by go_num, by rw [HV.out]; have := HZ.out; go_num, by rw [HV.out]; have := HVB.out; omega, trivial⟩
              case measure => simp [intOf]; omega
      · obtain rfl : k = n := by omega
        have hvd : valL (nf (s.take k)) = valL (stripD s) := by rw [List.take_of_length_le (by rw [HN.out]; exact Nat.le_refl _), nf_strip HFB.out]
        by_cases ha : a = 45
        · have hz : numZ s = -(valL (nf (s.take k)) : Int) := by rw [hvd, HS.out, ha]; rfl
          have t45 : ((a.toNat : Int) != 45) = false := by subst ha; rfl
          generalize valL (nf (s.take k)) = v at *
          clear hvd hlt ha
          by_cases h2 : -(v : Int) < least
          · have HR := Lib.hid (parse_out HFB.out (least := least) (most := most) (by omega))
            clear hz
            go_wp2
            go_ret2
            rw [HR.out]
            exact ⟨rfl, rfl⟩
          · by_cases h3 : most < -(v : Int)
            · have HR := Lib.hid (parse_out HFB.out (least := least) (most := most) (by omega))
              clear hz
              go_wp2
              go_ret2
              rw [HR.out]
              exact ⟨rfl, rfl⟩
            · have HR := Lib.hid (parse_in HFB.out (least := least) (most := most) hz (by omega))
              clear hz
              go_wp2
              go_ret2
              rw [HR.out]
              exact ⟨rfl, rfl⟩
        · have hh : s.head? ≠ some 45 := by rw [HS.out]; simpa using ha
          have hz : numZ s = (valL (nf (s.take k)) : Int) := by rw [hvd]; unfold numZ; rw [if_neg hh]
          have t45 : ((a.toNat : Int) != 45) = true := by
            have : a.toNat ≠ 45 := fun e => ha (UInt8.toNat_inj.1 e)
            simp; omega
          generalize valL (nf (s.take k)) = v at *
          clear hvd hlt ha hh
          by_cases hbig : v = 9223372036854775808
          · have HR := Lib.hid (parse_out HFB.out (least := least) (most := most) (by omega))
            clear hz
            subst hbig
            go_wp2
            go_ret2
            rw [HR.out]
            exact ⟨rfl, rfl⟩
          · have tb : (-(v : Int) == -9223372036854775808) = false := by simp; omega
            have hv7 : v ≤ 9223372036854775807 := by omega
            clear hbig
            by_cases h2 : (v : Int) < least
            · have HR := Lib.hid (parse_out HFB.out (least := least) (most := most) (by omega))
              clear hz
              go_wp2
              go_ret2
              rw [HR.out]
              exact ⟨rfl, rfl⟩
            · by_cases h3 : most < (v : Int)
              · have HR := Lib.hid (parse_out HFB.out (least := least) (most := most) (by omega))
                clear hz
                go_wp2
                go_ret2
                rw [HR.out]
                exact ⟨rfl, rfl⟩
              · have HR := Lib.hid (parse_in HFB.out (least := least) (most := most) hz (by omega))
                clear hz
                go_wp2
                go_ret2
                rw [HR.out]
                exact ⟨rfl, rfl⟩
end Go.Proofs.YtjcjmjnajhkdaaaDoor

-- part DigK
namespace Go.Proofs.YtjcjmjnajhkdaaaDoor
open Go.Lib
set_option linter.unusedVariables false
set_option linter.unusedSimpArgs false

/-- The parts of a text between commas; w: what was met since the last one. -/
def sF : List UInt8 → List UInt8 → List (List UInt8)
  | [], w => [w]
  | c :: r, w => if c = 44 then w :: sF r [] else sF r (w ++ [c])
def splitL (s : List UInt8) : List (List UInt8) := sF s []
theorem sF_ne (l w : List UInt8) : sF l w ≠ [] := by
  induction l generalizing w with
  | nil => simp [sF]
  | cons c r ih => rw [sF]; split; · simp
                   · exact ih _
theorem sF_pre (l : List UInt8) : ∀ a w, sF l (a ++ w) = (match sF l w with | [] => [] | x :: xs => (a ++ x) :: xs) := by
  induction l with
  | nil => intro a w; rfl
  | cons c r ih =>
    intro a w
    rw [sF, sF]
    split
    · rfl
    · rw [List.append_assoc, ih]
theorem splitK_ne (b c : UInt8) (h : b ≠ c) (l : List UInt8) : ∀ n, splitK [c] 0 n (b :: l) = (match splitK [c] 0 n l with | [] => [] | x :: xs => (b :: x) :: xs)
  | 0 => rfl
  | n + 1 => by
    have h' : ¬ c = b := fun e => h e.symm
    have hi : index (b :: l) [c] = if index l [c] == -1 then -1 else index l [c] + 1 := by
      rw [index]
      simp [List.isPrefixOf, h']
    rw [splitK, splitK, hi]
    by_cases h1 : index l [c] = -1
    · simp [h1]
    · have h2 : -1 ≤ index l [c] := by
        have := index_ge l [c]
        exact this
      have e1 : (index l [c] == -1) = false := by simpa using h1
      rw [e1]
      have e2 : (index l [c] + 1 == -1) = false := by rw [beq_eq_false_iff_ne]; omega
      simp only [Bool.false_eq_true, if_false, e2, Nat.add_zero]
      have e3 : (index l [c] + 1).toNat = (index l [c]).toNat + 1 := by omega
      rw [e3]
      simp
theorem splitK_split : ∀ s : List UInt8, splitK [44] 0 (s.count 44) s = splitL s
  | [] => rfl
  | b :: l => by
    have ih := splitK_split l
    unfold splitL at ih ⊢
    by_cases h : b = 44
    · subst h
      rw [List.count_cons_self, splitK, sF, if_pos rfl, ← ih]
      have hi : index (44 :: l) [44] = 0 := by rw [index]; simp [List.isPrefixOf]
      rw [hi]
      simp
    · rw [List.count_cons_of_ne (by simpa using h), splitK_ne b 44 h, ih, sF, if_neg h, List.nil_append]
      have := sF_pre l [b] []
      rw [List.append_nil] at this
      rw [this]
      cases hs : sF l [] with
      | nil => exact absurd hs (sF_ne _ _)
      | cons x xs => rfl
theorem of_data {l : List ByteArray} {L : List (List UInt8)} (h : l.map (·.data.toList) = L) : l = L.map (fun x => (⟨x.toArray⟩ : ByteArray)) := by
  rw [← h, List.map_map]
  conv => lhs; rw [← List.map_id l]
  refine List.map_congr_left fun b _ => ?_
  rfl
theorem splitB_split (s : List UInt8) : splitB ⟨#[44]⟩ 0 (countB ⟨s.toArray⟩ ⟨#[44]⟩) ⟨s.toArray⟩ = (splitL s).map (fun x => (⟨x.toArray⟩ : ByteArray)) := by
  refine of_data ?_
  rw [splitB_data]
  have hc : countB ⟨s.toArray⟩ ⟨#[44]⟩ = s.count 44 := by
    show count s [44] = _
    exact count_one 44 s
  rw [hc]
  exact splitK_split s
theorem split_count (s : List UInt8) : countB ⟨s.toArray⟩ ⟨#[44]⟩ + 1 = (splitL s).length := by
  have h1 := splitB_all ⟨#[44]⟩ (by decide) 0 _ ⟨s.toArray⟩ rfl
  rw [splitB_split, List.length_map] at h1
  exact h1.symm
theorem sF_len : ∀ (l w : List UInt8), (sF l w).length ≤ l.length + 1 ∧ ∀ x ∈ sF l w, x.length ≤ l.length + w.length
  | [], w => by simp [sF]
  | c :: r, w => by
    rw [sF]
    split
    · obtain ⟨h1, h2⟩ := sF_len r []
      refine ⟨by simp; omega, fun x hx => ?_⟩
      rcases List.mem_cons.1 hx with rfl | hx
      · simp
      · have := h2 x hx; simp at this ⊢; omega
    · obtain ⟨h1, h2⟩ := sF_len r (w ++ [c])
      refine ⟨by simp; omega, fun x hx => ?_⟩
      have := h2 x hx
      simp at this ⊢; omega

/-- The numbers of the parts, or why there are none. -/
def rowP (least most : Int) : List (List UInt8) → List Int → List Int × Int
  | [], acc => (acc, 0)
  | p :: ps, acc => if (parseV p least most).2 = 0 then rowP least most ps (acc ++ [(parseV p least most).1]) else ([], (parseV p least most).2)
def rowV (s : List UInt8) (least most : Int) : List Int × Int := if s = [45] then ([], 0) else rowP least most (splitL s) []

theorem parse_cases (s : List UInt8) (least most : Int) : ((parseV s least most).2 = 0 ∧ -9223372036854775808 ≤ (parseV s least most).1 ∧ (parseV s least most).1 ≤ 9223372036854775807 ∧ formB s = true ∧ (parseV s least most).1 = numZ s ∧ least ≤ numZ s ∧ numZ s ≤ most) ∨
    ((parseV s least most).2 = 3 ∧ (parseV s least most).1 = 0 ∧ formB s = false) ∨ ((parseV s least most).2 = 11 ∧ (parseV s least most).1 = 0 ∧ formB s = true) := by
  unfold parseV
  split
  · split
    · rename_i h1 h2; exact .inl ⟨rfl, h2.1, h2.2.1, h1, rfl, h2.2.2.1, h2.2.2.2⟩
    · rename_i h1 h2; exact .inr (.inr ⟨rfl, rfl, h1⟩)
  · rename_i h1; exact .inr (.inl ⟨rfl, rfl, by simpa using h1⟩)

theorem nocomma {n : Int} : ∀ c ∈ textL n, c ≠ 44 := by
  intro c hc e
  subst e
  unfold textL at hc
  split at hc
  · rcases List.mem_cons.1 hc with hc | hc
    · exact absurd hc (by decide)
    · exact absurd (natL_digits _ _ hc).1 (by decide)
  · exact absurd (natL_digits _ _ hc).1 (by decide)
theorem sF_run : ∀ (p l w : List UInt8), (∀ c ∈ p, c ≠ 44) → sF (p ++ l) w = sF l (w ++ p)
  | [], l, w, _ => by simp
  | c :: p, l, w, h => by
    rw [List.cons_append, sF, if_neg (h c (by simp)), sF_run p l (w ++ [c]) fun c hc => h c (by simp [hc])]
    simp
theorem split_join : ∀ (a : List UInt8) (ps : List (List UInt8)), (∀ p ∈ a :: ps, ∀ c ∈ p, c ≠ 44) → splitL (Lib.join (a :: ps) [44]) = a :: ps
  | a, [], h => by
    rw [Lib.join_one]
    have := sF_run a [] [] (h a (by simp))
    rw [List.append_nil] at this
    unfold splitL; rw [this]; rfl
  | a, b :: ps, h => by
    have ih := split_join b ps fun p hp => h p (by simp [hp])
    have e : Lib.join (a :: b :: ps) [44] = a ++ 44 :: Lib.join (b :: ps) [44] := by simp [Lib.join_cons, Lib.joinTail]
    unfold splitL at ih ⊢
    rw [e, sF_run a _ _ (h a (by simp)), sF, if_pos rfl, ih]
    rfl
theorem rowP_texts : ∀ (zs acc : List Int), (∀ z ∈ zs, -9223372036854775808 ≤ z ∧ z ≤ 9223372036854775807) → rowP (-9223372036854775808) 9223372036854775807 (zs.map textL) acc = (acc ++ zs, 0)
  | [], acc, _ => by simp [rowP]
  | z :: zs, acc, h => by
    rw [List.map_cons, rowP, parse_back z (h z (by simp)), if_pos rfl, rowP_texts zs _ fun z hz => h z (by simp [hz])]
    simp
theorem row_back (zs : List Int) (h : ∀ z ∈ zs, -9223372036854775808 ≤ z ∧ z ≤ 9223372036854775807) : rowV (rowL zs) (-9223372036854775808) 9223372036854775807 = (zs, 0) := by
  cases zs with
  | nil => rfl
  | cons z zs =>
    have e : rowL (z :: zs) = Lib.join (textL z :: zs.map textL) [44] := by unfold rowL; rw [if_neg (by simp), List.map_cons]
    have hne : rowL (z :: zs) ≠ [45] := by
      intro he
      have hs := split_join (textL z) (zs.map textL) (fun p hp => by
        rcases List.mem_cons.1 hp with rfl | hp
        · exact nocomma
        · obtain ⟨y, _, rfl⟩ := List.mem_map.1 hp; exact nocomma)
      rw [← e, he] at hs
      have h1 : splitL [45] = [[45]] := rfl
      rw [h1] at hs
      injection hs with hs _
      have hf := form_text z
      rw [← hs] at hf
      exact absurd hf (by decide)
    unfold rowV
    rw [if_neg hne, e, split_join _ _ (fun p hp => by
      rcases List.mem_cons.1 hp with rfl | hp
      · exact nocomma
      · obtain ⟨y, _, rfl⟩ := List.mem_map.1 hp; exact nocomma)]
    have := rowP_texts (z :: zs) [] h
    simpa using this
end Go.Proofs.YtjcjmjnajhkdaaaDoor

-- part DigM
namespace Go.Proofs.YtjcjmjnajhkdaaaDoor
open Go.RowKit
set_option linter.unusedVariables false
set_option linter.unusedSimpArgs false
set_option maxRecDepth 100000

set_option maxHeartbeats 1000000 in
theorem rsame_ (A1 A2 : Option Addr) (n c1 c2 B1 B2 : Nat) (zs : List Int) (w : World) (h1 : Sees w B1 1 A1 n (zs.map (Value.int .i64))) (h2 : Sees w B2 1 A2 n (zs.map (Value.int .i64))) (hn : n ≤ 1000000000) :
    Calls Tryd.prog 24 #[.slice A1 n c1, .slice A2 n c2] w fun e w' => e = .returned (.bool true) ∧ ∃ k, w' = w.drewN k := by
  have HS1 := Lib.hid h1
  have HS2 := Lib.hid h2
  clear h1 h2
  go_enter Tryd.func24, Tryd.ntmps24
  go_wp2
  go_loopw [5] (fun v5 wr => ∃ k : Nat, k ≤ n ∧ v5 = .int .i64 k ∧ ∃ q, wr = w.drewN q) (fun v5 _ => n - (intOf v5).toNat)
  case atStart => exact ⟨0, Nat.zero_le _, rfl, 0, rfl⟩
  case round =>
    obtain ⟨k, hk, rfl, q, rfl⟩ := hrel
    by_cases hlt : k < n
    · obtain ⟨ad1, z, rfl, hz1, hc1⟩ := ints_at HS1.out hlt
      obtain ⟨ad2, z2, rfl, hz2, hc2⟩ := ints_at HS2.out hlt
      obtain rfl : z = z2 := by rw [hz1] at hz2; injection hz2
      clear hz1 hz2
      go_wp2
      go_quiet (fail)
      go_wp2
      go_roundw
      case rel => exact ⟨k + 1, by omega, by go_num, _, rfl⟩
      case measure => simp [intOf]; omega
    · obtain rfl : k = n := by omega
      go_wp2
      go_ret
      exact ⟨rfl, _, rfl⟩

theorem strs_here {w : World} {B n k : Nat} {A : Option Addr} {l : List ByteArray} (h : Sees w B 1 A n (l.map Value.string)) (hk : k < n) : ∃ (ad : Addr) (hl : k < l.length), A = some ad ∧ w.cell? (ad.add k) = some (.string l[k]) := by
  obtain ⟨ad, u, hA, hu, hc⟩ := h.at_ hk
  have hl : k < l.length := by have := h.1; simp at this; omega
  refine ⟨ad, hl, hA, ?_⟩
  rw [List.getElem?_map, List.getElem?_eq_getElem hl] at hu
  simp only [Option.map_some, Option.some.injEq] at hu
  rw [hc, hu]
theorem part_at {w : World} {B n k b : Nat} {P : List (List UInt8)} (h : Sees w B 1 (some ⟨b, 0, none⟩) n ((P.map (fun x => (⟨x.toArray⟩ : ByteArray))).map Value.string)) (hk : k < n) :
    ∃ p, P[k]? = some p ∧ P.drop k = p :: P.drop (k + 1) ∧ w.cell? ⟨b, k, none⟩ = some (.string ⟨p.toArray⟩) := by
  obtain ⟨ad, hl, hA, hc⟩ := strs_here h hk
  have hl' : k < P.length := by simpa using hl
  refine ⟨P[k], List.getElem?_eq_getElem hl', List.drop_eq_getElem_cons hl', ?_⟩
  injection hA with hA
  subst hA
  rw [show (⟨b, 0, none⟩ : Addr).add k = ⟨b, k, none⟩ from by unfold Addr.add; split <;> simp_all] at hc
  rw [hc]
  simp
theorem parse_ok {p : List UInt8} {least most : Int} (h : (parseV p least most).2 = 0) : parseR p least most = .tuple #[.int .i64 (parseV p least most).1, .int .i64 0] := by unfold parseR; rw [h]
theorem parse_no {p : List UInt8} {least most : Int} (h : (parseV p least most).2 ≠ 0) : ∃ e : Int, (parseV p least most).2 = e ∧ parseR p least most = .tuple #[.int .i64 0, .int .i64 e] ∧ (e == 0) = false := by
  refine ⟨_, rfl, ?_, by simpa using h⟩
  unfold parseR
  rcases parse_cases p least most with ⟨h0, _⟩ | ⟨_, h1, _⟩ | ⟨_, h1, _⟩
  · exact absurd h0 h
  · rw [h1]
  · rw [h1]
theorem i64info : (Tryd.prog.info? 3).map (fun i => (i.zero, i.size, i.bytes)) = some (some (.int .i64 0), 1, 8) := by kernel_rfl
theorem intV_one (z : Int) : ∀ u ∈ [Value.int .i64 z], u.oneCell' = true := by intro u hu; simp at hu; subst hu; rfl

/-- What both give: the numbers, in a row of its own, and why there are none. -/
def RowPost (s : List UInt8) (least most : Int) (w : World) (e : Ending) (w' : World) : Prop :=
  ∃ A c, e = .returned (.tuple #[.slice A (rowV s least most).1.length c, .int .i64 (rowV s least most).2]) ∧ Sees w' w'.heap.size 1 A (rowV s least most).1.length ((rowV s least most).1.map (Value.int .i64)) ∧ Pure' w w'

/-- A row of numbers of its own. -/
structure Nums (w0 wr : World) (v : Value) (acc : List Int) : Prop where
  row : Row wr 3 1 v acc.length (acc.map (Value.int .i64))
  own : ∀ b, v.ownBlock = some b → w0.heap.size ≤ b
  pure : Pure' w0 wr
theorem Nums.then_ {w0 wr w1 : World} {v : Value} {acc : List Int} (h : Nums w0 wr v acc) (hk : Pure' wr w1) : Nums w0 w1 v acc :=
  ⟨h.row.keep hk fun _ _ hf => hf, h.own, h.pure.then_ hk⟩
theorem rowP_go {least most : Int} {p : List UInt8} {ps : List (List UInt8)} {acc : List Int} (h : (parseV p least most).2 = 0) : rowP least most (p :: ps) acc = rowP least most ps (acc ++ [(parseV p least most).1]) := by rw [rowP, if_pos h]
theorem rowP_stop {least most : Int} {p : List UInt8} {ps : List (List UInt8)} {acc : List Int} (h : (parseV p least most).2 ≠ 0) : rowP least most (p :: ps) acc = ([], (parseV p least most).2) := by rw [rowP, if_neg h]
theorem rowV_all {s : List UInt8} {least most : Int} (h : s ≠ [45]) : rowV s least most = rowP least most (splitL s) [] := by rw [rowV, if_neg h]

theorem nums_nil {w w' : World} (h : Pure' w w') : Nums w w' (.slice none 0 0) [] := ⟨Row.nil _ _ _, fun b hb => by simp [Value.ownBlock] at hb, h⟩
/-- What both give, and whose the row is. -/
def RowPost2 (s : List UInt8) (least most : Int) (w : World) (e : Ending) (w' : World) : Prop :=
  ∃ A c, e = .returned (.tuple #[.slice A (rowV s least most).1.length c, .int .i64 (rowV s least most).2]) ∧ Nums w w' (.slice A (rowV s least most).1.length c) (rowV s least most).1
theorem RowPost2.less {s : List UInt8} {least most : Int} {w w' : World} {e : Ending} (h : RowPost2 s least most w e w') : RowPost s least most w e w' := by
  obtain ⟨A, c, h1, h2⟩ := h
  exact ⟨A, c, h1, h2.row.sees, h2.pure⟩

set_option maxHeartbeats 2000000 in
theorem parserow2_ (s : List UInt8) (least most : Int) (w : World) (m : Int) (hmx : w.cell? ⟨2, 0, none⟩ = some (.int .i64 m)) (hs : s.length ≤ 100000) (hl : -9223372036854775808 ≤ least ∧ least ≤ 9223372036854775807) (hm : -9223372036854775808 ≤ most ∧ most ≤ 9223372036854775807) :
    Calls Tryd.prog 45 #[.string ⟨s.toArray⟩, .int .i64 least, .int .i64 most] w fun e w' => RowPost2 s least most w e w' := by
  obtain ⟨i0, hi, hz0, hz1, hz2⟩ := info_parts i64info
  by_cases h45 : s = [45]
  · subst h45
    go_enter Tryd.func45, Tryd.ntmps45
    go_wp2
    go_ret2
    exact ⟨none, 0, rfl, nums_nil (Keeps.refl _ _)⟩
  have hsp := Tryd.strings_Split ⟨s.toArray⟩ ⟨#[44]⟩ m w (by show s.toArray.size < _; simp; omega) hmx (by decide)
  rw [splitB_split, split_count] at hsp
  have hpl := (sF_len s []).1
  have HPL := Lib.hid (fun x hx => (sF_len s []).2 x hx)
  have HRV := Lib.hid (rowV_all (least := least) (most := most) h45)
  have q1 : (s == [45]) = false := by simpa using h45
  clear h45 hmx
  rw [show sF s [] = splitL s from rfl] at hpl HPL
  generalize hP : splitL s = P at *
  clear hP
  obtain ⟨PV, hPV⟩ : ∃ PV, (P.map (fun x => (⟨x.toArray⟩ : ByteArray))).map Value.string = PV := ⟨_, rfl⟩
  rw [hPV] at hsp
  have hPVl : PV.length = P.length := by rw [← hPV]; simp
  have HPV := Lib.hid hPV
  have HSP := Lib.hid hsp
  have HPA := Lib.hid (fun p w (h : p.length ≤ 100000) => parse_ p least most w (by omega) hl hm)
  clear hsp hl hm hPV
  generalize hn : P.length = n at *
  have HN := Lib.hid hn
  have HPVL := Lib.hid hPVl
  clear hn hPVl
  go_enter Tryd.func45, Tryd.ntmps45
  go_wp2_with (go_at_call 69; refine HSP.out.mono ?_; rintro e w1 ⟨rfl, rfl⟩)
  have HSE := Lib.hid (sees_new w 9 PV n HPVL.out)
  have HP0 := Lib.hid ((Keeps.refl (fun _ => False) w).alloc (.cells PV.toArray 9))
  generalize hb0 : w.heap.size = b0 at *
  generalize w.alloc (.cells PV.toArray 9) = w1 at *
  go_loopw [8, 18] (fun v8 v18 wr => ∃ (k : Nat) (acc : List Int), k ≤ n ∧ v18 = .int .i64 k ∧ acc.length ≤ k ∧ rowP least most (P.drop k) acc = rowP least most P [] ∧ Nums w1 wr v8 acc) (fun _ v18 _ => n - (intOf v18).toNat)
  case atStart => exact ⟨0, [], Nat.zero_le _, rfl, Nat.le_refl _, rfl, ⟨Row.nil _ _ _, fun b hb => by simp [Value.ownBlock] at hb, Keeps.refl _ _⟩⟩
  case round =>
    obtain ⟨k, acc, hk, rfl, hak, hrp, hnum⟩ := hrel
    obtain ⟨a, cp, rfl, hcp⟩ := hnum.row.form
    have HNU := Lib.hid hnum
    have hse := HSE.out.pure hnum.pure (Nat.le_refl _)
    clear hnum
    by_cases hlt : k < n
    · obtain ⟨p, hpk, hdr, hcell⟩ := part_at (P := P) (by rw [HPV.out]; exact hse) hlt
      rw [hdr] at hrp
      have hplen : p.length ≤ 100000 := by have := HPL.out p (List.mem_of_getElem? hpk); simp at this; omega
      by_cases h0 : (parseV p least most).2 = 0
      · have hp := fun w => HPA.out p w hplen
        rw [parse_ok h0] at hp
        rw [rowP_go h0] at hrp
        obtain ⟨z, hz⟩ : ∃ z, (parseV p least most).1 = z := ⟨_, rfl⟩
        rw [hz] at hp hrp
        have HP1 := Lib.hid hp
        have HRP := Lib.hid hrp
        clear hp hrp hpk hdr hse h0 hz
        go_wp2_with (first
          | (go_at_call 67; refine (HP1.out _).mono ?_; rintro e w2 ⟨rfl, hk2⟩; have HNU2 := Lib.hid (HNU.out.then_ hk2); clear hk2)
          | (at_builtin; refine wpl_append _ rfl (.tmp 32) (.tmp 34) 27 rfl 3 i0 (.int .i64 0) 1 8 Tryd.underlying27 hi hz0 hz1 hz2 rfl (by decide) (.slice a acc.length cp) acc.length (acc.map (Value.int .i64)) rfl ?own ⟨w2.heap.size, 0, none⟩ 1 1 [.int .i64 z] rfl rfl ?news ?one (by decide) ?b1 ?b2 ?k))
        case own => exact Row.alloc HNU2.out.row _
        case news => exact news1
        case one => exact intV_one _
        case b1 => unfold maxLen; omega
        case b2 => omega
        case k =>
          intro b1 cap1 w3 ho1 hg1 hb1 hl1
          have HK := Lib.hid ((HNU2.out.pure.alloc _).grown hg1 (fun k hk => .inr (HNU2.out.own k hk)))
          have HD : Hid (w1.heap.size ≤ b1) := by
            rcases hb1 with h | h
            · exact Lib.hid (HNU2.out.own _ h)
            · exact Lib.hid (by rw [h]; have := HNU2.out.pure.size; simp [World.alloc]; omega)
          have HN3 : Hid (Nums w1 w3 (.slice (some ⟨b1, 0, none⟩) (acc ++ [z]).length cap1) (acc ++ [z])) := Lib.hid ⟨by simpa using ho1, fun b hb => by simp [Value.ownBlock] at hb; rw [← hb]; exact HD.out, HK.out⟩
          clear ho1 hg1 hb1
          go_wp2
          go_roundw
          case rel => exact ⟨k + 1, acc ++ [z], by omega, by go_num, by simp; omega, HRP.out, by have := HN3.out; simpa using this⟩
          case measure => simp [intOf]; omega
      · obtain ⟨er, he, hpr, her⟩ := parse_no h0
        have hp := fun w => HPA.out p w hplen
        rw [hpr] at hp
        rw [rowP_stop h0, he] at hrp
        have HP1 := Lib.hid hp
        have HRP := Lib.hid (HRV.out.trans hrp.symm)
        have her' : (er != 0) = true := by simpa using her
        clear hp hrp hpk hdr hse h0 he hpr
        go_wp2_with (go_at_call 67; refine (HP1.out _).mono ?_; rintro e w2 ⟨rfl, hk2⟩; have HNU2 := Lib.hid (HNU.out.then_ hk2); clear hk2)
        go_ret2
        unfold RowPost2
        rw [HRP.out]
        exact ⟨none, 0, rfl, nums_nil (HP0.out.then_ HNU2.out.pure)⟩
    · obtain rfl : k = n := by omega
      rw [List.drop_eq_nil_of_le (by rw [HN.out]; exact Nat.le_refl _), rowP] at hrp
      have HRP := Lib.hid (HRV.out.trans hrp.symm)
      clear hrp hse
      go_wp2
      go_ret2
      unfold RowPost2
      rw [HRP.out]
      exact ⟨_, _, rfl, HNU.out.row, fun b hb => Nat.le_trans HP0.out.size (HNU.out.own b hb), HP0.out.then_ HNU.out.pure⟩
theorem parserow_ (s : List UInt8) (least most : Int) (w : World) (m : Int) (hmx : w.cell? ⟨2, 0, none⟩ = some (.int .i64 m)) (hs : s.length ≤ 100000) (hl : -9223372036854775808 ≤ least ∧ least ≤ 9223372036854775807) (hm : -9223372036854775808 ≤ most ∧ most ≤ 9223372036854775807) :
    Calls Tryd.prog 45 #[.string ⟨s.toArray⟩, .int .i64 least, .int .i64 most] w fun e w' => RowPost s least most w e w' := (parserow2_ s least most w m hmx hs hl hm).mono fun _ _ h => h.less

end Go.Proofs.YtjcjmjnajhkdaaaDoor

-- part DigO
namespace Go.Proofs.YtjcjmjnajhkdaaaDoor
open Go.RowKit
set_option linter.unusedVariables false
set_option linter.unusedSimpArgs false
set_option maxRecDepth 100000

theorem nums_empty (w : World) : Nums w (w.alloc (.cells #[] 3)) (.slice (some ⟨w.heap.size, 0, none⟩) 0 0) [] :=
  ⟨⟨rfl, .inr ⟨w.heap.size, 0, #[], rfl, Nat.zero_le _, Blk.new w _ #[], Nat.le_refl _, Nat.zero_le _, rfl, rfl⟩⟩, fun b hb => by simp [Value.ownBlock] at hb; omega, (Keeps.refl _ w).alloc _⟩
theorem word_of (s : List UInt8) (f k : Nat) (h : f ≤ k) : (⟨s.toArray⟩ : ByteArray).extract f k = ⟨((s.drop f).take (k - f)).toArray⟩ := bytes_eq (by
  simp [ByteArray.extract, ByteArray.copySlice, List.take_drop])
theorem word_more {s : List UInt8} {f k : Nat} {c : UInt8} (h : f ≤ k) (hc : s[k]? = some c) : (s.drop f).take (k + 1 - f) = (s.drop f).take (k - f) ++ [c] := by
  rw [show k + 1 - f = (k - f) + 1 by omega, List.take_add_one, List.getElem?_drop, show f + (k - f) = k by omega, hc]
  rfl
theorem word_none (s : List UInt8) (f : Nat) : (s.drop f).take (f - f) = [] := by rw [Nat.sub_self]; rfl

set_option maxHeartbeats 2000000 in
theorem rparserow2_ (s : List UInt8) (least most : Int) (w : World) (hs : s.length ≤ 100000) (hl : -9223372036854775808 ≤ least ∧ least ≤ 9223372036854775807) (hm : -9223372036854775808 ≤ most ∧ most ≤ 9223372036854775807) :
    Calls Tryd.prog 50 #[.string ⟨s.toArray⟩, .int .i64 least, .int .i64 most] w fun e w' => RowPost2 s least most w e w' := by
  obtain ⟨i0, hi, hz0, hz1, hz2⟩ := info_parts i64info
  by_cases h45 : s = [45]
  · subst h45
    have HE := Lib.hid (nums_empty w)
    go_enter Tryd.func50, Tryd.ntmps50
    go_wp2
    go_ret2
    exact ⟨_, 0, rfl, HE.out⟩
  have HE := Lib.hid (nums_empty w)
  have HRV := Lib.hid (rowV_all (least := least) (most := most) h45)
  have q1 : (s == [45]) = false := by simpa using h45
  clear h45
  have hsz : ((⟨s.toArray⟩ : ByteArray)).size = s.length := by simp [ByteArray.size]
  have HPA := Lib.hid (fun p w (h : p.length ≤ 100000) => rparse_ p least most w (by omega) hl hm)
  clear hl hm
  generalize hn : s.length = n at *
  have HN := Lib.hid hn
  clear hn
  go_enter Tryd.func50, Tryd.ntmps50
  go_wp2
  go_loopw [8, 9, 10] (fun v8 v9 v10 wr => ∃ (f k : Nat) (acc : List Int), f ≤ k ∧ k ≤ n + 1 ∧ v9 = .int .i64 f ∧ v10 = .int .i64 k ∧ acc.length ≤ k ∧ Nums w wr v8 acc ∧
      (k ≤ n → rowP least most (sF (s.drop k) ((s.drop f).take (k - f))) acc = rowP least most (splitL s) []) ∧ (k = n + 1 → (acc, (0 : Int)) = rowP least most (splitL s) [])) (fun _ _ v10 _ => n + 1 - (intOf v10).toNat)
  case atStart => exact ⟨0, 0, [], Nat.le_refl _, Nat.zero_le _, rfl, rfl, Nat.zero_le _, HE.out, fun _ => rfl, fun h => by omega⟩
  case round =>
    obtain ⟨f, k, acc, hfk, hk, rfl, rfl, hak, hnum, h1, h2⟩ := hrel
    obtain ⟨a, cp, rfl, hcp⟩ := hnum.row.form
    have HNU := Lib.hid hnum
    have H1 := Lib.hid h1
    have H2 := Lib.hid h2
    clear hnum h1 h2
    by_cases hlt : k < n
    · obtain ⟨c, hdk⟩ : ∃ c, s[k]? = some c := ⟨_, List.getElem?_eq_getElem (by rw [HN.out]; exact hlt)⟩
      have hg := byte_at hdk
      have hcl := c.toNat_lt
      have hdr : s.drop k = c :: s.drop (k + 1) := by
        have hl := (List.getElem?_eq_some_iff.1 hdk).1
        rw [List.drop_eq_getElem_cons hl]
        rw [List.getElem?_eq_getElem hl] at hdk
        injection hdk with hdk
        rw [hdk]
      have hrp := H1.out (by omega)
      rw [hdr, sF] at hrp
      by_cases h44 : c = 44
      · have t44 : ((c.toNat : Int) != 44) = false := by subst h44; rfl
        rw [if_pos h44] at hrp
        clear h44 hdk
        have HX := Lib.hid (word_of s f k hfk)
        have hwl : ((s.drop f).take (k - f)).length ≤ 100000 := by rw [List.length_take, List.length_drop, HN.out]; omega
        obtain ⟨W, hW⟩ : ∃ W, (s.drop f).take (k - f) = W := ⟨_, rfl⟩
        rw [hW] at hrp hwl HX
        clear hW
        by_cases h0 : (parseV W least most).2 = 0
        · have hp := fun w => HPA.out W w hwl
          rw [parse_ok h0] at hp
          rw [rowP_go h0] at hrp
          obtain ⟨z, hz⟩ : ∃ z, (parseV W least most).1 = z := ⟨_, rfl⟩
          rw [hz] at hp hrp
          have HP1 := Lib.hid hp
          have HRP := Lib.hid hrp
          clear hp hrp h0 hz
          go_wp2_with (first
            | (go_at_call 47; rw [HX.out]; refine (HP1.out _).mono ?_; rintro e w2 ⟨rfl, rfl⟩)
            | (at_builtin; refine wpl_append _ rfl (.tmp 46) (.tmp 48) 27 rfl 3 i0 (.int .i64 0) 1 8 Tryd.underlying27 hi hz0 hz1 hz2 rfl (by decide) (.slice a acc.length cp) acc.length (acc.map (Value.int .i64)) rfl ?own ⟨wr.heap.size, 0, none⟩ 1 1 [.int .i64 z] rfl rfl ?news ?one (by decide) ?b1 ?b2 ?k))
          case own => exact Row.alloc HNU.out.row _
          case news => exact news1
          case one => exact intV_one _
          case b1 => unfold maxLen; omega
          case b2 => omega
          case k =>
            intro b1 cap1 w3 ho1 hg1 hb1 hl1
            have HK := Lib.hid ((HNU.out.pure.alloc _).grown hg1 (fun k hk => .inr (HNU.out.own k hk)))
            have HD : Hid (w.heap.size ≤ b1) := by
              rcases hb1 with h | h
              · exact Lib.hid (HNU.out.own _ h)
              · exact Lib.hid (by rw [h]; have := HNU.out.pure.size; simp [World.alloc]; omega)
            have HN3 : Hid (Nums w w3 (.slice (some ⟨b1, 0, none⟩) (acc ++ [z]).length cap1) (acc ++ [z])) := Lib.hid ⟨by simpa using ho1, fun b hb => by simp [Value.ownBlock] at hb; rw [← hb]; exact HD.out, HK.out⟩
            clear ho1 hg1 hb1
            go_wp2
            go_roundw
            case rel => exact ⟨k + 1, k + 1, acc ++ [z], Nat.le_refl _, by omega, by go_num, by go_num, by rw [List.length_append, List.length_singleton]; omega, by have := HN3.out; simpa using this, fun _ => by rw [word_none]; exact HRP.out, fun h => by omega⟩
            case measure => simp [intOf] <;> omega
        · obtain ⟨er, he, hpr, her⟩ := parse_no h0
          have hp := fun w => HPA.out W w hwl
          rw [hpr] at hp
          rw [rowP_stop h0, he] at hrp
          have HP1 := Lib.hid hp
          have HRP := Lib.hid (HRV.out.trans hrp.symm)
          have her' : (er != 0) = true := by simpa using her
          clear hp hrp h0 he hpr
          go_wp2_with (go_at_call 47; rw [HX.out]; refine (HP1.out _).mono ?_; rintro e w2 ⟨rfl, rfl⟩)
          go_ret2
          unfold RowPost2
          rw [HRP.out]
          exact ⟨none, 0, rfl, nums_nil HNU.out.pure⟩

      · have t44 : ((c.toNat : Int) != 44) = true := by
          have : c.toNat ≠ 44 := fun e => h44 (UInt8.toNat_inj.1 e)
          simp; omega
        rw [if_neg h44, ← word_more hfk hdk] at hrp
        have HRP := Lib.hid hrp
        clear h44 hdk hrp hdr
        go_wp2
        go_roundw
        case rel => exact ⟨f, k + 1, acc, by omega, by omega, rfl, by go_num, by omega, HNU.out, fun _ => HRP.out, fun h => by omega⟩
        case measure => simp [intOf] <;> omega
    · by_cases hkn : k = n
      · obtain rfl : k = n := hkn
        have hrp := H1.out (by omega)
        rw [List.drop_eq_nil_of_le (by rw [HN.out]; omega), sF] at hrp
        have HX := Lib.hid (word_of s f k hfk)
        have hwl : ((s.drop f).take (k - f)).length ≤ 100000 := by rw [List.length_take, List.length_drop, HN.out]; omega
        obtain ⟨W, hW⟩ : ∃ W, (s.drop f).take (k - f) = W := ⟨_, rfl⟩
        rw [hW] at hrp hwl HX
        clear hW
        by_cases h0 : (parseV W least most).2 = 0
        · have hp := fun w => HPA.out W w hwl
          rw [parse_ok h0] at hp
          rw [rowP_go h0] at hrp
          obtain ⟨z, hz⟩ : ∃ z, (parseV W least most).1 = z := ⟨_, rfl⟩
          rw [hz] at hp hrp
          have HP1 := Lib.hid hp
          have HRP := Lib.hid hrp
          clear hp hrp h0 hz
          go_wp2_with (first
            | (go_at_call 47; rw [HX.out]; refine (HP1.out _).mono ?_; rintro e w2 ⟨rfl, rfl⟩)
            | (at_builtin; refine wpl_append _ rfl (.tmp 46) (.tmp 48) 27 rfl 3 i0 (.int .i64 0) 1 8 Tryd.underlying27 hi hz0 hz1 hz2 rfl (by decide) (.slice a acc.length cp) acc.length (acc.map (Value.int .i64)) rfl ?own ⟨wr.heap.size, 0, none⟩ 1 1 [.int .i64 z] rfl rfl ?news ?one (by decide) ?b1 ?b2 ?k))
          case own => exact Row.alloc HNU.out.row _
          case news => exact news1
          case one => exact intV_one _
          case b1 => unfold maxLen; omega
          case b2 => omega
          case k =>
            intro b1 cap1 w3 ho1 hg1 hb1 hl1
            have HK := Lib.hid ((HNU.out.pure.alloc _).grown hg1 (fun k hk => .inr (HNU.out.own k hk)))
            have HD : Hid (w.heap.size ≤ b1) := by
              rcases hb1 with h | h
              · exact Lib.hid (HNU.out.own _ h)
              · exact Lib.hid (by rw [h]; have := HNU.out.pure.size; simp [World.alloc]; omega)
            have HN3 : Hid (Nums w w3 (.slice (some ⟨b1, 0, none⟩) (acc ++ [z]).length cap1) (acc ++ [z])) := Lib.hid ⟨by simpa using ho1, fun b hb => by simp [Value.ownBlock] at hb; rw [← hb]; exact HD.out, HK.out⟩
            clear ho1 hg1 hb1
            go_wp2
            go_roundw
            case rel => exact ⟨k + 1, k + 1, acc ++ [z], Nat.le_refl _, by omega, by go_num, by go_num, by rw [List.length_append, List.length_singleton]; omega, by have := HN3.out; simpa using this, fun h => by omega, fun _ => by have := HRP.out; rw [rowP] at this; exact this⟩
            case measure => simp [intOf] <;> omega
        · obtain ⟨er, he, hpr, her⟩ := parse_no h0
          have hp := fun w => HPA.out W w hwl
          rw [hpr] at hp
          rw [rowP_stop h0, he] at hrp
          have HP1 := Lib.hid hp
          have HRP := Lib.hid (HRV.out.trans hrp.symm)
          have her' : (er != 0) = true := by simpa using her
          clear hp hrp h0 he hpr
          go_wp2_with (go_at_call 47; rw [HX.out]; refine (HP1.out _).mono ?_; rintro e w2 ⟨rfl, rfl⟩)
          go_ret2
          unfold RowPost2
          rw [HRP.out]
          exact ⟨none, 0, rfl, nums_nil HNU.out.pure⟩

      · have hrp := H2.out (by omega)
        have HRP := Lib.hid (HRV.out.trans hrp.symm)
        clear hrp
        go_wp2
        go_ret2
        unfold RowPost2
        rw [HRP.out]
        exact ⟨_, _, rfl, HNU.out⟩
theorem rparserow_ (s : List UInt8) (least most : Int) (w : World) (hs : s.length ≤ 100000) (hl : -9223372036854775808 ≤ least ∧ least ≤ 9223372036854775807) (hm : -9223372036854775808 ≤ most ∧ most ≤ 9223372036854775807) :
    Calls Tryd.prog 50 #[.string ⟨s.toArray⟩, .int .i64 least, .int .i64 most] w fun e w' => RowPost s least most w e w' := (rparserow2_ s least most w hs hl hm).mono fun _ _ h => h.less

end Go.Proofs.YtjcjmjnajhkdaaaDoor

-- part DigAr
namespace Go.Proofs.YtjcjmjnajhkdaaaDoor
open Go.RowKit
set_option linter.unusedVariables false
set_option linter.unusedSimpArgs false
set_option maxRecDepth 100000

theorem one_nat (k : Nat) (w : World) (h : k < 10) : Calls Tryd.prog 60 #[.int .i64 k] w fun e w' => e = .returned (.string ⟨#[dg k]⟩) ∧ w = w' := by
  go_enter Tryd.func60, Tryd.ntmps60
  have HE : Hid ((⟨#[48, 49, 50, 51, 52, 53, 54, 55, 56, 57]⟩ : ByteArray).extract k (k + 1) = ⟨#[dg k]⟩) := Lib.hid (by
    have : ∀ k : Fin 10, (⟨#[48, 49, 50, 51, 52, 53, 54, 55, 56, 57]⟩ : ByteArray).extract k.1 (k.1 + 1) = ⟨#[dg k.1]⟩ := by decide +kernel
    exact this ⟨k, h⟩)
  go_wp2
  go_ret
  rw [← HE.out]
  exact ⟨rfl, rfl⟩
theorem one_ (k : Int) (w : World) (h : 0 ≤ k) (h2 : k < 10) : Calls Tryd.prog 60 #[.int .i64 k] w fun e w' => e = .returned (.string ⟨#[dg k.toNat]⟩) ∧ w = w' := by
  have := one_nat k.toNat w (by omega)
  rwa [show ((k.toNat : Nat) : Int) = k by omega] at this

set_option maxHeartbeats 1000000 in
theorem rtext_ : ∀ (m : Nat) (n : Int) (w : World), n.natAbs < m → -9223372036854775808 ≤ n → n ≤ 9223372036854775807 → Calls Tryd.prog 30 #[.int .i64 n] w fun e w' => e = .returned (.string ⟨(textL n).toArray⟩) ∧ w = w' := by
  intro m
  induction m with
  | zero => intro n w h; exact absurd h (Nat.not_lt_zero _)
  | succ m ih =>
    intro n w hm h1 h2
    have H1 := Lib.hid one_
    have IH := Lib.hid ih
    clear ih
    by_cases h : n < 0
    · have ht := textL_neg h
      by_cases hs : -10 < n
      · rw [natL_small (by omega)] at ht
        have HT := Lib.hid ht
        clear ht
        go_enter Tryd.func30, Tryd.ntmps30
        go_wp2_with (go_at_call 60; refine (H1.out _ _ (by omega) (by omega)).mono ?_; rintro e w1 ⟨rfl, rfl⟩)
        go_ret
        rw [HT.out, show n.natAbs = (-n).toNat by omega]
        exact ⟨rfl, rfl⟩
      · rw [natL_big (by omega)] at ht
        have hd : Int.tdiv n 10 = -((n.natAbs / 10 : Nat) : Int) := tdiv_neg10 h
        have hm10 : Int.tmod n 10 = -((n.natAbs % 10 : Nat) : Int) := tmod_neg10 h
        have hb1 : -9 ≤ Int.tmod n 10 := by omega
        have hb2 : Int.tmod n 10 ≤ 0 := by omega
        have hl := textL_neg (n := -((n.natAbs / 10 : Nat) : Int)) (by omega)
        rw [show (-((n.natAbs / 10 : Nat) : Int)).natAbs = n.natAbs / 10 by omega] at hl
        have hlen := natL_len 19 (n.natAbs / 10) (by omega) (by omega)
        obtain ⟨T, hT⟩ : ∃ T, 45 :: natL (n.natAbs / 10) = T := ⟨_, rfl⟩
        have hTl : T.length ≤ 20 := by rw [← hT]; simp; omega
        rw [hT] at hl
        rw [← List.cons_append, hT] at ht
        have HD := Lib.hid hd
        have HM := Lib.hid hm10
        have HT := Lib.hid ht
        have HTd := Lib.hid hl
        clear ht hd hm10 hl hT hlen
        go_enter Tryd.func30, Tryd.ntmps30
        go_wp2_with (first | (go_at_call 60; refine (H1.out _ _ (by omega) (by omega)).mono ?_; rintro e w1 ⟨rfl, rfl⟩) | (go_at_call 30; rw [HD.out]; refine (IH.out _ _ (by omega) (by omega) (by omega)).mono ?_; rintro e w1 ⟨rfl, rfl⟩; rw [HTd.out]))
        go_ret
        rw [HT.out, show n.natAbs % 10 = (-n.tmod 10).toNat by have := HM.out; omega]
        exact ⟨congrArg Ending.returned (congrArg Value.string (bytes_eq (by simp))), rfl⟩
    · have ht := textL_pos h
      by_cases hs : n < 10
      · rw [natL_small (by omega)] at ht
        have HT := Lib.hid ht
        clear ht
        go_enter Tryd.func30, Tryd.ntmps30
        go_wp2_with (go_at_call 60; refine (H1.out _ _ (by omega) (by omega)).mono ?_; rintro e w1 ⟨rfl, rfl⟩)
        go_ret
        rw [HT.out, show n.natAbs = n.toNat by omega]
        exact ⟨rfl, rfl⟩
      · rw [natL_big (by omega)] at ht
        have hd : n / 10 = ((n.natAbs / 10 : Nat) : Int) := by omega
        have hl := textL_pos (n := ((n.natAbs / 10 : Nat) : Int)) (by omega)
        rw [show (((n.natAbs / 10 : Nat) : Int)).natAbs = n.natAbs / 10 by omega] at hl
        have hlen := natL_len 19 (n.natAbs / 10) (by omega) (by omega)
        obtain ⟨T, hT⟩ : ∃ T, natL (n.natAbs / 10) = T := ⟨_, rfl⟩
        have hTl : T.length ≤ 20 := by rw [← hT]; omega
        rw [hT] at hl ht
        have HD := Lib.hid hd
        have HT := Lib.hid ht
        have HTd := Lib.hid hl
        clear ht hd hl hT hlen
        go_enter Tryd.func30, Tryd.ntmps30
        go_wp2_with (first | (go_at_call 60; refine (H1.out _ _ (by omega) (by omega)).mono ?_; rintro e w1 ⟨rfl, rfl⟩) | (go_at_call 30; rw [HD.out]; refine (IH.out _ _ (by omega) (by omega) (by omega)).mono ?_; rintro e w1 ⟨rfl, rfl⟩; rw [HTd.out]))
        go_ret
        rw [HT.out, show n.natAbs % 10 = (n % 10).toNat by omega]
        exact ⟨congrArg Ending.returned (congrArg Value.string (bytes_eq (by simp))), rfl⟩

theorem rtext (n : Int) (w : World) (h1 : -9223372036854775808 ≤ n) (h2 : n ≤ 9223372036854775807) : Calls Tryd.prog 30 #[.int .i64 n] w fun e w' => e = .returned (.string ⟨(textL n).toArray⟩) ∧ w = w' := rtext_ (n.natAbs + 1) n w (Nat.lt_succ_self _) h1 h2
end Go.Proofs.YtjcjmjnajhkdaaaDoor

-- part DigCr
namespace Go.Proofs.YtjcjmjnajhkdaaaDoor
open Go.RowKit
set_option linter.unusedVariables false
set_option linter.unusedSimpArgs false
set_option maxRecDepth 100000

set_option maxHeartbeats 1000000 in
theorem rrow_ (A : Option Addr) (n c B : Nat) (zs : List Int) (w : World) (h : Sees w B 1 A n (zs.map (Value.int .i64))) (hn : n ≤ 1000) (hz : ∀ z ∈ zs, -9223372036854775808 ≤ z ∧ z ≤ 9223372036854775807) :
    Calls Tryd.prog 32 #[.slice A n c] w fun e w' => e = .returned (.string ⟨(rowL zs).toArray⟩) ∧ w = w' := by
  have hll : zs.length = n := by have := h.1; simpa using this
  have HS := Lib.hid h
  have HZ := Lib.hid hz
  have HN := Lib.hid hll
  have HT := Lib.hid rtext
  clear h hz hll
  go_enter Tryd.func32, Tryd.ntmps32
  go_wp2
  go_loopw [3, 4] (fun v3 v4 wr => ∃ k : Nat, k ≤ n ∧ v4 = .int .i64 k ∧ v3 = .string ⟨(jn zs k).toArray⟩ ∧ wr = w) (fun _ v4 _ => n - (intOf v4).toNat)
  case atStart => exact ⟨0, Nat.zero_le _, rfl, rfl, rfl⟩
  case round =>
    obtain ⟨k, hk, rfl, rfl, rfl⟩ := hrel
    have hjl := jn_len HZ.out k (by rw [HN.out]; exact hk)
    by_cases hlt : k < n
    · obtain ⟨ad, z, rfl, hzk, hc⟩ := ints_at HS.out hlt
      have hb := HZ.out z (List.mem_of_getElem? hzk)
      have htl := textL_len hb.1 hb.2
      have hT := fun w => rtext z w hb.1 hb.2
      by_cases hk0 : k = 0
      · have hJ : jn zs (k + 1) = textL z := by subst hk0; exact jn_one hzk
        have hJ0 : jn zs k = [] := by rw [hk0]; rfl
        rw [hJ0]
        generalize textL z = T at *
        have HJ := Lib.hid hJ
        have HT' := Lib.hid hT
        have hk0' : (k : Int) ≤ 0 := by omega
        clear hJ hT hzk hJ0 hjl hk0
        go_wp2_with (go_at_call 30; refine (HT'.out _).mono ?_; rintro e w1 ⟨rfl, rfl⟩)
        go_roundw
        case rel => exact ⟨k + 1, by omega, by go_num, by rw [HJ.out]; exact congrArg Value.string (bytes_eq (by simp)), trivial⟩
        case measure => simp [intOf]; omega
      · have hJ := jn_succ hzk (by omega)
        generalize textL z = T at *
        have HJ := Lib.hid hJ
        have HT' := Lib.hid hT
        clear hJ hT hzk
        generalize jn zs k = J at *
        go_wp2_with (go_at_call 30; refine (HT'.out _).mono ?_; rintro e w1 ⟨rfl, rfl⟩)
        go_roundw
        case rel => exact ⟨k + 1, by omega, by go_num, by rw [HJ.out]; exact congrArg Value.string (bytes_eq (by simp)), trivial⟩
        case measure => simp [intOf]; omega
    · obtain rfl : k = n := by omega
      by_cases h0 : zs = []
      · have hk0 : k = 0 := by have := HN.out; rw [h0] at this; exact this.symm
        have hJ0 : jn zs k = [] := by rw [hk0]; rfl
        have HR : Hid (rowL zs = [45]) := Lib.hid (by unfold rowL; rw [if_pos h0])
        rw [hJ0]
        clear hJ0 hjl h0 hk0
        go_wp2
        go_ret
        rw [HR.out]
        exact ⟨rfl, rfl⟩
      · have hJ := jn_all zs h0
        rw [HN.out] at hJ
        have hne := jn_ne (zs := zs) (k := k) (by have := List.length_pos_iff.2 h0; have := HN.out; omega) (by rw [HN.out]; exact Nat.le_refl _)
        rw [hJ] at hne ⊢
        obtain ⟨R, hR⟩ : ∃ R, rowL zs = R := ⟨_, rfl⟩
        rw [hR] at hne ⊢
        have HR := Lib.hid hR
        clear hjl h0 hJ hR
        go_wp2
        go_ret
        rw [HR.out]
        exact ⟨rfl, rfl⟩
end Go.Proofs.YtjcjmjnajhkdaaaDoor
