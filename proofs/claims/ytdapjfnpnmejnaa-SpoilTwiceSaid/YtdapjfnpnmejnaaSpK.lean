/- The records of bytes that are there whole, by the program; no condition but the sizes. -/
import Derived.Test.YtdapjfnpnmejnaaSpJ
namespace Go.Proofs.Ytdapjfnpnmejnaa
open Go.RowKit Go.Proofs.YtdapjfnpnmejnaaW.PrintWords Go.Proofs.Ytdapjfnpnmejnaa.GB
set_option linter.unusedVariables false
set_option linter.unusedSimpArgs false
set_option maxRecDepth 100000

theorem lensL_fuel : ∀ (k1 k2 : Nat) (s : List UInt8) (last : Rec), s.length < k1 → s.length < k2 → lensL k1 last s = lensL k2 last s
  | 0, _, _, _, h, _ => absurd h (Nat.not_lt_zero _)
  | _ + 1, 0, _, _, _, h => absurd h (Nat.not_lt_zero _)
  | k1 + 1, k2 + 1, s, last, h1, h2 => by
    rw [lensL, lensL]
    cases h : recT s with
    | error e => rfl
    | ok p =>
      obtain ⟨r, z⟩ := p
      obtain ⟨_, _, hz1, hz2⟩ := reads_of h
      simp only
      rw [lensL_fuel k1 k2 (s.drop z) ⟨r.kind, r.n, r.r, []⟩ (by simp; omega) (by simp; omega)]
/-- The records that are still to come. -/
def allL (last : Rec) (en : Bool) (rest : List UInt8) : Except Int (List Rec) := if en then (if rest = [] then .ok [] else .error 20) else lensL (rest.length + 1) last rest
def consE (d : List Rec) (r : Except Int (List Rec)) : Except Int (List Rec) := match r with | .ok l => .ok (d ++ l) | .error e => .error e
theorem consE_nil (r : Except Int (List Rec)) : consE [] r = r := by cases r <;> rfl
theorem consE_snoc (d : List Rec) (x : Rec) (r : Except Int (List Rec)) : consE (d ++ [x]) r = consE d (consE [x] r) := by cases r <;> simp [consE]

/-- What a closed lens takes, and what is still to come. -/
theorem take_cases (rest : List UInt8) (last : Rec) (en : Bool) :
    (∃ e, takeTup rest last en = zeroTup e ∧ e ≠ 0 ∧ allL last en rest = .error e) ∨ (takeTup rest last en = zeroTup 0 ∧ allL last en rest = .ok []) ∨
    (en = false ∧ ∃ (r : Rec) (z : Nat), takeTup rest last en = (r.kind, r.n, r.r, r.ids, (z : Int), 0) ∧ 1 ≤ z ∧ z ≤ rest.length ∧ r.ids.length ≤ 65535 ∧ allL last en rest = consE [r] (allL ⟨r.kind, r.n, r.r, []⟩ (r.kind == 6) (rest.drop z))) := by
  unfold takeTup allL
  cases en with
  | true =>
    simp only [if_true]
    by_cases h : rest = []
    · rw [if_pos h, if_pos h]; exact .inr (.inl ⟨rfl, rfl⟩)
    · rw [if_neg h, if_neg h]; exact .inl ⟨20, rfl, by decide, rfl⟩
  | false =>
    simp only [Bool.false_eq_true, if_false]
    rw [lensL]
    cases h : recT rest with
    | error e => exact .inl ⟨e, rfl, recT_err h, rfl⟩
    | ok p =>
      obtain ⟨r, z⟩ := p
      obtain ⟨_, _, hz1, hz2⟩ := reads_of h
      simp only
      by_cases hf : fitsV last r = false
      · rw [if_pos hf, if_pos hf]; exact .inl ⟨9, rfl, by decide, rfl⟩
      · rw [if_neg hf, if_neg hf]
        refine .inr (.inr ⟨trivial, r, z, rfl, hz1, hz2, recT_len h, ?_⟩)
        by_cases h6 : r.kind = 6
        · rw [if_pos h6, show (r.kind == 6) = true by simpa using h6, if_pos rfl]
          by_cases hd : rest.drop z = []
          · rw [if_neg (by simpa using hd), if_pos hd]; rfl
          · rw [if_pos hd, if_neg hd]; rfl
        · rw [if_neg h6, show (r.kind == 6) = false by simpa using h6, if_neg (by simp)]
          rw [lensL_fuel rest.length ((rest.drop z).length + 1) (rest.drop z) _ (by simp; omega) (by simp)]
          cases lensL ((rest.drop z).length + 1) ⟨r.kind, r.n, r.r, []⟩ (rest.drop z) <;> rfl

def toS (r : Rec) : S33 := ⟨r.kind, r.n, r.r, r.ids⟩
/-- What comes of reading all records. -/
def LAllPost (res : Except Int (List Rec)) (w : World) (e : Ending) (w' : World) : Prop :=
  ∃ (v : Value) (l : List Rec) (er : Int), e = .returned (.tuple #[v, .int .i64 er]) ∧ ((er = 0 ∧ res = .ok l) ∨ (er ≠ 0 ∧ l = [] ∧ res = .error er)) ∧ Kd.R k33 33 w' w.heap.size (fun _ => True) v (l.map toS) ∧ Below w.heap.size w w'
theorem recinfo : (Try.prog.info? 33).map (fun i => (i.zero, i.size, i.bytes)) = some (some (.agg #[.int .i64 0, .int .i64 0, .int .i64 0, .slice none 0 0]), 4, 48) := by kernel_rfl
theorem lens_read {w : World} {g : Nat} {rest : ByteArray} {lk ln lr : Int} {en : Bool} {er : Int} (h : LensB w g rest lk ln lr true en er) : w.cell? ⟨g, 0, none⟩ = some (.string rest) := h.cell 0

set_option maxHeartbeats 600000 in
theorem lall_ (s : ByteArray) (w : World) (hs : s.size ≤ 1000000) : Calls Try.prog 61 #[.string s] w fun e w' => LAllPost (allL rec0 false s.data.toList) w e w' := by
  have hb0 := Blk.new w 130 #[.string s, .int .i64 0, .int .i64 0, .int .i64 0, .slice none 0 0, .bool true, .bool false, .int .i64 0]
  have HB0 := Lib.hid hb0
  have HP0 := Lib.hid ((Keeps.refl (fun _ => False) w).alloc (.cells #[.string s, .int .i64 0, .int .i64 0, .int .i64 0, .slice none 0 0, .bool true, .bool false, .int .i64 0] 130)).pure
  clear hb0
  obtain ⟨R0, hR0⟩ : ∃ R, R = allL rec0 false s.data.toList := ⟨_, rfl⟩
  rw [← hR0]
  have HR0 := Lib.hid hR0
  clear hR0
  go_enter Try.func61, Try.ntmps61
  go_wp2
  go_loopw [6] (fun v6 wr => ∃ (done : List Rec) (rest : ByteArray) (lk ln lr : Int) (en : Bool), rest.size ≤ 1000000 ∧ Hid (done.length + rest.size ≤ 1000000) ∧ Hid (LensB wr w.heap.size rest lk ln lr true en 0) ∧ Hid (Kd.R k33 33 wr w.heap.size (fun _ => True) v6 (done.map toS)) ∧ Hid (R0 = consE done (allL ⟨lk, ln, lr, []⟩ en rest.data.toList)) ∧ Hid (Below w.heap.size w wr) ∧ Hid (w.heap.size < wr.heap.size)) (fun _ wr => match wr.cell? ⟨w.heap.size, 0, none⟩ with | some (.string x) => x.size | _ => 0)
  case atStart => exact ⟨[], s, 0, 0, 0, false, hs, Lib.hid (by simpa using hs), HB0, Lib.hid (Kd.R_nil _ _ _ _ _), Lib.hid (by rw [consE_nil]; exact HR0.out), Lib.hid HP0.out, Lib.hid HB0.out.lt⟩
  case round =>
    obtain ⟨done, rest, lk, ln, lr, en, hrs, HLEN, HB, HR, HREL, HBEL, HLT⟩ := hrel
    obtain ⟨Ao, co, hvo⟩ := Kd.R_slice HR.out
    rw [List.length_map] at hvo
    subst hvo
    have HGB := Lib.hid (fun (w2 : World) (hk : Keeps (fun x => x = w.heap.size) wr w2) => (show Below w.heap.size w w2 from HBEL.out.trans (hk.below (fun b hb => ⟨Nat.lt_trans hb HLT.out, Nat.ne_of_lt hb⟩))))
    have HRK := Lib.hid (fun (w2 : World) (hk : Keeps (fun x => x = w.heap.size) wr w2) => R_keepsT HR.out hk (fun b hb => by have h : b = w.heap.size := hb; rw [h]; exact ⟨_, _, HB.out, by decide⟩))
    rcases take_cases rest.data.toList ⟨lk, ln, lr, []⟩ en with ⟨e, ht, he, ha⟩ | ⟨ht, ha⟩ | ⟨hen, r, z, ht, hz1, hz2, hil, ha⟩
    · have te : (e != 0) = true := by simpa using he
      have HT := Lib.hid (next_no _ rest lk ln lr e en 0 wr HB.out hrs (show _ = (0, 0, 0, [], 0, e) from ht) rfl)
      have HF : Hid (R0 = .error e) := Lib.hid (by have h := HREL.out; rw [ha] at h; exact h)
      have HE := Lib.hid he
      clear ht he ha
      go_wp2_with fail
      refine HT.out.mono ?_
      rintro ee w2 ⟨v, rfl, hr, hk, hb2⟩
      obtain ⟨A0, q0, rfl⟩ := Kd.R_slice hr
      have HK2 := Lib.hid hk
      clear hr hk hb2
      simp only
      go_wp2
      go_ret2
      refine ⟨_, [], e, rfl, .inr ⟨HE.out, rfl, HF.out⟩, Kd.R_nil _ _ _ _ _, ?_⟩
      exact HGB.out _ (HK2.out.alloc _)
    · have HT := Lib.hid (next_no _ rest lk ln lr 0 en 0 wr HB.out hrs (show _ = (0, 0, 0, [], 0, 0) from ht) rfl)
      have HF : Hid (R0 = .ok done) := Lib.hid (by have h := HREL.out; rw [ha] at h; simpa [consE] using h)
      clear ht ha
      go_wp2_with fail
      refine HT.out.mono ?_
      rintro ee w2 ⟨v, rfl, hr, hk, hb2⟩
      obtain ⟨A0, q0, rfl⟩ := Kd.R_slice hr
      have HK2 := Lib.hid hk
      clear hr hk hb2
      simp only
      go_wp2
      go_ret2
      refine ⟨_, done, 0, rfl, .inl ⟨rfl, HF.out⟩, ?_, ?_⟩
      · exact HRK.out _ (HK2.out.alloc _)
      · exact HGB.out _ (HK2.out.alloc _)
    · subst hen
      have HT := Lib.hid (next_rec _ rest lk ln lr r.kind r.n r.r r.ids z wr HB.out hrs ht hz1 (by rw [size_list]; exact hz2))
      have HF : Hid (R0 = consE (done ++ [r]) (allL ⟨r.kind, r.n, r.r, []⟩ (r.kind == 6) (rest.data.toList.drop z))) := Lib.hid (by have h := HREL.out; rw [ha] at h; rw [consE_snoc]; exact h)
      clear ht ha
      go_wp2_with fail
      refine HT.out.mono ?_
      rintro ee w2 ⟨v, rfl, hr, hk, hb2⟩
      obtain ⟨A0, q0, rfl⟩ := Kd.R_slice hr
      have HK2 := Lib.hid hk
      have HR2 := Lib.hid hr
      have HB2 := Lib.hid hb2
      clear hr hk hb2
      simp only
      obtain ⟨inner, hown⟩ := Kd.R_own HR.out
      have HG3 := Lib.hid (Kd.R_lower (Kd.R_new HR2.out hown) (show w.heap.size ≤ wr.heap.size from Nat.le_of_lt HLT.out))
      have HO2 := Lib.hid (HRK.out _ HK2.out)
      have HBL2 := Lib.hid (HGB.out _ HK2.out)
      have HLB := Lib.hid (HB2.out.alloc (.cells #[.int .i64 r.kind, .int .i64 r.n, .int .i64 r.r, .slice A0 r.ids.length q0] 33))
      have HPA := Lib.hid ((Keeps.refl (fun _ => False) w2).alloc (.cells #[.int .i64 r.kind, .int .i64 r.n, .int .i64 r.r, .slice A0 r.ids.length q0] 33)).pure
      clear hown
      go_wp2_with (at_builtin; refine Kd.R_append k33 (w0 := w) (W := w2.alloc (.cells #[.int .i64 r.kind, .int .i64 r.n, .int .i64 r.r, .slice A0 r.ids.length q0] 33)) w.heap.size rfl (.tmp 29) (.tmp 31) 28 33 (.agg #[.int .i64 0, .int .i64 0, .int .i64 0, .slice none 0 0]) 48 rfl Try.underlying28 recinfo rfl (by decide) (by decide) (.slice Ao done.length co) (done.map toS) (toS r) [.int .i64 r.kind, .int .i64 r.n, .int .i64 r.r, .slice A0 r.ids.length q0] (fun _ => True) (fun k => True ∧ some k ≠ (Value.slice Ao (done.map toS).length co).ownBlock) rfl ?hx ?hp ?hokp ?hfresh ?HO ?HB ?hbase ?hl ?hk)
      case hp => exact k33_mkM _ _ _ (toS r) (Kd.R_mono (Kd.R_below HG3.out HPA.out) (fun k h => by simpa using h.2))
      case HO => exact (by have h := Kd.R_below HO2.out HPA.out; simpa using h)
      case HB => exact HBL2.out.trans (Keeps.below (S := fun _ => False) (Keeps.of_below HPA.out) (fun b hb => ⟨by have := HLB.out.lt; have := HBL2.out.size; omega, fun h => h⟩))
      case hbase => exact Nat.le_trans HBL2.out.size (Nat.le_succ _)
      case hl => have := HLEN.out; simp; omega
      case hk =>
        intro v1 w3 hR3 hB3 hg3 hat3
        have hne : (Value.slice Ao done.length co).ownBlock ≠ some w.heap.size := fun h => (Kd.R_ne (by have h := HR.out; simpa using h) HB.out (by decide)) (by simpa using h.symm)
        have HLB3 := Lib.hid (Blk.grown HLB.out hg3 hne)
        have HR3 := Lib.hid hR3
        have HBL3 := Lib.hid hB3
        clear hR3 hB3 hg3 hat3 hne
        go_wp2
        go_roundw
        case rel =>
          refine ⟨done ++ [r], rest.extract z rest.size, r.kind, r.n, r.r, (r.kind == 6), ?_, Lib.hid ?_, HLB3, Lib.hid ?_, Lib.hid ?_, HBL3, Lib.hid HLB3.out.lt⟩
          · rw [cut_size]; omega
          · rw [cut_size, List.length_append]; have := HLEN.out; have := size_list rest; simp; omega
          · rw [List.map_append]; exact HR3.out
          · rw [cut_list]; exact HF.out
        case measure =>
          have e1 := lens_read HLB3.out
          have e2 := lens_read HB.out
          rw [e1, e2]
          simp only
          rw [cut_size]
          have := size_list rest
          omega
end Go.Proofs.Ytdapjfnpnmejnaa
