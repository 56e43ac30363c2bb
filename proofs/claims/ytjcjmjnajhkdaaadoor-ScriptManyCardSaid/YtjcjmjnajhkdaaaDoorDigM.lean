/- The numbers of a row, by the program and by the reference; no condition but the sizes, and that the variable of the search's bound holds an int. -/
import Derived.Test.YtjcjmjnajhkdaaaDoorDigK
namespace Go.Proofs.YtjcjmjnajhkdaaaDoor
open Go.RowKit
set_option linter.unusedVariables false
set_option linter.unusedSimpArgs false
set_option maxRecDepth 100000

set_option maxHeartbeats 1000000 in
theorem rsame_ (A1 A2 : Option Addr) (n c1 c2 B1 B2 : Nat) (zs : List Int) (w : World) (h1 : Sees w B1 1 A1 n (zs.map (Value.int .i64))) (h2 : Sees w B2 1 A2 n (zs.map (Value.int .i64))) (hn : n ≤ 1000000000) :
    Calls Tryd.prog 24 #[.slice A1 n c1, .slice A2 n c2] w fun e w' => e = .returned (.bool true) ∧ ∃ k, w' = w.drewN k := by
  have HS1 := Lib.hid h1
  have HS2 := Lib.hid h2
  clear h1 h2
  go_enter Tryd.func24, Tryd.ntmps24
  go_wp2
  go_loopw [5] (fun v5 wr => ∃ k : Nat, k ≤ n ∧ v5 = .int .i64 k ∧ ∃ q, wr = w.drewN q) (fun v5 _ => n - (intOf v5).toNat)
  case atStart => exact ⟨0, Nat.zero_le _, rfl, 0, rfl⟩
  case round =>
    obtain ⟨k, hk, rfl, q, rfl⟩ := hrel
    by_cases hlt : k < n
    · obtain ⟨ad1, z, rfl, hz1, hc1⟩ := ints_at HS1.out hlt
      obtain ⟨ad2, z2, rfl, hz2, hc2⟩ := ints_at HS2.out hlt
      obtain rfl : z = z2 := by rw [hz1] at hz2; injection hz2
      clear hz1 hz2
      go_wp2
      go_quiet (fail)
      go_wp2
      go_roundw
      case rel => exact ⟨k + 1, by omega, by go_num, _, rfl⟩
      case measure => simp [intOf]; omega
    · obtain rfl : k = n := by omega
      go_wp2
      go_ret
      exact ⟨rfl, _, rfl⟩

theorem strs_here {w : World} {B n k : Nat} {A : Option Addr} {l : List ByteArray} (h : Sees w B 1 A n (l.map Value.string)) (hk : k < n) : ∃ (ad : Addr) (hl : k < l.length), A = some ad ∧ w.cell? (ad.add k) = some (.string l[k]) := by
  obtain ⟨ad, u, hA, hu, hc⟩ := h.at_ hk
  have hl : k < l.length := by have := h.1; simp at this; omega
  refine ⟨ad, hl, hA, ?_⟩
  rw [List.getElem?_map, List.getElem?_eq_getElem hl] at hu
  simp only [Option.map_some, Option.some.injEq] at hu
  rw [hc, hu]
theorem part_at {w : World} {B n k b : Nat} {P : List (List UInt8)} (h : Sees w B 1 (some ⟨b, 0, none⟩) n ((P.map (fun x => (⟨x.toArray⟩ : ByteArray))).map Value.string)) (hk : k < n) :
    ∃ p, P[k]? = some p ∧ P.drop k = p :: P.drop (k + 1) ∧ w.cell? ⟨b, k, none⟩ = some (.string ⟨p.toArray⟩) := by
  obtain ⟨ad, hl, hA, hc⟩ := strs_here h hk
  have hl' : k < P.length := by simpa using hl
  refine ⟨P[k], List.getElem?_eq_getElem hl', List.drop_eq_getElem_cons hl', ?_⟩
  injection hA with hA
  subst hA
  rw [show (⟨b, 0, none⟩ : Addr).add k = ⟨b, k, none⟩ from by unfold Addr.add; split <;> simp_all] at hc
  rw [hc]
  simp
theorem parse_ok {p : List UInt8} {least most : Int} (h : (parseV p least most).2 = 0) : parseR p least most = .tuple #[.int .i64 (parseV p least most).1, .int .i64 0] := by unfold parseR; rw [h]
theorem parse_no {p : List UInt8} {least most : Int} (h : (parseV p least most).2 ≠ 0) : ∃ e : Int, (parseV p least most).2 = e ∧ parseR p least most = .tuple #[.int .i64 0, .int .i64 e] ∧ (e == 0) = false := by
  refine ⟨_, rfl, ?_, by simpa using h⟩
  unfold parseR
  rcases parse_cases p least most with ⟨h0, _⟩ | ⟨_, h1, _⟩ | ⟨_, h1, _⟩
  · exact absurd h0 h
  · rw [h1]
  · rw [h1]
theorem i64info : (Tryd.prog.info? 3).map (fun i => (i.zero, i.size, i.bytes)) = some (some (.int .i64 0), 1, 8) := by kernel_rfl
theorem intV_one (z : Int) : ∀ u ∈ [Value.int .i64 z], u.oneCell' = true := by intro u hu; simp at hu; subst hu; rfl

/-- What both give: the numbers, in a row of its own, and why there are none. -/
def RowPost (s : List UInt8) (least most : Int) (w : World) (e : Ending) (w' : World) : Prop :=
  ∃ A c, e = .returned (.tuple #[.slice A (rowV s least most).1.length c, .int .i64 (rowV s least most).2]) ∧ Sees w' w'.heap.size 1 A (rowV s least most).1.length ((rowV s least most).1.map (Value.int .i64)) ∧ Pure' w w'

/-- A row of numbers of its own. -/
structure Nums (w0 wr : World) (v : Value) (acc : List Int) : Prop where
  row : Row wr 3 1 v acc.length (acc.map (Value.int .i64))
  own : ∀ b, v.ownBlock = some b → w0.heap.size ≤ b
  pure : Pure' w0 wr
theorem Nums.then_ {w0 wr w1 : World} {v : Value} {acc : List Int} (h : Nums w0 wr v acc) (hk : Pure' wr w1) : Nums w0 w1 v acc :=
  ⟨h.row.keep hk fun _ _ hf => hf, h.own, h.pure.then_ hk⟩
theorem rowP_go {least most : Int} {p : List UInt8} {ps : List (List UInt8)} {acc : List Int} (h : (parseV p least most).2 = 0) : rowP least most (p :: ps) acc = rowP least most ps (acc ++ [(parseV p least most).1]) := by rw [rowP, if_pos h]
theorem rowP_stop {least most : Int} {p : List UInt8} {ps : List (List UInt8)} {acc : List Int} (h : (parseV p least most).2 ≠ 0) : rowP least most (p :: ps) acc = ([], (parseV p least most).2) := by rw [rowP, if_neg h]
theorem rowV_all {s : List UInt8} {least most : Int} (h : s ≠ [45]) : rowV s least most = rowP least most (splitL s) [] := by rw [rowV, if_neg h]

theorem nums_nil {w w' : World} (h : Pure' w w') : Nums w w' (.slice none 0 0) [] := ⟨Row.nil _ _ _, fun b hb => by simp [Value.ownBlock] at hb, h⟩
/-- What both give, and whose the row is. -/
def RowPost2 (s : List UInt8) (least most : Int) (w : World) (e : Ending) (w' : World) : Prop :=
  ∃ A c, e = .returned (.tuple #[.slice A (rowV s least most).1.length c, .int .i64 (rowV s least most).2]) ∧ Nums w w' (.slice A (rowV s least most).1.length c) (rowV s least most).1
theorem RowPost2.less {s : List UInt8} {least most : Int} {w w' : World} {e : Ending} (h : RowPost2 s least most w e w') : RowPost s least most w e w' := by
  obtain ⟨A, c, h1, h2⟩ := h
  exact ⟨A, c, h1, h2.row.sees, h2.pure⟩

set_option maxHeartbeats 2000000 in
theorem parserow2_ (s : List UInt8) (least most : Int) (w : World) (m : Int) (hmx : w.cell? ⟨2, 0, none⟩ = some (.int .i64 m)) (hs : s.length ≤ 100000) (hl : -9223372036854775808 ≤ least ∧ least ≤ 9223372036854775807) (hm : -9223372036854775808 ≤ most ∧ most ≤ 9223372036854775807) :
    Calls Tryd.prog 45 #[.string ⟨s.toArray⟩, .int .i64 least, .int .i64 most] w fun e w' => RowPost2 s least most w e w' := by
  obtain ⟨i0, hi, hz0, hz1, hz2⟩ := info_parts i64info
  by_cases h45 : s = [45]
  · subst h45
    go_enter Tryd.func45, Tryd.ntmps45
    go_wp2
    go_ret2
    exact ⟨none, 0, rfl, nums_nil (Keeps.refl _ _)⟩
  have hsp := Tryd.strings_Split ⟨s.toArray⟩ ⟨#[44]⟩ m w (by show s.toArray.size < _; simp; omega) hmx (by decide)
  rw [splitB_split, split_count] at hsp
  have hpl := (sF_len s []).1
  have HPL := Lib.hid (fun x hx => (sF_len s []).2 x hx)
  have HRV := Lib.hid (rowV_all (least := least) (most := most) h45)
  have q1 : (s == [45]) = false := by simpa using h45
  clear h45 hmx
  rw [show sF s [] = splitL s from rfl] at hpl HPL
  generalize hP : splitL s = P at *
  clear hP
  obtain ⟨PV, hPV⟩ : ∃ PV, (P.map (fun x => (⟨x.toArray⟩ : ByteArray))).map Value.string = PV := ⟨_, rfl⟩
  rw [hPV] at hsp
  have hPVl : PV.length = P.length := by rw [← hPV]; simp
  have HPV := Lib.hid hPV
  have HSP := Lib.hid hsp
  have HPA := Lib.hid (fun p w (h : p.length ≤ 100000) => parse_ p least most w (by omega) hl hm)
  clear hsp hl hm hPV
  generalize hn : P.length = n at *
  have HN := Lib.hid hn
  have HPVL := Lib.hid hPVl
  clear hn hPVl
  go_enter Tryd.func45, Tryd.ntmps45
  go_wp2_with (go_at_call 69; refine HSP.out.mono ?_; rintro e w1 ⟨rfl, rfl⟩)
  have HSE := Lib.hid (sees_new w 9 PV n HPVL.out)
  have HP0 := Lib.hid ((Keeps.refl (fun _ => False) w).alloc (.cells PV.toArray 9))
  generalize hb0 : w.heap.size = b0 at *
  generalize w.alloc (.cells PV.toArray 9) = w1 at *
  go_loopw [8, 18] (fun v8 v18 wr => ∃ (k : Nat) (acc : List Int), k ≤ n ∧ v18 = .int .i64 k ∧ acc.length ≤ k ∧ rowP least most (P.drop k) acc = rowP least most P [] ∧ Nums w1 wr v8 acc) (fun _ v18 _ => n - (intOf v18).toNat)
  case atStart => exact ⟨0, [], Nat.zero_le _, rfl, Nat.le_refl _, rfl, ⟨Row.nil _ _ _, fun b hb => by simp [Value.ownBlock] at hb, Keeps.refl _ _⟩⟩
  case round =>
    obtain ⟨k, acc, hk, rfl, hak, hrp, hnum⟩ := hrel
    obtain ⟨a, cp, rfl, hcp⟩ := hnum.row.form
    have HNU := Lib.hid hnum
    have hse := HSE.out.pure hnum.pure (Nat.le_refl _)
    clear hnum
    by_cases hlt : k < n
    · obtain ⟨p, hpk, hdr, hcell⟩ := part_at (P := P) (by rw [HPV.out]; exact hse) hlt
      rw [hdr] at hrp
      have hplen : p.length ≤ 100000 := by have := HPL.out p (List.mem_of_getElem? hpk); simp at this; omega
      by_cases h0 : (parseV p least most).2 = 0
      · have hp := fun w => HPA.out p w hplen
        rw [parse_ok h0] at hp
        rw [rowP_go h0] at hrp
        obtain ⟨z, hz⟩ : ∃ z, (parseV p least most).1 = z := ⟨_, rfl⟩
        rw [hz] at hp hrp
        have HP1 := Lib.hid hp
        have HRP := Lib.hid hrp
        clear hp hrp hpk hdr hse h0 hz
        go_wp2_with (first
          | (go_at_call 67; refine (HP1.out _).mono ?_; rintro e w2 ⟨rfl, hk2⟩; have HNU2 := Lib.hid (HNU.out.then_ hk2); clear hk2)
          | (at_builtin; refine wpl_append _ rfl (.tmp 32) (.tmp 34) 27 rfl 3 i0 (.int .i64 0) 1 8 Tryd.underlying27 hi hz0 hz1 hz2 rfl (by decide) (.slice a acc.length cp) acc.length (acc.map (Value.int .i64)) rfl ?own ⟨w2.heap.size, 0, none⟩ 1 1 [.int .i64 z] rfl rfl ?news ?one (by decide) ?b1 ?b2 ?k))
        case own => exact Row.alloc HNU2.out.row _
        case news => exact news1
        case one => exact intV_one _
        case b1 => unfold maxLen; omega
        case b2 => omega
        case k =>
          intro b1 cap1 w3 ho1 hg1 hb1 hl1
          have HK := Lib.hid ((HNU2.out.pure.alloc _).grown hg1 (fun k hk => .inr (HNU2.out.own k hk)))
          have HD : Hid (w1.heap.size ≤ b1) := by
            rcases hb1 with h | h
            · exact Lib.hid (HNU2.out.own _ h)
            · exact Lib.hid (by rw [h]; have := HNU2.out.pure.size; simp [World.alloc]; omega)
          have HN3 : Hid (Nums w1 w3 (.slice (some ⟨b1, 0, none⟩) (acc ++ [z]).length cap1) (acc ++ [z])) := Lib.hid ⟨by simpa using ho1, fun b hb => by simp [Value.ownBlock] at hb; rw [← hb]; exact HD.out, HK.out⟩
          clear ho1 hg1 hb1
          go_wp2
          go_roundw
          case rel => exact ⟨k + 1, acc ++ [z], by omega, by go_num, by simp; omega, HRP.out, by have := HN3.out; simpa using this⟩
          case measure => simp [intOf]; omega
      · obtain ⟨er, he, hpr, her⟩ := parse_no h0
        have hp := fun w => HPA.out p w hplen
        rw [hpr] at hp
        rw [rowP_stop h0, he] at hrp
        have HP1 := Lib.hid hp
        have HRP := Lib.hid (HRV.out.trans hrp.symm)
        have her' : (er != 0) = true := by simpa using her
        clear hp hrp hpk hdr hse h0 he hpr
        go_wp2_with (go_at_call 67; refine (HP1.out _).mono ?_; rintro e w2 ⟨rfl, hk2⟩; have HNU2 := Lib.hid (HNU.out.then_ hk2); clear hk2)
        go_ret2
        unfold RowPost2
        rw [HRP.out]
        exact ⟨none, 0, rfl, nums_nil (HP0.out.then_ HNU2.out.pure)⟩
    · obtain rfl : k = n := by omega
      rw [List.drop_eq_nil_of_le (by rw [HN.out]; exact Nat.le_refl _), rowP] at hrp
      have HRP := Lib.hid (HRV.out.trans hrp.symm)
      clear hrp hse
      go_wp2
      go_ret2
      unfold RowPost2
      rw [HRP.out]
      exact ⟨_, _, rfl, HNU.out.row, fun b hb => Nat.le_trans HP0.out.size (HNU.out.own b hb), HP0.out.then_ HNU.out.pure⟩
theorem parserow_ (s : List UInt8) (least most : Int) (w : World) (m : Int) (hmx : w.cell? ⟨2, 0, none⟩ = some (.int .i64 m)) (hs : s.length ≤ 100000) (hl : -9223372036854775808 ≤ least ∧ least ≤ 9223372036854775807) (hm : -9223372036854775808 ≤ most ∧ most ≤ 9223372036854775807) :
    Calls Tryd.prog 45 #[.string ⟨s.toArray⟩, .int .i64 least, .int .i64 most] w fun e w' => RowPost s least most w e w' := (parserow2_ s least most w m hmx hs hl hm).mono fun _ _ h => h.less

end Go.Proofs.YtjcjmjnajhkdaaaDoor
