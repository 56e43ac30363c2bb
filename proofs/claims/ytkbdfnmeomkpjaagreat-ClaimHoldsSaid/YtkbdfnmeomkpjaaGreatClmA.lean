/- A sight: what it says of one byte, of two, and that a pattern is not there; no condition but the sizes. -/
import Derived.Test.YtkbdfnmeomkpjaaGreatGrdV
import Derived.Test.YtkbdfnmeomkpjaaGreatPn
namespace Go.Proofs.YtkbdfnmeomkpjaaGreat
open Go.RowKit
set_option linter.unusedVariables false
set_option linter.unusedSimpArgs false
set_option maxRecDepth 100000

/-- A sight of a set, behind a stream s. -/
structure SgI (w : World) (g p gr : Nat) (x : Option Addr) (lp : List ByteArray) (s : List UInt8) (size : Nat) : Prop where
  gd : ∃ n0, GdI w n0 g x (bl lp) (minL lp)
  st : SetP w x lp
  pn : ∃ w0 : World, Pn.PMine w0 w p gr s [] false size
theorem SgI.pure {w w' : World} {g p gr size : Nat} {x : Option Addr} {lp : List ByteArray} {s : List UInt8} (h : SgI w g p gr x lp s size) (hk : Pure' w w') : SgI w' g p gr x lp s size := by
  obtain ⟨⟨n0, h1⟩, h2, w0, h3⟩ := h
  exact ⟨⟨n0, h1.pure hk⟩, h2.pure hk, w0, h3.pure hk⟩
/-- What bounds a sight's set and stream. -/
structure SgB (lp : List ByteArray) (s : List UInt8) (size : Nat) : Prop where
  few : lp.length ≤ 12
  len : ∀ y ∈ bl lp, y.length ≤ 20
  ne : ∀ y ∈ bl lp, y ≠ []
  slen : s.length ≤ 1000
  size2 : 2 ≤ size
  most : ∀ y ∈ bl lp, y.length < size
theorem SgB.m20 {lp : List ByteArray} {s : List UInt8} {size : Nat} (h : SgB lp s size) : minL lp ≤ 20 := by
  by_cases e : lp = []
  · subst e; exact Nat.zero_le _
  · obtain ⟨t, ht, e2⟩ := minL_mem e
    have := h.len t.data.toList (List.mem_map.2 ⟨t, ht, rfl⟩)
    have h3 : t.data.toList.length = t.size := Array.length_toList
    omega
theorem SgB.mle {lp : List ByteArray} {s : List UInt8} {size : Nat} (h : SgB lp s size) : ∀ y ∈ bl lp, minL lp ≤ y.length := fun y hy => by
  obtain ⟨t, ht, rfl⟩ := List.mem_map.1 hy
  have := minL_le t ht
  have h3 : t.data.toList.length = t.size := Array.length_toList
  omega
theorem SgB.bll {lp : List ByteArray} {s : List UInt8} {size : Nat} (h : SgB lp s size) : (bl lp).length ≤ 12 := by have := h.few; simp [bl]; omega
theorem rev_eq {s : List UInt8} {d : Nat} (hd : d < s.length) : s.reverse[d]? = s[s.length - 1 - d]? := List.getElem?_reverse hd
/-- The byte so far ahead of the last one. -/
def LastP (s : List UInt8) (d : Nat) (p : Nat) (w : World) : Prop :=
  ∃ (c : UInt8) (ok : Bool), (s.reverse[d]? = if ok then some c else none) ∧ Calls Tryz.prog 60 #[.pointer (some ⟨p, 0, none⟩), .int .i64 (d : Int)] w (fun e w' => e = .returned (.tuple #[.int .u8 (c.toNat : Int), .bool ok]) ∧ w = w')
theorem SgI.last {w : World} {g p gr size : Nat} {x : Option Addr} {lp : List ByteArray} {s : List UInt8} (h : SgI w g p gr x lp s size) (d : Nat) (hd : d < size) : LastP s d p w := by
  obtain ⟨_, _, w0, h3⟩ := h
  obtain ⟨c, ok, hc, h1, h2⟩ := h3.at_ (d : Int)
  refine ⟨c, ok, ?_, hc⟩
  cases ok with
  | true =>
    obtain ⟨_, a, b⟩ := h1 rfl
    rw [rev_eq (by omega)]
    simpa using b
  | false =>
    have := h2 rfl
    rw [List.getElem?_eq_none (by simp; omega)]
    rfl
def sgV (g p : Nat) : Value := .agg #[.pointer (some ⟨g, 0, none⟩), .pointer (some ⟨p, 0, none⟩)]
/-- One byte clears so many ends. -/
def skB (lp : List ByteArray) (s : List UInt8) (n : Int) : Bool := match s.reverse[0]? with
  | some c => skipB (bl lp) (minL lp) c n
  | none => false
def leB (lp : List ByteArray) (s : List UInt8) (n : Int) : Bool := match s.reverse[0]?, s.reverse[1]? with
  | some b, some a => leapB (bl lp) (minL lp) a b n
  | _, _ => false
set_option maxHeartbeats 2000000 in
theorem cskip_ (g p gr size : Nat) (x : Option Addr) (lp : List ByteArray) (s : List UInt8) (n : Int) (w : World) (h : SgI w g p gr x lp s size) (hb : SgB lp s size) :
    Calls Tryz.prog 43 #[sgV g p, .int .i64 n] w fun e w' => e = .returned (.bool (skB lp s n)) ∧ Pure' w w' := by
  have H := Lib.hid (fun (W : World) (hW : Pure' w W) => h.pure hW)
  have HL := Lib.hid (fun (W : World) (hW : Pure' w W) => (h.pure hW).last 0 (by have := hb.size2; omega))
  have HS := Lib.hid (fun (c : UInt8) (W : World) (hW : Pure' w W) => by
    obtain ⟨⟨n0, h1⟩, _, _⟩ := h.pure hW
    exact skips_ n0 g (minL lp) x (bl lp) c n W h1 (by have := hb.m20; omega))
  have HK := Lib.hid (show Pure' w (w.alloc (.cells #[.pointer (some ⟨g, 0, none⟩), .pointer (some ⟨p, 0, none⟩)] 34)) from (Keeps.refl _ w).alloc _)
  clear h hb
  unfold sgV
  go_enter Tryz.func43, Tryz.ntmps43
  go_wp2_with fail
  obtain ⟨c, ok, hco, hcall⟩ := HL.out _ HK.out
  have HCO := Lib.hid hco
  clear hco
  refine hcall.mono ?_
  rintro e w1 ⟨rfl, rfl⟩
  clear hcall
  cases ok with
  | true =>
    go_wp2_with fail
    refine (HS.out c _ HK.out).mono ?_
    rintro e w2 ⟨rfl, hk⟩
    have HK2 := Lib.hid (HK.out.trans hk (fun _ _ hf => hf))
    have HF := Lib.hid (show skipB (bl lp) (minL lp) c n = skB lp s n by unfold skB; rw [HCO.out]; rfl)
    clear hk
    go_wp2_with fail
    go_ret
    exact ⟨congrArg (fun b => Ending.returned (Value.bool b)) HF.out, HK2.out⟩
  | false =>
    have HF := Lib.hid (show false = skB lp s n by unfold skB; rw [HCO.out]; rfl)
    go_wp2_with fail
    go_ret
    exact ⟨congrArg (fun b => Ending.returned (Value.bool b)) HF.out, HK.out⟩
set_option maxHeartbeats 2000000 in
theorem cleap_ (g p gr size : Nat) (x : Option Addr) (lp : List ByteArray) (s : List UInt8) (n : Int) (w : World) (h : SgI w g p gr x lp s size) (hb : SgB lp s size) :
    Calls Tryz.prog 44 #[sgV g p, .int .i64 n] w fun e w' => e = .returned (.bool (leB lp s n)) ∧ Pure' w w' := by
  have HL := Lib.hid (fun (d : Nat) (hd : d < 2) (W : World) (hW : Pure' w W) => (h.pure hW).last d (by have := hb.size2; omega))
  have HS := Lib.hid (fun (a c : UInt8) (W : World) (hW : Pure' w W) => by
    obtain ⟨⟨n0, h1⟩, _, _⟩ := h.pure hW
    exact leaps_ n0 g (minL lp) x (bl lp) a c n W h1 (by have := hb.m20; omega) (by have := hb.bll; omega) hb.mle)
  have HK := Lib.hid (show Pure' w (w.alloc (.cells #[.pointer (some ⟨g, 0, none⟩), .pointer (some ⟨p, 0, none⟩)] 34)) from (Keeps.refl _ w).alloc _)
  clear h hb
  unfold sgV
  go_enter Tryz.func44, Tryz.ntmps44
  go_wp2_with fail
  obtain ⟨b, ok, hco, hcall⟩ := HL.out 0 (by decide) _ HK.out
  obtain ⟨a, is, hao, hcall2⟩ := HL.out 1 (by decide) _ HK.out
  have HCO := Lib.hid hco
  have HAO := Lib.hid hao
  have HC2 := Lib.hid hcall2
  clear hco hao hcall2
  refine hcall.mono ?_
  rintro e w1 ⟨rfl, rfl⟩
  clear hcall
  go_wp2_with fail
  refine HC2.out.mono ?_
  rintro e w1 ⟨rfl, rfl⟩
  clear HC2
  cases ok with
  | true =>
    cases is with
    | true =>
      go_wp2_with fail
      refine (HS.out a b _ HK.out).mono ?_
      rintro e w2 ⟨rfl, hk⟩
      have HK2 := Lib.hid (HK.out.trans hk (fun _ _ hf => hf))
      have HF := Lib.hid (show leapB (bl lp) (minL lp) a b n = leB lp s n by unfold leB; rw [HCO.out, HAO.out]; rfl)
      clear hk
      go_wp2_with fail
      go_ret
      exact ⟨congrArg (fun b => Ending.returned (Value.bool b)) HF.out, HK2.out⟩
    | false =>
      have HF := Lib.hid (show false = leB lp s n by unfold leB; rw [HCO.out, HAO.out]; rfl)
      go_wp2_with fail
      go_ret
      exact ⟨congrArg (fun b => Ending.returned (Value.bool b)) HF.out, HK.out⟩
  | false =>
    have HF := Lib.hid (show false = leB lp s n by unfold leB; rw [HCO.out]; rfl)
    go_wp2_with fail
    go_ret
    exact ⟨congrArg (fun b => Ending.returned (Value.bool b)) HF.out, HK.out⟩
/-- A pattern is not there, by the byte at a distance. -/
def refB (l : List (List UInt8)) (s : List UInt8) (id d : Nat) : Bool := decide (s.length < (l.getD id []).length) || (decide (d < (l.getD id []).length) && decide ((l.getD id []).reverse[d]? ≠ s.reverse[d]?))
set_option maxHeartbeats 4000000 in
theorem refuted_ (g p gr size : Nat) (x : Option Addr) (lp : List ByteArray) (s : List UInt8) (id d : Nat) (w : World) (h : SgI w g p gr x lp s size) (hb : SgB lp s size) (hid : id < lp.length) :
    Calls Tryz.prog 78 #[sgV g p, .int .i64 (id : Int), .int .i64 (d : Int)] w fun e w' => e = .returned (.bool (refB (bl lp) s id d)) ∧ Pure' w w' := by
  have hk0 : Pure' w (w.alloc (.cells #[.pointer (some ⟨g, 0, none⟩), .pointer (some ⟨p, 0, none⟩)] 34)) := (Keeps.refl _ w).alloc _
  have hs := h.pure hk0
  obtain ⟨⟨n0, h1⟩, h2, w0, h3⟩ := hs
  have HSET := Lib.hid (set_ n0 g (minL lp) x (bl lp) _ h1)
  have HAT := Lib.hid (sat_ x lp id _ h2 hid)
  have HSEEN := Lib.hid h3.seen
  have HBLK := Lib.hid h3.blk
  have HL := Lib.hid (fun (hd : d < size) => (h.pure hk0).last d hd)
  have HB := Lib.hid hb
  have HK := Lib.hid hk0
  have hsl := hb.slen
  obtain ⟨sn, hsn⟩ : ∃ n, s.length = n := ⟨_, rfl⟩
  have HSN := Lib.hid hsn
  rw [hsn] at HSEEN hsl
  clear h hb h1 h2 h3 hk0 hsn
  unfold sgV
  go_enter Tryz.func78, Tryz.ntmps78
  go_wp2_with fail
  refine HSET.out.mono ?_
  rintro e w1 ⟨rfl, rfl⟩
  go_wp2_with fail
  refine HAT.out.mono ?_
  rintro e w1 ⟨⟨y, rfl, hy⟩, rfl⟩
  have hyl := HB.out.len y (List.mem_of_getElem? hy)
  have hym := HB.out.most y (List.mem_of_getElem? hy)
  have HG := Lib.hid (show (bl lp).getD id [] = y by rw [List.getD_eq_getElem?_getD, hy]; rfl)
  have hbs : (⟨y.toArray⟩ : ByteArray).size = y.length := Lib.size_eq _
  obtain ⟨yn, hyn⟩ : ∃ n, y.length = n := ⟨_, rfl⟩
  have HYN := Lib.hid hyn
  rw [hyn] at hbs hyl hym
  clear hy hyn
  have b0 := HBLK.out.cell 0
  go_wp2_with fail
  refine HSEEN.out.mono ?_
  rintro e w1 ⟨rfl, rfl⟩
  by_cases h1 : sn < yn
  · have HF := Lib.hid (show true = refB (bl lp) s id d by unfold refB; rw [HG.out, HSN.out, HYN.out, decide_eq_true h1]; rfl)
    have h1i : (sn : Int) < (yn : Int) := by omega
    go_wp2_with fail
    go_ret
    exact ⟨congrArg (fun b => Ending.returned (Value.bool b)) HF.out, HK.out⟩
  · have h1i : ¬ (sn : Int) < (yn : Int) := by omega
    by_cases h2 : yn ≤ d
    · have HF := Lib.hid (show false = refB (bl lp) s id d by unfold refB; rw [HG.out, HSN.out, HYN.out, decide_eq_false h1, decide_eq_false (show ¬ d < yn by omega)]; rfl)
      have h2i : (yn : Int) ≤ (d : Int) := by omega
      go_wp2_with fail
      go_ret
      exact ⟨congrArg (fun b => Ending.returned (Value.bool b)) HF.out, HK.out⟩
    · have h2i : ¬ (yn : Int) ≤ (d : Int) := by omega
      obtain ⟨c, ok, hco, hcall⟩ := HL.out (by omega)
      have hok : ok = true := by
        cases ok with
        | true => rfl
        | false =>
          have : s.reverse[d]? = none := hco
          rw [List.getElem?_eq_none_iff] at this
          simp at this
          have := HSN.out
          omega
      subst hok
      obtain ⟨j, hj⟩ : ∃ j, j + d + 1 = yn := ⟨yn - 1 - d, by omega⟩
      have hji : (yn : Int) - 1 - (d : Int) = (j : Int) := by omega
      have hjl : (j : Int) < (yn : Int) := by omega
      obtain ⟨e, _, hej, hga⟩ := at_c (show j < y.length by rw [HYN.out]; omega)
      have HE := Lib.hid (show y.reverse[d]? = some e by
        rw [List.getElem?_reverse (by rw [HYN.out]; omega), ← hej]
        congr 1
        rw [HYN.out]; omega)
      have HCO := Lib.hid (show s.reverse[d]? = some c from hco)
      have hel := e.toNat_lt
      have hcl := c.toNat_lt
      have HF := Lib.hid (show ((c.toNat : Int) != (e.toNat : Int)) = refB (bl lp) s id d by
        unfold refB
        rw [HG.out, HSN.out, HYN.out, decide_eq_false h1, decide_eq_true (show d < yn by omega), HE.out, HCO.out, Bool.false_or, Bool.true_and]
        by_cases hec : e = c
        · subst hec; rw [decide_eq_false (by simp)]; simp
        · rw [decide_eq_true (by simpa using hec)]
          rw [bne_iff_ne]
          intro h
          exact hec (UInt8.toNat_inj.1 (by omega)))
      clear hej hco
      go_wp2_with fail
      refine hcall.mono ?_
      rintro e2 w1 ⟨rfl, rfl⟩
      clear hcall
      go_wp2_with fail
      go_ret
      exact ⟨congrArg (fun b => Ending.returned (Value.bool b)) HF.out, HK.out⟩
end Go.Proofs.YtkbdfnmeomkpjaaGreat
