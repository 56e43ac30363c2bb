/- The classes of a set's bytes, made; no condition but the sizes. -/
import Derived.Test.YtkbdfnmeomkpjaaGreatLnkX
import Derived.Deep.MidRow
namespace Go.Proofs.YtkbdfnmeomkpjaaGreat
open Go.RowKit
set_option linter.unusedVariables false
set_option linter.unusedSimpArgs false
set_option maxRecDepth 100000

/-- The cells of the classes: a number for each byte, and the bytes' slice. -/
def clsC (f : UInt8 → Nat) (v : Value) : Array Value := (((List.range 256).map (fun i => Value.int .u16 (f (UInt8.ofNat i) : Int))) ++ [v]).toArray
theorem clsC_size (f : UInt8 → Nat) (v : Value) : (clsC f v).size = 257 := by simp [clsC]
theorem clsC_at (f : UInt8 → Nat) (v : Value) (c : UInt8) : (clsC f v)[c.toNat]? = some (.int .u16 (f c : Int)) := by
  have hc := c.toNat_lt
  unfold clsC
  rw [List.getElem?_toArray, List.getElem?_append_left (by simp; omega), List.getElem?_map, List.getElem?_range (by omega)]
  simp
theorem clsC_last (f : UInt8 → Nat) (v : Value) : (clsC f v)[256]? = some v := by
  unfold clsC
  rw [List.getElem?_toArray, List.getElem?_append_right (by simp)]
  simp
theorem clsC_ext {A B : Array Value} (hA : A.size = 257) (hB : B.size = 257) (h : ∀ c : UInt8, A[c.toNat]? = B[c.toNat]?) (hl : A[256]? = B[256]?) : A = B := by
  apply Array.ext
  · rw [hA, hB]
  · intro i h1 h2
    have : A[i]? = B[i]? := by
      rcases Nat.lt_or_ge i 256 with hi | hi
      · have := h (UInt8.ofNat i)
        rwa [show (UInt8.ofNat i).toNat = i by simp; omega] at this
      · obtain rfl : i = 256 := by omega
        exact hl
    rw [Array.getElem?_eq_getElem h1, Array.getElem?_eq_getElem h2] at this
    exact Option.some.inj this
def upd (f : UInt8 → Nat) (c : UInt8) (x : Nat) : UInt8 → Nat := fun d => if d = c then x else f d
theorem clsC_set (f : UInt8 → Nat) (v : Value) (c : UInt8) (x : Nat) : (clsC f v).setIfInBounds c.toNat (.int .u16 (x : Int)) = clsC (upd f c x) v := by
  have hc := c.toNat_lt
  refine clsC_ext (by simp [clsC_size]) (clsC_size _ _) (fun d => ?_) ?_
  · rw [clsC_at, Array.getElem?_setIfInBounds]
    by_cases e : d = c
    · subst e
      rw [if_pos rfl, if_pos (by rw [clsC_size]; omega)]
      simp [upd]
    · rw [if_neg (fun h => e (UInt8.toNat_inj.1 h.symm)), clsC_at]
      simp [upd, e]
  · rw [clsC_last, Array.getElem?_setIfInBounds, if_neg (by omega), clsC_last]
theorem clsC_setv (f : UInt8 → Nat) (v u : Value) : (clsC f v).setIfInBounds 256 u = clsC f u := by
  refine clsC_ext (by simp [clsC_size]) (clsC_size _ _) (fun d => ?_) ?_
  · have hd := d.toNat_lt
    rw [clsC_at, Array.getElem?_setIfInBounds, if_neg (by omega), clsC_at]
  · rw [clsC_last, Array.getElem?_setIfInBounds, if_pos rfl, if_pos (by rw [clsC_size]; omega)]

/-- The array's cells alone. -/
def arrC (f : UInt8 → Nat) : List Value := (List.range 256).map (fun i => Value.int .u16 (f (UInt8.ofNat i) : Int))
theorem arrC_len (f : UInt8 → Nat) : (arrC f).length = 256 := by simp [arrC]
theorem arrC_at (f : UInt8 → Nat) (c : UInt8) : (arrC f).toArray[c.toNat]? = some (.int .u16 (f c : Int)) := by
  have hc := c.toNat_lt
  unfold arrC
  rw [List.getElem?_toArray, List.getElem?_map, List.getElem?_range (by omega)]
  simp
theorem arrC_in {w : World} {g : Nat} {t : TypeId} {f : UInt8 → Nat} {v : Value} (h : Blk w g t (clsC f v)) : w.rangeAt g 0 (arrC f) := by
  intro j u hu
  have hj := (List.getElem?_eq_some_iff.1 hu).1
  rw [arrC_len] at hj
  rw [Nat.zero_add, h.cell]
  unfold clsC
  rw [List.getElem?_toArray, List.getElem?_append_left (by simp; omega)]
  exact hu
def ind (us : List UInt8) : UInt8 → Nat := fun d => if d ∈ us then 1 else 0
theorem ind_snoc (us : List UInt8) (c : UInt8) : upd (ind us) c 1 = ind (us ++ [c]) := by
  funext d
  unfold upd ind
  by_cases e : d = c
  · subst e; simp
  · simp [e]
theorem cls_zero : Tryz.zeroCells208 = clsC (ind []) (.slice none 0 0) := by kernel_rfl
/-- The class of a byte. -/
def cf (bs : List UInt8) : UInt8 → Nat := fun d => if d ∈ bs then bs.idxOf d + 1 else 0
def fK (us bs : List UInt8) (k : Nat) : UInt8 → Nat := fun d => if d ∈ bs then bs.idxOf d + 1 else if d.toNat < k then 0 else ind us d
theorem fK_zero (us : List UInt8) : fK us [] 0 = ind us := by funext d; simp [fK]
theorem fK_all (us bs : List UInt8) : fK us bs 256 = cf bs := by
  funext d
  have := d.toNat_lt
  unfold fK cf
  by_cases h : d ∈ bs
  · rw [if_pos h, if_pos h]
  · rw [if_neg h, if_neg h, if_pos this]
/-- The bytes so far. -/
def BsK (us bs : List UInt8) (k : Nat) : Prop := bs.Nodup ∧ (∀ d, d ∈ bs ↔ d.toNat < k ∧ d ∈ us) ∧ bs.length ≤ k
theorem BsK.zero (us : List UInt8) : BsK us [] 0 := ⟨List.nodup_nil, fun d => by simp, Nat.le_refl _⟩
theorem BsK.out {us bs : List UInt8} {k : Nat} {c : UInt8} (h : BsK us bs k) (hc : c.toNat = k) (hm : c ∉ us) : BsK us bs (k + 1) ∧ fK us bs (k + 1) = fK us bs k := by
  have key : ∀ d : UInt8, d.toNat < k + 1 → d.toNat < k ∨ d = c := fun d hd => by
    rcases Nat.lt_or_ge d.toNat k with h1 | h1
    · exact .inl h1
    · exact .inr (UInt8.toNat_inj.1 (by omega))
  refine ⟨⟨h.1, fun d => ?_, by have := h.2.2; omega⟩, ?_⟩
  · rw [h.2.1]
    constructor
    · rintro ⟨a, b⟩; exact ⟨by omega, b⟩
    · rintro ⟨a, b⟩
      rcases key d a with h1 | rfl
      · exact ⟨h1, b⟩
      · exact absurd b hm
  · funext d
    unfold fK
    by_cases h1 : d ∈ bs
    · rw [if_pos h1, if_pos h1]
    · rw [if_neg h1, if_neg h1]
      by_cases h2 : d.toNat < k
      · rw [if_pos h2, if_pos (by omega)]
      · rw [if_neg h2]
        by_cases h3 : d = c
        · subst h3; rw [if_pos (by omega)]; simp [ind, hm]
        · rw [if_neg (fun h4 => by rcases key d h4 with h5 | h5; exact h2 h5; exact h3 h5)]
theorem BsK.in_ {us bs : List UInt8} {k : Nat} {c : UInt8} (h : BsK us bs k) (hc : c.toNat = k) (hm : c ∈ us) : BsK us (bs ++ [c]) (k + 1) ∧ fK us (bs ++ [c]) (k + 1) = upd (fK us bs k) c (bs.length + 1) := by
  have hcb : c ∉ bs := fun hb => by have := (h.2.1 c).1 hb; omega
  have key : ∀ d : UInt8, d.toNat < k + 1 → d.toNat < k ∨ d = c := fun d hd => by
    rcases Nat.lt_or_ge d.toNat k with h1 | h1
    · exact .inl h1
    · exact .inr (UInt8.toNat_inj.1 (by omega))
  refine ⟨⟨?_, fun d => ?_, by have := h.2.2; simp; omega⟩, ?_⟩
  · rw [List.nodup_append]
    exact ⟨h.1, by simp, fun a ha b hb e => by simp at hb; subst hb; subst e; exact hcb ha⟩
  · rw [List.mem_append, h.2.1]
    constructor
    · rintro (⟨a, b⟩ | a)
      · exact ⟨by omega, b⟩
      · simp at a; subst a; exact ⟨by omega, hm⟩
    · rintro ⟨a, b⟩
      rcases key d a with h1 | rfl
      · exact .inl ⟨h1, b⟩
      · exact .inr (by simp)
  · funext d
    show fK us (bs ++ [c]) (k + 1) d = if d = c then bs.length + 1 else fK us bs k d
    unfold fK
    rw [List.idxOf_append]
    by_cases e : d = c
    · subst e
      rw [if_pos (by simp), if_pos rfl, if_neg hcb]
      simp
    · rw [if_neg e]
      by_cases h1 : d ∈ bs
      · rw [if_pos (by simp [h1]), if_pos h1, if_pos h1]
      · rw [if_neg (by simp [h1, e]), if_neg h1]
        by_cases h2 : d.toNat < k
        · rw [if_pos h2, if_pos (by omega)]
        · rw [if_neg h2, if_neg (fun h4 => by rcases key d h4 with h5 | h5; exact h2 h5; exact e h5)]
theorem BsK.few {us bs : List UInt8} {k : Nat} (h : BsK us bs k) : bs.length ≤ k := h.2.2

set_option maxHeartbeats 1000000 in
theorem list2_ (x : Option Addr) (lp : List ByteArray) (w : World) (h : SetP w x lp) (hl : lp.length ≤ 100000) :
    Calls Tryz.prog 156 #[.pointer x] w fun e w' => (∃ A c, e = .returned (.slice A lp.length c) ∧ Row w' 9 1 (.slice A lp.length c) lp.length (lp.map Value.string)) ∧ Pure' w w' := by
  rcases h with ⟨rfl, rfl⟩ | ⟨g, A, c, t, rfl, hne, hb, hs⟩
  · go_enter Tryz.func156, Tryz.ntmps156
    go_wp2
    go_ret
    exact ⟨⟨none, 0, rfl, Row.nil _ _ _⟩, Keeps.refl _ _⟩
  · obtain ⟨i0, hi, hz0, hz1, hz2⟩ := info_parts strInfo2
    have h0 : 0 < lp.length := List.length_pos_iff.2 hne
    obtain ⟨ad, rfl, hbl, hcell⟩ := hs.2 h0
    obtain ⟨b, off, sp⟩ := ad
    obtain rfl : sp = none := by
      have h0 := hcell 0 _ (List.getElem?_eq_getElem (by simp; omega))
      have := World.cell?_spot h0
      simpa [Addr.add] using this
    have HCL := Lib.hid (Tryz.slices_Clone_f80 i0 (.string ByteArray.empty) 1 16 hi hz0 hz1 hz2 rfl (by decide) (fun w => Tryz.sizeOf9 w) b off lp.length c (lp.map Value.string) w (by simp) (by unfold maxLen; omega) (by omega) (fun j u hu => by
      have := hcell j u hu
      rwa [show (⟨b, off, none⟩ : Addr).add j = ⟨b, off + j, none⟩ from by unfold Addr.add; split <;> simp_all] at this) (fun u hu => by obtain ⟨x, _, rfl⟩ := List.mem_map.1 hu; rfl))
    have c0 := hb.cell 0
    generalize lp.length = n at *
    clear hb hs hcell
    go_enter Tryz.func156, Tryz.ntmps156
    go_wp2_with fail
    refine HCL.out.mono ?_
    rintro e w1 ⟨v', rfl, hrow, hnn, hbel⟩
    have hrow' : Row w1 9 1 v' n (lp.map Value.string) := by
      refine ⟨hrow.1, ?_⟩
      rcases hrow.2 with h2 | ⟨g, cap, cur, h1, _, r⟩
      · exact .inl h2
      · exact .inr ⟨g, cap, cur, h1, Nat.zero_le _, r⟩
    obtain ⟨A', c', rfl, _⟩ := hrow'.form
    have HR := Lib.hid hrow'
    have HK := Lib.hid (Keeps.of_below hbel)
    clear hrow hrow' hnn hbel
    go_wp2
    go_ret
    exact ⟨⟨_, _, rfl, HR.out⟩, HK.out⟩


/-- Classes in memory. -/
structure ClA (w : World) (g : Nat) (bs : List UInt8) : Prop where
  box : ∃ A c, Blk w g 208 (clsC (cf bs) (.slice A bs.length c)) ∧ Row w 5 1 (.slice A bs.length c) bs.length (bs.map byteV)
  nd : bs.Nodup
  few : bs.length ≤ 256
theorem ClA.pure {w w' : World} {g : Nat} {bs : List UInt8} (h : ClA w g bs) (hk : Pure' w w') : ClA w' g bs := by
  obtain ⟨A, c, h1, h2⟩ := h.box
  exact ⟨⟨A, c, h1.keep hk (fun hf => hf), h2.keep hk (fun _ _ hf => hf)⟩, h.nd, h.few⟩

def NewClsPost (l : List (List UInt8)) (w : World) (e : Ending) (w' : World) : Prop := ∃ (g : Nat) (bs : List UInt8), e = .returned (.pointer (some ⟨g, 0, none⟩)) ∧ ClA w' g bs ∧ (∀ d, d ∈ bs ↔ ∃ y ∈ l, d ∈ y) ∧ w.heap.size ≤ g ∧ Pure' w w'

theorem idx_cls (cs : Array Value) (k : Nat) (hk : k < 256) (v : Value) (hv : cs[k]? = some v) (w : World) : (Instr.index 206 (.agg cs) (.int .i64 (k : Int))).run Tryz.prog w = .ok v w := by
  have hp : (part 90 cs k).run Tryz.prog w = .ok v w := run_part_plain w (by kernel_rfl) hv
  have hs : (sizeOf 90).run Tryz.prog w = .ok 1 w := by kernel_rfl
  unfold Instr.index
  simp only [asIntOf, Sem.run_bind, Sem.run_pure, Result.andThen_ok, run_underlying Tryz.underlying206 w, hs]
  rw [if_pos (by omega)]
  simp only [Sem.run_bind, hs, Result.andThen_ok, Int.toNat_natCast, Nat.mul_one, hp]
theorem u16Info : (Tryz.prog.info? 5).map (fun i => (i.zero, i.size, i.bytes)) = some (some (.int .u8 0), 1, 1) := by kernel_rfl

set_option maxHeartbeats 4000000 in
theorem newCls_ (x : Option Addr) (lp : List ByteArray) (w : World) (h : SetP w x lp) (hn : lp.length ≤ 12) (hll : ∀ y ∈ bl lp, y.length ≤ 20) :
    Calls Tryz.prog 125 #[.pointer x] w fun e w' => NewClsPost (bl lp) w e w' := by
  obtain ⟨i0, hi, hz0, hz1, hz2⟩ := info_parts u16Info
  have HLI := Lib.hid (list2_ x lp (w.alloc (.cells (clsC (ind []) (.slice none 0 0)) 208)) (h.pure ((Keeps.refl _ w).alloc _)) (by omega))
  have HLB := Lib.hid hll
  have HLN := Lib.hid (bl_len lp)
  rw [strVs_bl] at HLI
  clear h hll
  go_enter Tryz.func125, Tryz.ntmps125
  go_wp2_with fail
  rw [cls_zero]
  generalize hg : w.heap.size = g
  have HG := Lib.hid hg
  have HB0 := Lib.hid (show Blk (w.alloc (.cells (clsC (ind []) (.slice none 0 0)) 208)) g 208 (clsC (ind []) (.slice none 0 0)) from Blk.newAt hg.symm)
  have HK0 := Lib.hid ((Keeps.refl (fun _ => False) w).alloc (.cells (clsC (ind []) (.slice none 0 0)) 208))
  clear hg
  refine HLI.out.mono ?_
  rintro e w1 ⟨⟨A, c, rfl, hs⟩, hk⟩
  have HS := Lib.hid hs
  have HNE := Lib.hid (fun (b : Nat) (hb : (Value.slice A lp.length c).ownBlock = some b) (e : b = g) => hs.blk_ne (HB0.out.keep hk (fun hf => hf)) (by decide) (by rw [hb, e]))
  have HB1 := Lib.hid (HB0.out.keep hk (fun hf => hf))
  have HK1 := Lib.hid (HK0.out.trans hk (fun _ _ hf => hf))
  clear hs hk HB0 HK0 HLI
  obtain ⟨l, hbl⟩ : ∃ l, bl lp = l := ⟨_, rfl⟩
  have HBL := Lib.hid hbl
  rw [hbl] at HS HLB HLN
  clear hbl
  obtain ⟨n, hnn⟩ : ∃ n, lp.length = n := ⟨_, rfl⟩
  rw [hnn] at hn HS HLN HNE ⊢
  clear hnn
  go_wp2
  go_loopg [5, 6, 14, 16, 17, 18, 19, 20] n (fun gh v5 v6 v14 v16 v17 v18 v19 v20 wr => ∃ i : Nat, i + gh = n ∧ v14 = .int .i64 (i : Int) ∧ RowKit.Hid (Blk wr g 208 (clsC (ind (l.take i).flatten) (.slice none 0 0))) ∧ RowKit.Hid (Keeps (fun b => b = g) w1 wr))
  case atStart => exact ⟨0, by omega, rfl, HB1, Lib.hid (Keeps.refl _ _)⟩
  case round =>
    obtain ⟨i, hig, rfl, HB, HK⟩ := hrel
    cases gk with
    | zero =>
      obtain rfl : i = n := by omega
      rw [List.take_of_length_le (by rw [HLN.out]; exact Nat.le_refl _)] at HB
      have HUS := Lib.hid (show ∀ d, d ∈ l.flatten ↔ ∃ y ∈ l, d ∈ y from fun d => List.mem_flatten)
      generalize l.flatten = us at *
      go_wp2_with ((with_reducible refine at_op ⟨some 35, _, _, _, _, _⟩ ?_); refine wpList_load_mid rfl 206 (.tmp 34) rfl g 0 rfl (arrC (ind us)) _ (arrC_in HB.out) Tryz.underlying206 rfl (by rw [arrC_len]; kernel_rfl) ?_)
      have HAR := Lib.hid (fun c => arrC_at (ind us) c)
      generalize (arrC (ind us)).toArray = AR at *
      have HB6 := Lib.hid (show Blk wr g 208 (clsC (fK us [] 0) (.slice none 0 0)) by rw [fK_zero]; exact HB.out)
      go_wp2
      go_loopg [7, 8, 36] 256 (fun gh v7 v8 v36 wz => ∃ (k : Nat) (bs : List UInt8) (A2 : Option Addr) (c2 : Nat), k + gh = 256 ∧ v36 = .int .i64 (k : Int) ∧ RowKit.Hid (Blk wz g 208 (clsC (fK us bs k) (.slice A2 bs.length c2))) ∧ RowKit.Hid (BsK us bs k) ∧ RowKit.Hid (Row wz 5 1 (.slice A2 bs.length c2) bs.length (bs.map byteV)) ∧ RowKit.Hid (∀ b, (Value.slice A2 bs.length c2).ownBlock = some b → w.heap.size ≤ b) ∧ RowKit.Hid (Pure' w wz))
      case atStart => exact ⟨0, [], none, 0, by omega, rfl, HB6, Lib.hid (BsK.zero us), Lib.hid (Row.nil _ _ _), Lib.hid (fun b hb => by simp [Value.ownBlock] at hb), Lib.hid (HK1.out.trans HK.out (fun b hb e => by subst e; have := HG.out; omega))⟩
      case round =>
        obtain ⟨k, bs, A2, c2, hkg, rfl, HB7, HBS, HR, HO, HP⟩ := hrel
        clear HB6
        cases gk with
        | zero =>
          obtain rfl : k = 256 := by omega
          go_wp2
          go_ret
          refine ⟨g, bs, rfl, ⟨⟨A2, c2, by rw [← fK_all us]; exact HB7.out, HR.out⟩, HBS.out.1, HBS.out.2.2⟩, fun d => ?_, by have := HG.out; omega, HP.out⟩
          rw [HBS.out.2.1, HBL.out, ← HUS.out]
          have := d.toNat_lt
          exact ⟨fun h => h.2, fun h => ⟨by omega, h⟩⟩
        | succ g4 =>
          have hk256 : k < 256 := by omega
          have hki : (k : Int) < 256 := by omega
          obtain ⟨c, hck⟩ : ∃ c : UInt8, c.toNat = k := ⟨UInt8.ofNat k, by simp; omega⟩
          have hix := idx_cls AR k hk256 (.int .u16 (ind us c : Int)) (by rw [← hck]; exact HAR.out c)
          by_cases hm : c ∈ us
          · have hst := HBS.out.in_ hck hm
            rw [show ind us c = 1 by simp [ind, hm]] at hix
            obtain ⟨n2, hn2⟩ : ∃ n, bs.length = n := ⟨_, rfl⟩
            have hnk : n2 ≤ k := by rw [← hn2]; exact HBS.out.2.2
            rw [hn2] at HB7 HR HO hst
            have HN2 := Lib.hid hn2
            have HST := Lib.hid hst
            have x1 := HB7.out.cell 256
            rw [clsC_last] at x1
            clear hst hn2
            have HNG := Lib.hid (fun (e : (Value.slice A2 n2 c2).ownBlock = some g) => HR.out.blk_ne HB7.out (by decide) e)
            have HCK := Lib.hid hck
            go_wp2_with (at_builtin; refine wpl_append _ rfl (.tmp 46) (.tmp 49) 111 rfl 5 i0 (.int .u8 0) 1 1 Tryz.underlying111 hi hz0 hz1 hz2 rfl (by decide) (.slice A2 n2 c2) n2 (bs.map byteV) rfl ?own ⟨wr.heap.size, 0, none⟩ 1 1 [.int .u8 (k : Int)] rfl rfl ?news ?one (by decide) ?b1 ?b2 ?kk)
            case own => exact Row.alloc HR.out _
            case news => exact news1
            case one => intro u hu; simp at hu; subst hu; rfl
            case b1 => unfold maxLen; omega
            case b2 => omega
            case kk =>
              intro b1 cap1 w3 ho1 hg1 hb1 hl1
              have hkp := Lib.hid ((HP.out.alloc (.cells #[.int .u8 (k : Int)] 5)).grown hg1 (fun b hb => .inr (HO.out b hb)))
              have HD : RowKit.Hid (w.heap.size ≤ b1) := by
                rcases hb1 with h | h
                · exact Lib.hid (HO.out _ h)
                · exact Lib.hid (by rw [h]; have := HP.out.size; simp [World.alloc] at this ⊢; omega)
              have HB8 := Lib.hid ((HB7.out.alloc (.cells #[.int .u8 (k : Int)] 5)).grown hg1 HNG.out)
              have HR8 := Lib.hid (show Row w3 5 1 (.slice (some ⟨b1, 0, none⟩) (n2 + 1) cap1) (n2 + 1) ((bs ++ [c]).map byteV) by
                rw [List.map_append, show [c].map byteV = [.int .u8 (k : Int)] by simp [byteV, HCK.out]]; exact ho1)
              have hgb : b1 ≠ g := fun e => HR8.out.blk_ne HB8.out (by decide) (by rw [e]; rfl)
              have x2 := HB8.out.frozen 256
              have x3 := HB8.out.cell 256
              rw [clsC_last] at x3
              have HB9 := Lib.hid (show Blk (w3.setCell ⟨g, 256, none⟩ (.slice (some ⟨b1, 0, none⟩) (n2 + 1) cap1)) g 208 (clsC (fK us bs k) (.slice (some ⟨b1, 0, none⟩) (n2 + 1) cap1)) by
                have := HB8.out.set_ 256 (.slice (some ⟨b1, 0, none⟩) (n2 + 1) cap1); rwa [clsC_setv] at this)
              have HR9 := Lib.hid (HR8.out.off (b := g) (i := 256) (u := .slice (some ⟨b1, 0, none⟩) (n2 + 1) cap1) (fun e => hgb (by simpa [Value.ownBlock] using e)))
              have HK9 := Lib.hid (hkp.out.setCell (p := ⟨g, 256, none⟩) (.inr (by have := HG.out; show w.heap.size ≤ g; omega)) (.slice (some ⟨b1, 0, none⟩) (n2 + 1) cap1))
              clear ho1 hg1 hb1 hkp x1
              go_upto_region 16 with fail
              generalize w3.setCell ⟨g, 256, none⟩ (.slice (some ⟨b1, 0, none⟩) (n2 + 1) cap1) = w4 at *
              clear x2 x3 HB8 HR8 HB7
              have x4 := HB9.out.cell 256
              rw [clsC_last] at x4
              have x5 := HB9.out.cell k
              rw [← HCK.out, clsC_at, HCK.out] at x5
              have x6 := HB9.out.frozen k
              have HBA := Lib.hid (show Blk ((w4.setCell ⟨g, k, none⟩ (.int .u16 ((n2 : Int) + 1))).drew) g 208 (clsC (fK us (bs ++ [c]) (k + 1)) (.slice (some ⟨b1, 0, none⟩) (n2 + 1) cap1)) by
                rw [HST.out.2]
                have := HB9.out.set_ c.toNat (.int .u16 ((n2 + 1 : Nat) : Int))
                rw [clsC_set, HCK.out] at this
                exact this.drew)
              have HRA := Lib.hid (show Row ((w4.setCell ⟨g, k, none⟩ (.int .u16 ((n2 : Int) + 1))).drew) 5 1 (.slice (some ⟨b1, 0, none⟩) (n2 + 1) cap1) (n2 + 1) ((bs ++ [c]).map byteV) from
                (HR9.out.off (b := g) (i := k) (u := .int .u16 ((n2 : Int) + 1)) (fun e => hgb (by simpa [Value.ownBlock] using e))).drew)
              have HKA := Lib.hid (show Pure' w ((w4.setCell ⟨g, k, none⟩ (.int .u16 ((n2 : Int) + 1))).drew) from
                (HK9.out.setCell (p := ⟨g, k, none⟩) (.inr (by have := HG.out; show w.heap.size ≤ g; omega)) (.int .u16 ((n2 : Int) + 1))).drew)
              have HLN2 := Lib.hid (show (bs ++ [c]).length = n2 + 1 by rw [List.length_append, HN2.out]; rfl)
              have HOA := Lib.hid (show ∀ b, (Value.slice (some ⟨b1, 0, none⟩) (n2 + 1) cap1).ownBlock = some b → w.heap.size ≤ b from fun b hb => by simp [Value.ownBlock] at hb; rw [← hb]; exact HD.out)
              go_region
              go_wp2
              go_roundg g4
              case measure => omega
              case rel => exact ⟨k + 1, bs ++ [c], some ⟨b1, 0, none⟩, cap1, by omega, by go_num, by rw [HLN2.out]; exact HBA, Lib.hid HST.out.1, by rw [HLN2.out]; exact HRA, by rw [HLN2.out]; exact HOA, HKA⟩
          · have hst := HBS.out.out hck hm
            rw [show ind us c = 0 by simp [ind, hm]] at hix
            have HST := Lib.hid hst
            clear hst
            go_wp2
            go_roundg g4
            case measure => omega
            case rel => exact ⟨k + 1, bs, A2, c2, by omega, by go_num, Lib.hid (by rw [HST.out.2]; exact HB7.out), Lib.hid HST.out.1, HR, HO, HP⟩
    | succ g3 =>
      have hii : (i : Int) < (n : Int) := by omega
      obtain ⟨ad, y, rfl, hy, yc⟩ := word_at (((HS.out.keep HK.out (fun b hb hc => HNE.out b hb hc)).sees)) (show i < n by omega)
      have hyl := HLB.out y (List.mem_of_getElem? hy)
      have hby : (⟨y.toArray⟩ : ByteArray).size = y.length := Lib.size_eq _
      obtain ⟨m, hm⟩ : ∃ m, y.length = m := ⟨_, rfl⟩
      have HM := Lib.hid hm
      have HY := Lib.hid hy
      rw [hm] at hyl hby
      clear hm hy
      go_wp2
      go_loopg [6, 20] m (fun gh v6 v20 wz => ∃ j : Nat, j + gh = m ∧ v20 = .int .i64 (j : Int) ∧ RowKit.Hid (Blk wz g 208 (clsC (ind ((l.take i).flatten ++ y.take j)) (.slice none 0 0))) ∧ RowKit.Hid (Keeps (fun b => b = g) w1 wz))
      case atStart => exact ⟨0, by omega, rfl, by rw [List.take_zero, List.append_nil]; exact HB, HK⟩
      case round =>
        obtain ⟨j, hjg, rfl, HB4, HK4⟩ := hrel
        cases gk with
        | zero =>
          obtain rfl : j = m := by omega
          have HB5 := Lib.hid (show Blk wr g 208 (clsC (ind (l.take (i + 1)).flatten) (.slice none 0 0)) from by
            have := HB4.out
            rw [show y.take j = y from List.take_of_length_le (by rw [HM.out]; exact Nat.le_refl _)] at this
            rw [List.take_add_one, HY.out, List.flatten_append]
            simpa using this)
          go_wp2
          go_roundg g3
          case measure => omega
          case rel => exact ⟨i + 1, by omega, by go_num, HB5, HK4⟩
        | succ g4 =>
          have hji : (j : Int) < (m : Int) := by omega
          obtain ⟨c, hcd, hcj, hga⟩ := at_c (show j < y.length by rw [HM.out]; omega)
          have hcl := c.toNat_lt
          have hcl2 : (c.toNat : Int) < 256 := by omega
          have x1 := HB4.out.cell c.toNat
          rw [clsC_at] at x1
          have x2 := HB4.out.frozen c.toNat
          have HB5 := Lib.hid (show Blk ((wr.setCell ⟨g, c.toNat, none⟩ (.int .u16 1)).drew) g 208 (clsC (ind ((l.take i).flatten ++ y.take (j + 1))) (.slice none 0 0)) from by
            have := HB4.out.set_ c.toNat (.int .u16 ((1 : Nat) : Int))
            rw [clsC_set, ind_snoc, List.append_assoc] at this
            rw [List.take_add_one, hcj]
            exact this.drew)
          have HK5 := Lib.hid (show Keeps (fun b => b = g) w1 ((wr.setCell ⟨g, c.toNat, none⟩ (.int .u16 1)).drew) from (HK4.out.setCell (p := ⟨g, c.toNat, none⟩) (.inl rfl) _).drew)
          clear hcd hcj
          go_wp2_with fail
          go_region
          go_wp2
          go_roundg g4
          case measure => omega
          case rel => exact ⟨j + 1, by omega, by go_num, HB5, HK5⟩

end Go.Proofs.YtkbdfnmeomkpjaaGreat
