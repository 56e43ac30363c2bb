/- The cells of a sparse table, and one of them laid; no condition but the sizes. -/
import Derived.Test.YtkbdfnmeomkpjaaGreatDenC
namespace Go.Proofs.YtkbdfnmeomkpjaaGreat
open Go.RowKit
set_option linter.unusedVariables false
set_option linter.unusedSimpArgs false
set_option maxRecDepth 100000

/-- A cell: whose it is, and where it leads. -/
abbrev SCell := Nat × Nat
def scC (x : SCell) : List Value := [.int .i32 (x.1 : Int), .int .i32 (x.2 : Int)]
def scVs (C : List SCell) : List Value := C.flatMap scC
theorem scVs_len (C : List SCell) : (scVs C).length = C.length * 2 := by
  induction C with
  | nil => rfl
  | cons s S ih => rw [show scVs (s :: S) = scC s ++ scVs S from rfl, List.length_append, ih]; simp [scC]; omega
theorem scVs_app (C D : List SCell) : scVs (C ++ D) = scVs C ++ scVs D := by simp [scVs]
theorem scVs_at : ∀ (C : List SCell) (k r : Nat) (x : SCell), C[k]? = some x → r < 2 → (scVs C)[k * 2 + r]? = (scC x)[r]?
  | [], k, r, s, h, _ => by simp at h
  | a :: S, 0, r, s, h, hr => by
    simp at h; subst h
    rw [show scVs (a :: S) = scC a ++ scVs S from rfl, Nat.zero_mul, Nat.zero_add, List.getElem?_append_left (by simpa [scC] using hr)]
  | a :: S, k + 1, r, s, h, hr => by
    have ih := scVs_at S k r s (by simpa using h) hr
    rw [show scVs (a :: S) = scC a ++ scVs S from rfl, show (k + 1) * 2 + r = 2 + (k * 2 + r) by omega, List.getElem?_append_right (by simp [scC])]
    simpa [scC] using ih
theorem scVs_set : ∀ (C : List SCell) (k : Nat) (x : SCell), k < C.length → ((scVs C).set (k * 2) (.int .i32 (x.1 : Int))).set (k * 2 + 1) (.int .i32 (x.2 : Int)) = scVs (C.set k x)
  | [], k, x, h => by simp at h
  | a :: S, 0, x, h => by simp [scVs, scC]
  | a :: S, k + 1, x, h => by
    have ih := scVs_set S k x (by simpa using h)
    rw [List.set_cons_succ, show scVs (a :: S) = scC a ++ scVs S from rfl, show scVs (a :: S.set k x) = scC a ++ scVs (S.set k x) from rfl, ← ih, show (k + 1) * 2 = 2 + k * 2 by omega, List.set_append_right _ _ (by simp [scC])]
    rw [show 2 + k * 2 + 1 = 2 + (k * 2 + 1) by omega, List.set_append_right _ _ (by simp [scC])]
    simp [scC]
def putL (C : List SCell) (k : Nat) (x : SCell) : List SCell := (C ++ List.replicate (k + 1 - C.length) (0, 0)).set k x
theorem putL_len (C : List SCell) (k : Nat) (x : SCell) : (putL C k x).length = max C.length (k + 1) := by
  unfold putL; simp; omega
theorem putL_at {C : List SCell} {k : Nat} {x : SCell} : (putL C k x)[k]? = some x := by
  unfold putL
  rw [List.getElem?_set_self (by simp; omega)]
theorem putL_ne {C : List SCell} {k j : Nat} {x : SCell} (h : j ≠ k) (hj : j < (putL C k x).length) : (putL C k x)[j]? = some (C.getD j (0, 0)) := by
  rw [putL_len] at hj
  unfold putL
  rw [List.getElem?_set_ne (Ne.symm h), List.getD_eq_getElem?_getD]
  rcases Nat.lt_or_ge j C.length with h1 | h1
  · rw [List.getElem?_append_left h1, List.getElem?_eq_getElem h1]; rfl
  · rw [List.getElem?_append_right h1, List.getElem?_replicate, if_pos (by omega), List.getElem?_eq_none h1]; rfl

theorem scInfo : (Tryz.prog.info? 180).map (fun i => (i.zero, i.size, i.bytes)) = some (some (.agg #[.int .i32 0, .int .i32 0]), 2, 8) := by kernel_rfl
theorem news2 {w : World} {a b : Value} {T : TypeId} : ∀ j x, [a, b][j]? = some x → (w.alloc (.cells #[a, b] T)).cell? ((⟨w.heap.size, 0, none⟩ : Addr).add j) = some x := by
  intro j u hu
  rw [Addr.add_mid, Nat.zero_add, (Blk.new w T #[a, b]).cell]
  simpa using hu

/-- The cells of a sparse table in memory. -/
structure ScA (w : World) (g : Nat) (C : List SCell) (A : Option Addr) (cc : Nat) (bv fv : Value) : Prop where
  box : Blk w g 176 #[.slice A C.length cc, bv, fv]
  row : Row w 180 2 (.slice A C.length cc) C.length (scVs C)
theorem ScA.pure {w w' : World} {g : Nat} {C : List SCell} {A : Option Addr} {cc : Nat} {bv fv : Value} (h : ScA w g C A cc bv fv) (hk : Pure' w w') : ScA w' g C A cc bv fv := ⟨h.box.keep hk (fun hf => hf), h.row.keep hk (fun _ _ hf => hf)⟩
def SOwn (H g : Nat) (A : Option Addr) (n cc : Nat) : Prop := H ≤ g ∧ ∀ b, (Value.slice A n cc).ownBlock = some b → H ≤ b
def PutPost (H g : Nat) (C : List SCell) (k : Nat) (x : SCell) (bv fv : Value) (w : World) (e : Ending) (w' : World) : Prop :=
  ∃ A cc, e = .returned (.tuple #[]) ∧ ScA w' g (putL C k x) A cc bv fv ∧ SOwn H g A (putL C k x).length cc ∧ ∀ (b : Nat) (t : TypeId) (cs : Array Value), t ≠ 176 → t ≠ 180 → Blk w b t cs → Blk w' b t cs

set_option maxHeartbeats 4000000 in
theorem sput_ (H g : Nat) (C : List SCell) (A : Option Addr) (cc : Nat) (bv fv : Value) (k : Nat) (x : SCell) (w : World) (h : ScA w g C A cc bv fv) (ho : SOwn H g A C.length cc) (hH : H ≤ w.heap.size) (hk : k ≤ 100000) (hC : C.length ≤ 100000) :
    Calls Tryz.prog 133 #[.pointer (some ⟨g, 0, none⟩), .int .i64 (k : Int), .agg #[.int .i32 (x.1 : Int), .int .i32 (x.2 : Int)]] w fun e w' => PutPost H g C k x bv fv w e w' ∧ Keeps (fun b => H ≤ b) w w' := by
  obtain ⟨i0, hi, hz0, hz1, hz2⟩ := info_parts scInfo
  obtain ⟨x1, x2⟩ := x
  dsimp only
  obtain ⟨H0, hH0⟩ : ∃ H0, w.heap.size = H0 := ⟨_, rfl⟩
  have HH0 := Lib.hid hH0
  have HB := Lib.hid (show Blk (w.alloc (.cells #[.int .i32 (x1 : Int), .int .i32 (x2 : Int)] 180)) H0 180 #[.int .i32 (x1 : Int), .int .i32 (x2 : Int)] from Blk.newAt hH0.symm)
  have HA := Lib.hid (h.pure ((Keeps.refl (fun _ => False) w).alloc (.cells #[.int .i32 (x1 : Int), .int .i32 (x2 : Int)] 180)))
  have HK0 := Lib.hid ((Keeps.refl (fun b => H ≤ b) w).alloc (.cells #[.int .i32 (x1 : Int), .int .i32 (x2 : Int)] 180))
  have HBL := Lib.hid (fun (b : Nat) (t : TypeId) (cs : Array Value) (_ : t ≠ 176) (_ : t ≠ 180) (hb : Blk w b t cs) => hb.alloc (.cells #[.int .i32 (x1 : Int), .int .i32 (x2 : Int)] 180))
  have HO := Lib.hid ho
  have hoA : ∀ b, (Value.slice A C.length cc).ownBlock = some b → b ≠ H0 := fun b hb e => by
    have := h.row.lt b hb
    omega
  have HOA := Lib.hid hoA
  clear h ho hoA
  go_enter Tryz.func133, Tryz.ntmps133
  go_wp2_with fail
  try rw [hH0]
  clear hH0
  generalize w.alloc (.cells #[.int .i32 (x1 : Int), .int .i32 (x2 : Int)] 180) = W0 at *
  go_loopg [] (k + 1 - C.length) (fun gh wr => ∃ (j : Nat) (A : Option Addr) (cc : Nat), j + gh = k + 1 - C.length ∧ RowKit.Hid (ScA wr g (C ++ List.replicate j (0, 0)) A cc bv fv) ∧ RowKit.Hid (SOwn H g A (C ++ List.replicate j (0, 0)).length cc) ∧ RowKit.Hid (∀ b, (Value.slice A (C ++ List.replicate j (0, 0)).length cc).ownBlock = some b → b ≠ H0) ∧ RowKit.Hid (Blk wr H0 180 #[.int .i32 (x1 : Int), .int .i32 (x2 : Int)]) ∧ RowKit.Hid (∀ (b : Nat) (t : TypeId) (cs : Array Value), t ≠ 176 → t ≠ 180 → Blk w b t cs → Blk wr b t cs) ∧ RowKit.Hid (Keeps (fun b => H ≤ b) w wr))
  case atStart => exact ⟨0, A, cc, by omega, by rw [List.replicate_zero, List.append_nil]; exact HA, by rw [List.replicate_zero, List.append_nil]; exact HO, by rw [List.replicate_zero, List.append_nil]; exact HOA, HB, HBL, HK0⟩
  case round =>
    obtain ⟨j, A, cc, hjg, HA, HO, HOA, HB, HBL, HK⟩ := hrel
    obtain ⟨n, hn⟩ : ∃ n, (C ++ List.replicate j (0, 0)).length = n := ⟨_, rfl⟩
    have hnc : n = C.length + j := by rw [← hn]; simp
    have hbox := HA.out.box
    have hrow := HA.out.row
    rw [hn] at hbox hrow HO HOA
    have HBX := Lib.hid hbox
    have HRW := Lib.hid hrow
    have HN := Lib.hid hn
    have x0 := HBX.out.cell 0
    have HNC := Lib.hid hnc
    have hnk : (gk = 0 → k < n) ∧ (0 < gk → n ≤ k) := by constructor <;> intro _ <;> omega
    have hnb : n ≤ 100001 + 100000 := by omega
    have hpe : gk = 0 → k + 1 - C.length = j := by intro _; omega
    clear hn hbox hrow hnc
    cases gk with
    | zero =>
      have hkn : k < n := hnk.1 rfl
      have hpe := hpe rfl
      have hkni : ¬ (n : Int) ≤ (k : Int) := by omega
      have hput : putL C k (x1, x2) = (C ++ List.replicate j (0, 0)).set k (x1, x2) := by unfold putL; rw [hpe]
      obtain ⟨b, cap, hA, hbl, _⟩ := HRW.out.some_ (by omega)
      cases hA
      have HPL := Lib.hid hput
      have y0 := HB.out.cell 0
      have y1 := HB.out.cell 1
      have hbg : b ≠ g := fun e => HRW.out.blk_ne HBX.out (by decide) (by rw [e]; rfl)
      have hbH : b ≠ H0 := HOA.out b rfl
      obtain ⟨u0, _, z0⟩ := HRW.out.at_ (i := k * 2) (by omega)
      obtain ⟨u1, _, z1⟩ := HRW.out.at_ (i := k * 2 + 1) (by omega)
      have f0 := HRW.out.free (i := k * 2)
      have f1 := HRW.out.free (i := k * 2 + 1)
      have hki : (k : Int) < (n : Int) := by omega
      clear hput hpe hnk
      have HSC := Lib.hid (show ScA (((wr.setCell ⟨b, k * 2, none⟩ (.int .i32 (x1 : Int))).setCell ⟨b, k * 2 + 1, none⟩ (.int .i32 (x2 : Int))).drew) g (putL C k (x1, x2)) (some ⟨b, 0, none⟩) cc bv fv from by
        have hlen : (putL C k (x1, x2)).length = n := by rw [HPL.out, List.length_set, HN.out]
        constructor
        · rw [hlen]
          exact ((HBX.out.off (Ne.symm hbg)).off (Ne.symm hbg)).drew
        · rw [hlen, HPL.out, ← scVs_set _ k (x1, x2) (by rw [HN.out]; exact hkn)]
          exact ((HRW.out.setK _).setK _).drew)
      have HPLN := Lib.hid (show (putL C k (x1, x2)).length = n by rw [HPL.out, List.length_set, HN.out])
      have hHb : H ≤ b := HO.out.2 b rfl
      have HKE := Lib.hid (show Keeps (fun b => H ≤ b) w (((wr.setCell ⟨b, k * 2, none⟩ (.int .i32 (x1 : Int))).setCell ⟨b, k * 2 + 1, none⟩ (.int .i32 (x2 : Int))).drew) from
        ((HK.out.setCell (p := ⟨b, k * 2, none⟩) (.inl hHb) _).setCell (p := ⟨b, k * 2 + 1, none⟩) (.inl hHb) _).drew)
      have HBE := Lib.hid (fun (b2 : Nat) (t : TypeId) (cs : Array Value) (h1 : t ≠ 176) (h2 : t ≠ 180) (hb : Blk w b2 t cs) => show Blk (((wr.setCell ⟨b, k * 2, none⟩ (.int .i32 (x1 : Int))).setCell ⟨b, k * 2 + 1, none⟩ (.int .i32 (x2 : Int))).drew) b2 t cs from by
        have hb3 := HBL.out b2 t cs h1 h2 hb
        have hne : b2 ≠ b := fun e => HRW.out.blk_ne hb3 (Ne.symm h2) (by rw [e]; rfl)
        exact ((hb3.off hne).off hne).drew)
      go_wp2
      go_region
      go_end0
      exact ⟨⟨_, cc, rfl, HSC.out, by rw [HPLN.out]; exact HO.out, HBE.out⟩, HKE.out⟩
    | succ g3 =>
      have hnk2 := hnk.2 (Nat.succ_pos g3)
      have hkni : (n : Int) ≤ (k : Int) := by omega
      clear hnk hpe
      go_wp2_with (at_builtin; refine wpl_append _ rfl (.tmp 17) (.tmp 19) 174 rfl 180 i0 (.agg #[.int .i32 0, .int .i32 0]) 2 8 Tryz.underlying174 hi hz0 hz1 hz2 rfl (by decide) (.slice A n cc) n (scVs (C ++ List.replicate j (0, 0))) rfl ?own ⟨wr.heap.size, 0, none⟩ 1 1 [.int .i32 0, .int .i32 0] rfl rfl ?news ?one (by decide) ?b1 ?b2 ?kk)
      case own => exact Row.alloc HRW.out _
      case news => exact news2
      case one => intro u hu; simp at hu; subst hu; rfl
      case b1 => unfold maxLen; omega
      case b2 => omega
      case kk =>
        intro b1 cap1 w3 ho1 hg1 hb1 hl1
        have HOW := Lib.hid (HO.out.2)
        have hz3 : w.heap.size ≤ wr.heap.size := HK.out.size
        have HD : RowKit.Hid (H ≤ b1) := by
          rcases hb1 with h | h
          · exact Lib.hid (HO.out.2 _ h)
          · exact Lib.hid (by rw [h]; have : (wr.alloc (.cells #[.int .i32 0, .int .i32 0] 180)).heap.size = wr.heap.size + 1 := by show (wr.heap.push _).size = _; exact Array.size_push _
                              omega)
        have HKP := Lib.hid ((HK.out.alloc (.cells #[.int .i32 0, .int .i32 0] 180)).grown hg1 (fun b hb => .inl (HOW.out b hb)))
        have HBX3 := Lib.hid ((HBX.out.alloc (.cells #[.int .i32 0, .int .i32 0] 180)).grown hg1 (fun e => HRW.out.blk_ne HBX.out (by decide) e))
        have HBC3 := Lib.hid ((HB.out.alloc (.cells #[.int .i32 0, .int .i32 0] 180)).grown hg1 (fun e => HOA.out H0 e rfl))
        have HBL3 := Lib.hid (fun (b2 : Nat) (t : TypeId) (cs : Array Value) (h1 : t ≠ 176) (h2 : t ≠ 180) (hb : Blk w b2 t cs) => ((HBL.out b2 t cs h1 h2 hb).alloc (.cells #[.int .i32 0, .int .i32 0] 180)).grown hg1 (fun e => HRW.out.blk_ne (HBL.out b2 t cs h1 h2 hb) (Ne.symm h2) e))
        have HR3 := Lib.hid (show Row w3 180 2 (.slice (some ⟨b1, 0, none⟩) (n + 1) cap1) (n + 1) (scVs (C ++ List.replicate (j + 1) (0, 0))) by
          rw [List.replicate_succ', ← List.append_assoc, scVs_app]
          exact ho1)
        have HOB := Lib.hid (show b1 ≠ H0 from by
          rcases hb1 with h | h
          · exact HOA.out _ h
          · have := HB.out.lt
            rw [h]
            have e2 : (wr.alloc (.cells #[.int .i32 0, .int .i32 0] 180)).heap.size = wr.heap.size + 1 := by show (wr.heap.push _).size = _; exact Array.size_push _
            omega)
        have hb1g : b1 ≠ g := fun e => HR3.out.blk_ne HBX3.out (by decide) (by rw [e]; rfl)
        have HN1 := Lib.hid (show (C ++ List.replicate (j + 1) ((0, 0) : SCell)).length = n + 1 by rw [HNC.out]; simp; omega)
        have x3 := HBX3.out.cell 0
        have x4 := HBX3.out.frozen 0
        clear ho1 hg1 hb1 hl1
        have HSC := Lib.hid (show ScA (w3.setCell ⟨g, 0, none⟩ (.slice (some ⟨b1, 0, none⟩) (n + 1) cap1)) g (C ++ List.replicate (j + 1) (0, 0)) (some ⟨b1, 0, none⟩) cap1 bv fv from by
          constructor
          · rw [HN1.out]; exact HBX3.out.set_ 0 _
          · rw [HN1.out]; exact HR3.out.off (fun e => hb1g (by simpa [Value.ownBlock] using e)))
        have HGH := Lib.hid HO.out.1
        have HKE := Lib.hid (show Keeps (fun b => H ≤ b) w (w3.setCell ⟨g, 0, none⟩ (.slice (some ⟨b1, 0, none⟩) (n + 1) cap1)) from HKP.out.setCell (p := ⟨g, 0, none⟩) (.inl HGH.out) _)
        have HBE := Lib.hid (fun (b2 : Nat) (t : TypeId) (cs : Array Value) (h1 : t ≠ 176) (h2 : t ≠ 180) (hb : Blk w b2 t cs) => show Blk (w3.setCell ⟨g, 0, none⟩ (.slice (some ⟨b1, 0, none⟩) (n + 1) cap1)) b2 t cs from
          (HBL3.out b2 t cs h1 h2 hb).off (fun e => h1 (by
            have q1 := HBL3.out b2 t cs h1 h2 hb
            have q2 := HBX3.out
            rw [e] at q1
            unfold Blk at q1 q2
            rw [q1] at q2
            injection q2 with q2; injection q2 with _ q2)))
        have HCE := Lib.hid (show Blk (w3.setCell ⟨g, 0, none⟩ (.slice (some ⟨b1, 0, none⟩) (n + 1) cap1)) H0 180 #[.int .i32 (x1 : Int), .int .i32 (x2 : Int)] from HBC3.out.off (fun e => by
          have q := HBC3.out
          rw [e] at q
          exact absurd rfl (Blk.differ q HBX3.out (by decide))))
        go_wp2
        go_roundg g3
        case measure => omega
        case rel => exact ⟨j + 1, some ⟨b1, 0, none⟩, cap1, by omega, HSC, by rw [HN1.out]; exact Lib.hid ⟨HGH.out, fun b hb => by simp [Value.ownBlock] at hb; rw [← hb]; exact HD.out⟩, by rw [HN1.out]; exact Lib.hid (fun b hb e => by simp [Value.ownBlock] at hb; exact HOB.out (hb.trans e)), HCE, HBE, HKE⟩

end Go.Proofs.YtkbdfnmeomkpjaaGreat
