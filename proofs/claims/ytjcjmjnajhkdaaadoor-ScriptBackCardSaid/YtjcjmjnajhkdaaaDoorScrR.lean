/- The chapter's example; no condition but the card's cell. -/
import Derived.Test.YtjcjmjnajhkdaaaDoorScrQ
namespace Go.Proofs.YtjcjmjnajhkdaaaDoor
open Go.RowKit
set_option linter.unusedVariables false
set_option linter.unusedSimpArgs false
set_option maxRecDepth 100000

def exS : Sc := ⟨[[97]], [[120, 97]], 1, true, 9, [], []⟩
def exT : List UInt8 := [112, 97, 116, 116, 101, 114, 110, 32, 97, 10, 112, 97, 114, 116, 32, 120, 97, 10, 10, 35, 32, 115, 111, 10, 115, 99, 97, 110, 32, 100, 101, 110, 115, 101, 32, 115, 107, 105, 112, 32, 57, 10]
def exP : List UInt8 := [112, 97, 116, 116, 101, 114, 110, 32, 97, 10, 112, 97, 114, 116, 32, 120, 97, 10, 115, 99, 97, 110, 32, 100, 101, 110, 115, 101, 32, 115, 107, 105, 112, 32, 57, 10]
theorem text9 : textL 9 = [57] := by rw [textL_pos (by decide)]; exact natL_small (by decide)
theorem ex_parse : parseS exT = (exS, 0, 0) := by
  have e1 : linesL exT = [[112, 97, 116, 116, 101, 114, 110, 32, 97], [112, 97, 114, 116, 32, 120, 97], [], [35, 32, 115, 111], [115, 99, 97, 110, 32, 100, 101, 110, 115, 101, 32, 115, 107, 105, 112, 32, 57], []] := by decide +kernel
  have w1 : wordsL [112, 97, 116, 116, 101, 114, 110, 32, 97] = [wPattern, [97]] := by decide +kernel
  have w2 : wordsL [112, 97, 114, 116, 32, 120, 97] = [wPart, [120, 97]] := by decide +kernel
  have w3 : wordsL [] = [] := rfl
  have w4 : wordsL [35, 32, 115, 111] = [[35], [115, 111]] := by decide +kernel
  have w5 : wordsL [115, 99, 97, 110, 32, 100, 101, 110, 115, 101, 32, 115, 107, 105, 112, 32, 57] = [wScan, [100, 101, 110, 115, 101], wSkip, [57]] := by decide +kernel
  have u1 : unqL [97] = some [97] := unq_iff.2 (by decide +kernel)
  have u2 : unqL [120, 97] = some [120, 97] := unq_iff.2 (by decide +kernel)
  have p9 : parseV [57] 1 4611686018427387903 = (9, 0) := by
    have := parse_text (n := 9) (lo := 1) (hi := 4611686018427387903) (by decide) (by decide)
    rwa [text9] at this
  have l1 : lineV sc0 false false [wPattern, [97]] = some (⟨[[97]], [], 0, false, 0, [], []⟩, false, false) := by
    rw [lineV_pat, if_pos rfl, u1]; rfl
  have l2 : lineV ⟨[[97]], [], 0, false, 0, [], []⟩ false false [wPart, [120, 97]] = some (⟨[[97]], [[120, 97]], 0, false, 0, [], []⟩, false, false) := by
    rw [lineV_part, if_pos rfl, u2]; rfl
  have l5 : lineV ⟨[[97]], [[120, 97]], 0, false, 0, [], []⟩ false false [wScan, [100, 101, 110, 115, 101], wSkip, [57]] = some (exS, true, false) := by
    unfold lineV
    dsimp only
    rw [p9, if_pos rfl, if_pos ⟨rfl, by decide +kernel, .inl rfl, rfl⟩]
    rfl
  unfold parseS
  rw [e1]
  simp only [parseGo, w1, w2, w3, w4, w5, dead, l1, l2, l5]
  rfl
theorem ex_print : printL exS = exP := by
  unfold printL rowsL scanL
  rw [show exS.every = 9 from rfl, text9]
  decide +kernel
theorem ex_check : checkV exS = true := by decide +kernel
theorem ex_nums : NumsOk exS := by unfold NumsOk; simp [exS]

set_option maxHeartbeats 1000000 in
theorem awake43 (w : World) (m : Int) (hmx : w.cell? ⟨2, 0, none⟩ = some (.int .i64 m)) : Calls Tryd.prog 7 #[] w fun e w' => e = .returned (.bool true) ∧ Pure' w w' := by
  have hp := parseS_ exT w (by decide +kernel) m hmx
  unfold ParsePost at hp
  rw [ex_parse] at hp
  have HP := Lib.hid hp
  have HPr := Lib.hid (fun v0 v1 v5 v6 W (h : ScR W v0 v1 v5 v6 exS) => by
    have := print_ v0 v1 v5 v6 exS W h ex_check ex_nums (by simp [exS]) (by simp [exS]) (by rw [ex_print]; decide +kernel)
    rwa [ex_print] at this)
  clear hp hmx
  go_enter Tryd.func7, Tryd.ntmps7
  go_wp2_with fail
  refine HP.out.mono ?_
  rintro e w1 ⟨v0, v1, v5, v6, rfl, hsr, hk⟩
  have HK1 := Lib.hid hk
  have HPW := Lib.hid (fun W (hW : Pure' w1 W) => HPr.out v0 v1 v5 v6 W (hsr.pure hW))
  obtain ⟨b0, j0, rfl, _⟩ := hsr.p0
  obtain ⟨b1, j1, rfl, _⟩ := hsr.p1
  obtain ⟨b5, j5, rfl, _⟩ := hsr.p5
  obtain ⟨b6, j6, rfl, _⟩ := hsr.p6
  clear hk hsr HP HPr
  simp only [show exS.pats.length = 1 from rfl, show exS.parts.length = 1 from rfl, show exS.edits.length = 0 from rfl, show exS.certs.length = 0 from rfl] at HPW ⊢
  unfold scV at HPW ⊢
  simp only [show exS.table = 1 from rfl, show exS.skip = true from rfl, show exS.every = 9 from rfl] at HPW ⊢
  have HB := Lib.hid (Blk.new w1 29 #[.slice b0 1 j0, .slice b1 1 j1, .int .i64 1, .bool true, .int .i64 9, .slice b5 0 j5, .slice b6 0 j6])
  have HP1 := Lib.hid ((Keeps.refl (fun _ => False) w1).alloc (.cells #[.slice b0 1 j0, .slice b1 1 j1, .int .i64 1, .bool true, .int .i64 9, .slice b5 0 j5, .slice b6 0 j6] 29))
  go_wp2_with (((with_reducible refine at_op ⟨some 12, _, _, _, _, _⟩ ?_); refine wpList_load_row rfl 29 (.tmp 1) rfl w1.heap.size rfl 29 #[.slice b0 1 j0, .slice b1 1 j1, .int .i64 1, .bool true, .int .i64 9, .slice b5 0 j5, .slice b6 0 j6] (0, 0) _ HB.out Tryd.underlying29 rfl (by kernel_rfl) ?_; go_wp2_with fail))
  refine (HPW.out _ HP1.out).mono ?_
  rintro e w2 ⟨rfl, hk⟩
  rw [show (⟨exP.toArray⟩ : ByteArray) = ⟨#[112, 97, 116, 116, 101, 114, 110, 32, 97, 10, 112, 97, 114, 116, 32, 120, 97, 10, 115, 99, 97, 110, 32, 100, 101, 110, 115, 101, 32, 115, 107, 105, 112, 32, 57, 10]⟩ from rfl]
  have HK2 := Lib.hid ((HK1.out.then_ HP1.out).then_ hk)
  have HB2 := Lib.hid (HB.out.keep hk (fun hf => hf))
  clear hk
  have x0 := HB2.out.cell 0
  have x2 := HB2.out.cell 2
  have x3 := HB2.out.cell 3
  have x4 := HB2.out.cell 4
  go_wp2
  go_ret
  exact ⟨rfl, HK2.out⟩

end Go.Proofs.YtjcjmjnajhkdaaaDoor
