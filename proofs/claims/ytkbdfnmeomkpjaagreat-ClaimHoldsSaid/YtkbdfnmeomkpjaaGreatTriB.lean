/- A state of a trie parted: the states below it are made, and wait; no condition but the sizes. -/
import Derived.Test.YtkbdfnmeomkpjaaGreatTriA
namespace Go.Proofs.YtkbdfnmeomkpjaaGreat
open Go.RowKit
set_option linter.unusedVariables false
set_option linter.unusedSimpArgs false
set_option maxRecDepth 100000

def bl (lp : List ByteArray) : List (List UInt8) := lp.map (fun s => s.data.toList)
def strVs (l : List (List UInt8)) : List Value := l.map (fun x => Value.string ⟨x.toArray⟩)
theorem strVs_len (l : List (List UInt8)) : (strVs l).length = l.length := by simp [strVs]
theorem strVs_bl (lp : List ByteArray) : lp.map Value.string = strVs (bl lp) := by
  unfold strVs bl
  rw [List.map_map]
  exact List.map_congr_left fun s _ => congrArg Value.string (bytes_mk s).symm
theorem word_at {w : World} {B n k : Nat} {A : Option Addr} {l : List (List UInt8)} (h : Sees w B 1 A n (strVs l)) (hk : k < n) : ∃ (ad : Addr) (x : List UInt8), A = some ad ∧ l[k]? = some x ∧ w.cell? (ad.add k) = some (.string ⟨x.toArray⟩) := by
  have hl : l.length = n := by have := h.1; rw [strVs_len] at this; omega
  obtain ⟨ad, u, e, hu, hc⟩ := h.at_ hk
  unfold strVs at hu
  rw [List.getElem?_map, List.getElem?_eq_getElem (by omega)] at hu
  simp at hu
  subst hu
  exact ⟨ad, _, e, List.getElem?_eq_getElem (by omega), hc⟩

/-- What holds while a state is parted. -/
structure PS (w W : World) (B g kb kq b cap q o jc : Nat) (S : List TSt) (J : List (Nat × Nat × Nat)) (cj : Array Value) : Prop where
  tr : TrA W g b cap S
  qa : QA W q o jc J
  jb : Blk W w.heap.size 203 cj
  keep : Keeps (fun x => x = g ∨ x = kb ∨ x = kq) w W
  qne : q ≠ w.heap.size
  hb : B ≤ b
  hq : B ≤ q
  ob : b = kb ∨ w.heap.size ≤ b
  oq : q = kq ∨ w.heap.size ≤ q
section
variable {w W : World} {B g kb kq b cap q o jc : Nat} {S : List TSt} {J : List (Nat × Nat × Nat)} {cj : Array Value}
theorem PS.bq (h : PS w W B g kb kq b cap q o jc S J cj) : b ≠ q := fun e => h.qa.ne_row h.tr.row (by decide) (by rw [e]; rfl)
theorem PS.gq (h : PS w W B g kb kq b cap q o jc S J cj) : g ≠ q := h.qa.ne_blk h.tr.box (by decide)
theorem PS.bj (h : PS w W B g kb kq b cap q o jc S J cj) : b ≠ w.heap.size := fun e => h.tr.row.blk_ne h.jb (by decide) (by rw [e]; rfl)
theorem PS.gj (h : PS w W B g kb kq b cap q o jc S J cj) : g ≠ w.heap.size := h.tr.box.differ h.jb (by decide)
theorem PS.drew (h : PS w W B g kb kq b cap q o jc S J cj) : PS w W.drew B g kb kq b cap q o jc S J cj :=
  ⟨h.tr.drew, h.qa.keep ((Keeps.refl (fun _ => False) W).drew) (fun hf => hf), h.jb.drew, h.keep.drew, h.qne, h.hb, h.hq, h.ob, h.oq⟩
theorem PS.dn (h : PS w W B g kb kq b cap q o jc S J cj) (k : Nat) : PS w (W.drewN k) B g kb kq b cap q o jc S J cj :=
  ⟨⟨h.tr.box.drewN k, h.tr.row.drewN k⟩, h.qa.keep ((Keeps.refl (fun _ => False) W).drewN k) (fun hf => hf), h.jb.drewN k, h.keep.drewN k, h.qne, h.hb, h.hq, h.ob, h.oq⟩
theorem PS.set (h : PS w W B g kb kq b cap q o jc S J cj) {k r : Nat} {s s' : TSt} {u : Value} (hk : S[k]? = some s) (hr : r < 6) (e : tsC s' = (tsC s).set r u) : PS w (W.setCell ⟨b, k * 6 + r, none⟩ u) B g kb kq b cap q o jc (S.set k s') J cj :=
  ⟨h.tr.set hk hr e, h.qa.keep (Keeps.one W b (k * 6 + r) u) (fun e => h.bq e.symm), h.jb.off (fun e => h.bj e.symm), h.keep.setCell (p := ⟨b, k * 6 + r, none⟩) (by rcases h.ob with e | e; exact .inl (.inr (.inl e)); exact .inr e) u, h.qne, h.hb, h.hq, h.ob, h.oq⟩
theorem PS.state (h : PS w W B g kb kq b cap q o jc S J cj) (hw : w.heap.size ≤ W.heap.size) (hBw : B ≤ w.heap.size) {W' : World} {u : Array Value} {t : TypeId} {b' cap' : Nat} {s : TSt} (hg : (W.alloc (.cells u t)).grownBy W' (some b)) (hr : Row W' 183 6 (.slice (some ⟨b', 0, none⟩) (S.length + 1) cap') (S.length + 1) (tsVs S ++ tsC s))
    (hw' : some b = some b' ∨ b' = W.heap.size + 1) : PS w (W'.setCell ⟨g, 0, none⟩ (.slice (some ⟨b', 0, none⟩) (S.length + 1) cap')) B g kb kq b' cap' q o jc (S ++ [s]) J cj := by
  have hk1 : Keeps (fun x => x = b) W W' := ((Keeps.refl (fun x => x = b) W).alloc (.cells u t)).grown hg (fun k hk => .inl (by injection hk with hk; exact hk.symm))
  have hk2 : Keeps (fun x => x = b ∨ x = g) W (W'.setCell ⟨g, 0, none⟩ (.slice (some ⟨b', 0, none⟩) (S.length + 1) cap')) := (hk1.mono (S' := fun x => x = b ∨ x = g) (fun _ _ hx => .inl hx)).setCell (p := ⟨g, 0, none⟩) (.inl (.inr rfl)) _
  refine ⟨h.tr.more hg hr, h.qa.keep hk2 (fun e => by rcases e with e | e; exact h.bq e.symm; exact h.gq e.symm), h.jb.keep hk2 (fun e => by rcases e with e | e; exact h.bj e.symm; exact h.gj e.symm), ?_, h.qne, ?_, h.hq, ?_, h.oq⟩
  · refine h.keep.trans hk2 (fun x hx hm => ?_)
    rcases hm with rfl | rfl
    · rcases h.ob with e | e
      · exact .inr (.inl e)
      · omega
    · exact .inl rfl
  · rcases hw' with e | e
    · injection e with e; subst e; exact h.hb
    · omega
  · rcases hw' with e | e
    · injection e with e; subst e; exact h.ob
    · right; omega
theorem PS.jobPut (h : PS w W B g kb kq b cap q o jc S J cj) (hr : J.length + 1 ≤ jc) (j : Nat × Nat × Nat) (x : Obj) : PS w ((W.alloc x).setCells q (o + J.length * 3) (jbC j)) B g kb kq b cap q o jc S (J ++ [j]) cj := by
  have hk : Keeps (fun x => x = q) W ((W.alloc x).setCells q (o + J.length * 3) (jbC j)) := ((Keeps.refl (fun x => x = q) W).alloc x).setCells (.inl rfl) _ _ _ _
  refine ⟨h.tr.keep hk h.gq h.bq, (h.qa.keep ((Keeps.refl (fun _ => False) W).alloc x) (fun hf => hf)).put hr j, h.jb.keep hk (fun e => h.qne e.symm), ?_, h.qne, h.hb, h.hq, h.ob, h.oq⟩
  refine (h.keep.alloc x).setCells ?_ _ _ _ _
  rcases h.oq with e | e
  · exact .inl (.inr (.inr e))
  · exact .inr e
theorem PS.jobNew (h : PS w W B g kb kq b cap q o jc S J cj) (hw : w.heap.size < W.heap.size) (hBw : B ≤ w.heap.size) {j : Nat × Nat × Nat} {x : Obj} {W' : World} {v : Value} (hg : (W.alloc x).grownBy W' none) (hr : W'.ownsRow (W.alloc x).heap.size 203 3 v (J.length + 1) (jbVs (J ++ [j]))) :
    ∃ q' jc', v = .slice (some ⟨q', 0, none⟩) (J.length + 1) jc' ∧ PS w W' B g kb kq b cap q' 0 jc' S (J ++ [j]) cj := by
  have hk : Keeps (fun _ => False) W W' := ((Keeps.refl (fun _ => False) W).alloc x).grown hg (fun k hk => by cases hk)
  have hR : Row W' 203 3 v (J.length + 1) (jbVs (J ++ [j])) := by
    refine ⟨hr.1, ?_⟩
    rcases hr.2 with h2 | ⟨g, cap, cur, h1, _, r⟩
    · exact .inl h2
    · exact .inr ⟨g, cap, cur, h1, Nat.zero_le _, r⟩
  obtain ⟨q', jc', rfl, hq⟩ := QA.ofRow hR (by simp) (by simp)
  have hq' := (World.ownsRow.lt hr q' rfl).1
  have hsz : (W.alloc x).heap.size = W.heap.size + 1 := by show (W.heap.push x).size = _; exact Array.size_push _
  refine ⟨q', jc', by simp, h.tr.keep hk (fun hf => hf) (fun hf => hf), hq, h.jb.keep hk (fun hf => hf), h.keep.trans hk (fun _ _ hf => hf.elim), by omega, h.hb, by omega, h.ob, .inr (by omega)⟩
end

end Go.Proofs.YtkbdfnmeomkpjaaGreat
