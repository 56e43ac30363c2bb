/- A row of records, copied and changed, by the program; no condition but the sizes. -/
import Derived.Test.YtdapjfnpnmejnaaSpP
import Derived.Shelf.SlicesE.Clone
namespace Go.Proofs.Ytdapjfnpnmejnaa
open Go.RowKit Go.Proofs.YtdapjfnpnmejnaaW.PrintWords Go.Proofs.Ytdapjfnpnmejnaa.GB Go.Shelf
set_option linter.unusedVariables false
set_option linter.unusedSimpArgs false
set_option maxRecDepth 100000

section
variable {α : Type} {R : α → List Value → Prop} {s : Nat}
theorem Reps.uno {p : α} {c : List Value} (h : R p c) (hc : c.length = s) : Reps R s [p] c := by
  refine ⟨by simp [hc], fun j q hq => ?_⟩
  match j, hq with
  | 0, hq =>
    simp at hq
    subst hq
    rw [Nat.zero_mul, List.drop_zero, List.take_of_length_le (by omega)]
    exact h
theorem Reps.app {a b : List α} {ca cb : List Value} (h1 : Reps R s a ca) (h2 : Reps R s b cb) : Reps R s (a ++ b) (ca ++ cb) := by
  refine ⟨by rw [List.length_append, List.length_append, h1.1, h2.1, Nat.add_mul], fun j q hq => ?_⟩
  rcases Nat.lt_or_ge j a.length with hj | hj
  · rw [List.getElem?_append_left hj] at hq
    have := h1.2 j q hq
    have hl : j * s + s ≤ ca.length := by rw [h1.1, ← Nat.succ_mul]; exact Nat.mul_le_mul_right _ hj
    rw [List.drop_append_of_le_length (by omega), List.take_append_of_le_length (by rw [List.length_drop]; omega)]
    exact this
  · rw [List.getElem?_append_right hj] at hq
    have := h2.2 _ q hq
    have e : j * s = ca.length + (j - a.length) * s := by rw [h1.1, ← Nat.add_mul]; congr 1; omega
    rw [e, List.drop_append, List.drop_eq_nil_of_le (by omega), List.nil_append, show ca.length + (j - a.length) * s - ca.length = (j - a.length) * s by omega]
    exact this
theorem Reps.split {a b : List α} {cs : List Value} (h : Reps R s (a ++ b) cs) : ∃ ca cb, cs = ca ++ cb ∧ Reps R s a ca ∧ Reps R s b cb := by
  have hl := h.1
  rw [List.length_append, Nat.add_mul] at hl
  refine ⟨cs.take (a.length * s), cs.drop (a.length * s), (List.take_append_drop _ _).symm, ⟨by rw [List.length_take]; omega, fun j q hq => ?_⟩, ⟨by rw [List.length_drop]; omega, fun j q hq => ?_⟩⟩
  · have hj : j < a.length := by
      rcases Nat.lt_or_ge j a.length with hj | hj
      · exact hj
      · rw [List.getElem?_eq_none hj] at hq; cases hq
    have h1 := h.2 j q (by rw [List.getElem?_append_left hj]; exact hq)
    have hle : j * s + s ≤ a.length * s := by rw [← Nat.succ_mul]; exact Nat.mul_le_mul_right _ hj
    rw [List.drop_take, List.take_take, Nat.min_eq_left (by omega)]
    exact h1
  · have h1 := h.2 (a.length + j) q (by rw [List.getElem?_append_right (by omega), show a.length + j - a.length = j by omega]; exact hq)
    rw [List.drop_drop, ← Nat.add_mul]
    exact h1
theorem Reps.single {p : α} {cs : List Value} (h : Reps R s [p] cs) : R p cs ∧ cs.length = s := by
  have h1 := h.2 0 p rfl
  have hl : cs.length = s := by have := h.1; simpa using this
  rw [Nat.zero_mul, List.drop_zero, List.take_of_length_le (by omega)] at h1
  exact ⟨h1, hl⟩
end
theorem list_one {l : List Rec} {i : Nat} (h : i < l.length) : l = l.take i ++ [l[i]] ++ l.drop (i + 1) := by
  rw [← List.take_succ_eq_append_getElem h, List.take_append_drop]

def cl_ren : Go.Shelf.Ren := ⟨fun | 41 => 96 | n => n, fun | 22 => 28 | 23 => 33 | 4 => 4 | n => n, fun | n => n⟩
theorem cl_lays : Go.Proofs.SlLaysE0.n41 Try.prog cl_ren := {
  mixed := by kernel_rfl
  f41 := ⟨Try.f96.name, by decide, Try.func96.trans (congrArg some (by kernel_rfl))⟩
  t4 := Try.underlying4
  a4 := Try.isAgg4
  z4 := Try.sizeOf4
  v4 := Try.zeroValue4
  t22 := Try.underlying28
  a22 := Try.isAgg28
  z22 := Try.sizeOf28
  v22 := Try.zeroValue28 }

/-- Records that stand in a row of one's own; what their numbers lead to stood there in the world w0. -/
def RecRow (w0 w : World) (base : Nat) (v : Value) (l : List Rec) : Prop := OwnRow (k33.K w0) 33 4 w base v (l.map toS)
theorem RecRow.reads {w0 w : World} {base : Nat} {v : Value} {l : List Rec} (h : RecRow w0 w base v l) (hb : Below w0.heap.size w0 w) : ∃ A c, v = .slice A l.length c ∧ l.length ≤ c ∧ Kd.C k33 w A l.length (l.map toS) := by
  obtain ⟨A, c, hv, hl, hr⟩ := OwnRow.reads h
  rw [List.length_map] at hv hl hr
  exact ⟨A, c, hv, hl, ReadsRow.imp_ hr (Below.refl _ _) (fun _ _ hk => k33.K_below hb hk)⟩
theorem one_cells {w : World} {x : S33} {cs : List Value} (h : k33.K w x cs) : ∀ u ∈ cs, u.oneCell' = true := k33.K_one h
theorem Reps.all {α : Type} {R : α → List Value → Prop} {s : Nat} {P : Value → Prop} (hP : ∀ p c, R p c → ∀ u ∈ c, P u) : ∀ {ps : List α} {cs : List Value}, Reps R s ps cs → ∀ u ∈ cs, P u
  | [], cs, h, u, hu => by have := h.1; simp at this; subst this; cases hu
  | p :: ps, cs, h, u, hu => by
    obtain ⟨ca, cb, rfl, h1, h2⟩ := Reps.split (a := [p]) (b := ps) h
    rcases List.mem_append.1 hu with hu | hu
    · exact hP _ _ (Reps.single h1).1 u hu
    · exact Reps.all hP h2 u hu

theorem clone_ (w0 w : World) (A : Option Addr) (c : Nat) (l : List Rec) (base : Nat) (h : RecRow w0 w base (.slice A l.length c) l) (hn : 0 < l.length) (hl : l.length ≤ 1000000) :
    Calls Try.prog 96 #[.slice A l.length c] w fun e w' => ∃ v, e = .returned v ∧ RecRow w0 w' w.heap.size v l ∧ Below w.heap.size w w' := by
  obtain ⟨i0, hi, hz0, hz1, hz2⟩ := info_parts recinfo
  obtain ⟨inner, hown, hreps⟩ := h
  rw [List.length_map] at hown
  obtain ⟨g, cap, hv, hg, _⟩ := Row.some_ (w := w) (owns_less hown (Nat.zero_le _)) hn
  obtain ⟨rfl, rfl⟩ : A = some ⟨g, 0, none⟩ ∧ c = cap := by injection hv with h1 _ h2; exact ⟨h1, h2⟩
  refine (AnyE.slices_Clone cl_lays i0 (.agg #[.int .i64 0, .int .i64 0, .int .i64 0, .slice none 0 0]) 4 48 hi hz0 hz1 hz2 rfl (by decide) Try.sizeOf33 g 0 l.length c inner w (by rw [hown.1]) (by unfold maxLen; omega) (by omega) ?_ (Reps.all (fun _ _ => one_cells) hreps)).mono ?_
  · intro j u hu
    rw [Nat.zero_add]
    exact Row.cell (w := w) (owns_less hown (Nat.zero_le _)) hu
  · rintro e w' ⟨v, rfl, ho, _, hb⟩
    exact ⟨v, rfl, ⟨inner, by rw [List.length_map]; exact ho, hreps⟩, hb⟩
end Go.Proofs.Ytdapjfnpnmejnaa
