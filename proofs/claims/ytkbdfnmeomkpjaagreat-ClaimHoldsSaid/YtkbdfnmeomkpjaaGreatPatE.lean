/- Texts sorted, and a set's texts, by the reference; no condition but the sizes. -/
import Derived.Test.YtkbdfnmeomkpjaaGreatPatD
namespace Go.Proofs.YtkbdfnmeomkpjaaGreat
open Go.RowKit
set_option linter.unusedVariables false
set_option linter.unusedSimpArgs false
set_option maxRecDepth 100000

/-- A row of texts of one's own. -/
structure Txts (w0 wr : World) (v : Value) (acc : List ByteArray) : Prop where
  row : Row wr 9 1 v acc.length (acc.map Value.string)
  own : ∀ b, v.ownBlock = some b → w0.heap.size ≤ b
  pure : Pure' w0 wr
theorem Txts.dn {w0 wr : World} {v : Value} {acc : List ByteArray} (h : Txts w0 wr v acc) (q : Nat) : Txts w0 (wr.drewN q) v acc := ⟨h.row.drewN q, h.own, h.pure.drewN q⟩
theorem txts_new (w0 wr : World) (h : Pure' w0 wr) : Txts w0 (wr.alloc (.cells #[] 9)) (.slice (some ⟨wr.heap.size, 0, none⟩) 0 0) [] :=
  ⟨⟨rfl, .inr ⟨wr.heap.size, 0, #[], rfl, Nat.zero_le _, Blk.new wr _ #[], Nat.le_refl _, Nat.zero_le _, rfl, rfl⟩⟩, fun b hb => by simp [Value.ownBlock] at hb; have := h.size; omega, h.alloc _⟩
theorem alloc_size (w : World) (o : Obj) : (w.alloc o).heap.size = w.heap.size + 1 := by show (w.heap.push o).size = _; exact Array.size_push _
theorem wpl_append' {P : Program} (w : World) {ops : Array Oper} {rest : List Oper} {o : Oper} {a : Act} {Q : Exit → Act → World → Prop} (hgd : o.guard = none) (s x : Operand) (t : TypeId)
    (ho : o.op = .call { callee := .builtin .append, args := #[s, x], argTypes := #[t, t] })
    (e : TypeId) (i : TypeInfo) (z : Value) (size bytes : Nat) (ht : P.underlying t = some (.slice e)) (hi : P.info? e = some i) (hz : i.zero = some z)
    (hsize : i.size = size) (hby : i.bytes = bytes) (hzs : z.cells.size = size) (hsz : 0 < size)
    (v : Value) (n : Nat) (xs : List Value) (hs : a.eval s = v) (hown : Row w e size v n xs)
    (ad : Addr) (m c : Nat) (news : List Value) (hx : a.eval x = .slice (some ad) m c) (hl : news.length = m * size) (hnews : ∀ j u, news[j]? = some u → w.cell? (ad.add j) = some u) (h1 : ∀ u ∈ news, u.oneCell' = true)
    (hm : 0 < n + m) (h63 : n + m ≤ maxLen) (hbytes : (n + m) * bytes ≤ 140737488355328)
    (h : ∀ g cap w', Row w' e size (.slice (some ⟨g, 0, none⟩) (n + m) cap) (n + m) (xs ++ news) → w.grownBy w' v.ownBlock → (v.ownBlock = some g ∨ g = w.heap.size) → g < w'.heap.size →
      wpList P ops Q rest (a.put o.dst (.slice (some ⟨g, 0, none⟩) (n + m) cap)) w') : wpList P ops Q (o :: rest) a w := by
  refine wpList_plain hgd fun K hK => ?_
  obtain ⟨v', w', hrun, h2, h3, _, h5⟩ := run_append_own_at (P := P) w 0 t o.type e i z size bytes ht hi hz hsize hby hzs hsz v n xs hown ad m c news hl hnews h1 h63 hbytes (Nat.zero_le _)
  obtain ⟨g, cap, rfl, hg, _⟩ := Row.some_ h2 (by omega)
  unfold Oper.wp execOp
  simp only [ho, resolve, invoke, builtin, Sem.run_bind, Sem.run_pure, Result.andThen_ok, List.map_toArray, List.map_cons, List.map_nil, hs, hx, hrun]
  refine hK _ _ (h g cap w' h2 h3 ?_ hg)
  rcases h5 with h5 | h5
  · exact .inl (by rw [← h5]; rfl)
  · exact .inr (by simpa [Value.ownBlock] using h5)
theorem news1' {W : World} {n : Nat} {v : Value} {t : TypeId} (h : n = W.heap.size) : ∀ (j : Nat) (x : Value), [v][j]? = some x → (W.alloc (.cells #[v] t)).cell? ((⟨n, 0, none⟩ : Addr).add j) = some x := by subst h; exact news1
theorem strings_one (l : List ByteArray) : ∀ u ∈ l.map Value.string, u.oneCell' = true := by
  intro u hu
  obtain ⟨x, _, rfl⟩ := List.mem_map.1 hu
  rfl

theorem Txts.alloc {w0 wr : World} {v : Value} {acc : List ByteArray} (h : Txts w0 wr v acc) (o : Obj) : Txts w0 (wr.alloc o) v acc := ⟨h.row.alloc o, h.own, h.pure.alloc o⟩
theorem Txts.cell {w0 wr : World} {g k cp i : Nat} {acc : List ByteArray} {u : Value} (h : Txts w0 wr (.slice (some ⟨g, 0, none⟩) k cp) acc) (hk : acc.length = k) (hu : (acc.map Value.string)[i]? = some u) : wr.cell? ⟨g, i, none⟩ = some u := by
  subst hk; exact h.row.cell hu
theorem Txts.app {w0 W w1 : World} {v : Value} {acc ns : List ByteArray} {b cap n : Nat} (h : Txts w0 W v acc) (hn : n = (acc ++ ns).length) (hr : Row w1 9 1 (.slice (some ⟨b, 0, none⟩) n cap) n (acc.map Value.string ++ ns.map Value.string)) (hg : W.grownBy w1 v.ownBlock) (hb : v.ownBlock = some b ∨ b = W.heap.size) : Txts w0 w1 (.slice (some ⟨b, 0, none⟩) (acc ++ ns).length cap) (acc ++ ns) := by
  subst hn
  refine ⟨by rw [List.map_append]; exact hr, fun b' hb' => ?_, h.pure.grown hg (fun k hk => .inr (h.own k hk))⟩
  simp [Value.ownBlock] at hb'
  subst hb'
  rcases hb with hb | hb
  · exact h.own _ hb
  · rw [hb]; exact h.pure.size
theorem Txts.other {w0 W w1 : World} {v v2 : Value} {acc : List ByteArray} (h : Txts w0 W v acc) (hg : W.grownBy w1 v2.ownBlock) (hne : ∀ b, v2.ownBlock = some b → v.ownBlock ≠ some b) (ho : ∀ b, v2.ownBlock = some b → w0.heap.size ≤ b) : Txts w0 w1 v acc :=
  ⟨h.row.keep (S := fun x => v2.ownBlock = some x) ((Keeps.refl (fun x => v2.ownBlock = some x) W).grown hg (fun k hk => .inl hk)) (fun b hb e => hne b e hb), h.own, h.pure.grown hg (fun k hk => .inr (ho k hk))⟩
theorem ins_perm {acc p : List ByteArray} {s : ByteArray} (j : Nat) (h : acc.Perm p) : (acc.take j ++ [s] ++ acc.drop j).Perm (p ++ [s]) := by
  have h1 : (acc.take j ++ [s] ++ acc.drop j).Perm (acc.take j ++ acc.drop j ++ [s]) := by
    rw [List.append_assoc, List.append_assoc]
    exact List.Perm.append_left _ List.perm_append_comm
  rw [List.take_append_drop] at h1
  exact h1.trans (h.append_right _)
theorem ins_ord {acc : List ByteArray} {s : ByteArray} {j : Nat} (h : InOrd acc) (hj : j ≤ acc.length) (h1 : ∀ (i : Nat) (t : ByteArray), j ≤ i → acc[i]? = some t → s.data.toList < t.data.toList) (h2 : ∀ t : ByteArray, 0 < j → acc[j - 1]? = some t → ¬ s.data.toList < t.data.toList) : InOrd (acc.take j ++ [s] ++ acc.drop j) := by
  unfold InOrd at h ⊢
  have hs : ∀ a ∈ acc.take j, ¬ s.data.toList < a.data.toList := by
    intro a ha hlt
    obtain ⟨i, hi, rfl⟩ := List.mem_iff_getElem.1 ha
    have hij : i < j := by simp at hi; omega
    have hjl : j - 1 < acc.length := by omega
    have h3 := h2 _ (by omega) (List.getElem?_eq_getElem hjl)
    rw [List.getElem_take] at hlt
    rcases Nat.lt_or_ge i (j - 1) with h4 | h4
    · have h5 := (List.pairwise_iff_getElem.1 h) i (j - 1) (by omega) hjl h4
      rcases lt_tri (acc[i]'(by omega)).data.toList (acc[j - 1]).data.toList with e | e | e
      · exact h3 (lt_tr hlt e)
      · rw [e] at hlt; exact h3 hlt
      · exact h5 e
    · have e : i = j - 1 := by omega
      subst e
      exact h3 hlt
  have hd : ∀ b ∈ acc.drop j, s.data.toList < b.data.toList := by
    intro b hb
    obtain ⟨i, hi⟩ := List.mem_iff_getElem?.1 hb
    rw [List.getElem?_drop] at hi
    exact h1 _ b (Nat.le_add_right _ _) hi
  rw [List.pairwise_append]
  refine ⟨?_, h.sublist (List.drop_sublist _ _), ?_⟩
  · rw [List.pairwise_append]
    refine ⟨h.sublist (List.take_sublist _ _), by simp, fun a ha b hb => ?_⟩
    rw [List.mem_singleton] at hb
    subst hb
    exact hs a ha
  · intro a ha b hb
    rcases List.mem_append.1 ha with ha | ha
    · have h3 : (acc.take j ++ acc.drop j).Pairwise (fun a b => ¬ b.data.toList < a.data.toList) := by rw [List.take_append_drop]; exact h
      exact (List.pairwise_append.1 h3).2.2 a ha b hb
    · rw [List.mem_singleton] at ha
      subst ha
      exact lt_as (hd b hb)
theorem bless (a b : ByteArray) : Op.bytesLess a.toList b.toList = true ↔ a.data.toList < b.data.toList := by
  rw [Proofs.bytesLess_eq, ByteArray.toList_eq, ByteArray.toList_eq]; simp
def SortPost (l : List ByteArray) (w : World) (e : Ending) (w' : World) : Prop :=
  ∃ (A : Option Addr) (c : Nat) (l' : List ByteArray), e = .returned (.slice A l'.length c) ∧ (l'.Perm l ∧ InOrd l') ∧ Sees w' w'.heap.size 1 A l'.length (l'.map Value.string) ∧ Pure' w w'

set_option maxHeartbeats 2000000 in
theorem rsorted_ (A : Option Addr) (m c B : Nat) (l : List ByteArray) (w : World) (h : Sees w B 1 A m (l.map Value.string)) (hB : B ≤ w.heap.size) (hm : m ≤ 12) :
    Calls Tryz.prog 40 #[.slice A m c] w fun e w' => SortPost l w e w' := by
  have hll : l.length = m := by have := h.1; simpa using this
  obtain ⟨i0, hi, hz0, hz1, hz2⟩ := info_parts strInfo2
  have HS := Lib.hid h
  have HSX := Lib.hid (fun wx (hp : Pure' w wx) => h.pure hp hB)
  have HN := Lib.hid hll
  clear h hll
  go_enter Tryz.func40, Tryz.ntmps40
  go_wp2
  have HT0 := Lib.hid (txts_new w w (Keeps.refl _ w))
  go_loopw [3, 4] (fun v3 v4 wr => ∃ (k : Nat) (acc : List ByteArray) (g cp : Nat), k ≤ m ∧ v4 = .int .i64 k ∧ acc.length = k ∧ (acc.Perm (l.take k) ∧ InOrd acc) ∧ v3 = .slice (some ⟨g, 0, none⟩) k cp ∧ k ≤ cp ∧ Txts w wr (.slice (some ⟨g, 0, none⟩) k cp) acc) (fun _ v4 _ => m - (intOf v4).toNat)
  case atStart => exact ⟨0, [], _, 0, Nat.zero_le _, rfl, rfl, ⟨by simp, List.Pairwise.nil⟩, rfl, Nat.le_refl _, HT0.out⟩
  case round =>
    obtain ⟨k, acc, g, cp, hk, rfl, hal, hperm, rfl, hcp, htx⟩ := hrel
    have HP := Lib.hid hperm
    have HT := Lib.hid htx
    clear hperm htx
    by_cases hlt : k < m
    · obtain ⟨ad, s, rfl, hs, hc⟩ := text_at (HSX.out _ HT.out.pure) hlt
      have HSN := Lib.hid (take_snoc hs)
      have HCX : Hid (∀ wx, Pure' w wx → wx.cell? (ad.add k) = some (.string s)) := Lib.hid (fun wx hp => by
        obtain ⟨ad', e1, _, hcell⟩ := (HSX.out wx hp).2 (by omega)
        injection e1 with e1
        subst e1
        exact hcell k _ (by rw [List.getElem?_map, hs]; rfl))
      clear hs
      go_wp2
      go_loopw [5] (fun v5 wx => ∃ j : Nat, j ≤ k ∧ v5 = .int .i64 j ∧ RowKit.Hid (∀ (i : Nat) (t : ByteArray), j ≤ i → acc[i]? = some t → s.data.toList < t.data.toList) ∧ ∃ q, wx = wr.drewN q) (fun v5 _ => (intOf v5).toNat)
      case atStart => exact ⟨k, Nat.le_refl _, rfl, Lib.hid (fun i t hi ht => by have := (List.getElem?_eq_some_iff.1 ht).1; omega), 0, rfl⟩
      case round =>
        obtain ⟨j, hj, rfl, HSM, q, rfl⟩ := hrel
        have hgw : g < wr.heap.size := HT.out.row.lt g rfl
        have hwg : w.heap.size ≤ g := HT.out.own g rfl
        have hws : w.heap.size ≤ wr.heap.size := HT.out.pure.size
        by_cases hj0 : j = 0
        · subst hj0
          have HORD : Hid (InOrd (acc.take 0 ++ [s] ++ acc.drop 0)) := Lib.hid (ins_ord HP.out.2 (Nat.zero_le _) HSM.out (fun t h _ => absurd h (Nat.lt_irrefl 0)))
          have HN1 : Hid (∀ n, Txts w ((wr.drewN n).alloc (.cells #[] 9)) (.slice (some ⟨wr.heap.size, 0, none⟩) 0 0) []) := Lib.hid (fun n => txts_new w (wr.drewN n) (HT.out.pure.drewN n))
          have hcA : ∀ n, ((wr.drewN n).alloc (.cells #[] 9)).cell? (ad.add k) = some (.string s) := fun n => HCX.out _ (HN1.out n).pure
          go_wp2
          go_quiet (fail)
          go_wp2_with (at_builtin; refine wpl_append' _ rfl (.tmp 38) (.tmp 43) 22 rfl 9 i0 (.string ByteArray.empty) 1 16 Tryz.underlying22 hi hz0 hz1 hz2 rfl (by decide) (.slice (some ⟨wr.heap.size, 0, none⟩) 0 0) (0) ([]) rfl ?own ⟨_, 0, none⟩ (1) (1) ([.string s]) rfl rfl ?news ?one (by omega) ?b1 ?b2 ?k)
          case own => exact ((HN1.out _).alloc (.cells #[.string s] 9)).row
          case news => exact news1' (by rw [alloc_size]; rfl)
          case one => exact fun u hu => by simp at hu; subst hu; rfl
          case b1 => unfold maxLen; omega
          case b2 => omega
          case k =>
            intro b2 cap2 w2 ho2 hg2 hb2 hl2
            have HN2 : Hid (Txts w w2 (.slice (some ⟨b2, 0, none⟩) 1 cap2) ([] ++ [s])) := Lib.hid (Txts.app (acc := []) (ns := [s]) (n := 0 + 1) ((HN1.out _).alloc (.cells #[.string s] 9)) rfl (by simpa using ho2) hg2 (hb2.imp id (fun e => by rw [e, alloc_size, alloc_size]; rfl)))
            have HO2 : Hid (Txts w w2 (.slice (some ⟨g, 0, none⟩) k cp) acc) := Lib.hid (Txts.other (v2 := .slice (some ⟨wr.heap.size, 0, none⟩) 0 0) (((HT.out.dn _).alloc _).alloc _) hg2 (fun b hb => by simp [Value.ownBlock] at hb ⊢; omega) (fun b hb => by simp [Value.ownBlock] at hb; omega))
            clear ho2 hg2 hb2
            by_cases hjk : k = 0
            · by_cases hcj : cp = 0
              · have HX := trivial
                go_wp2_with (at_builtin; refine wpl_append' _ rfl (.tmp 45) (.tmp 48) 22 rfl 9 i0 (.string ByteArray.empty) 1 16 Tryz.underlying22 hi hz0 hz1 hz2 rfl (by decide) (.slice (some ⟨b2, 0, none⟩) (1) cap2) (1) (([] ++ [s]).map Value.string) rfl ?own ⟨g, 0, none⟩ (0) (0) ([]) rfl ?hl ?news ?one (by omega) ?b1 ?b2 ?k)
                case own => exact HN2.out.row
                case hl => simp <;> omega
                case news => intro i u hu; simp at hu
                case one => intro u hu; simp at hu
                case b1 => unfold maxLen; omega
                case b2 => omega
                case k =>
                  intro b3 cap3 w3 ho3 hg3 hb3 hl3
                  have HN3 : Hid (Txts w w3 (.slice (some ⟨b3, 0, none⟩) ([] ++ [s] ++ ([])).length cap3) ([] ++ [s] ++ ([]))) := Lib.hid (Txts.app (n := 1 + (0)) HN2.out (by simp <;> omega) (by simpa using ho3) (by simpa [show min 0 acc.length = 0 by omega] using hg3) (by simpa [show min 0 acc.length = 0 by omega] using hb3))
                  have HC3 : k + 1 ≤ cap3 := by
                    have HX := HN3.out.row.form
                    have HL : ([] ++ [s] ++ ([])).length = k + 1 := by simp; omega
                    rw [HL] at HX
                    obtain ⟨_, _, e, h⟩ := HX
                    injection e with _ e2 e3
                    omega
                  have HLN : ([] ++ [s] ++ ([])).length = k + 1 := by simp; omega
                  have HPM : Hid (([] ++ [s] ++ ([])).Perm (l.take (k + 1)) ∧ InOrd ([] ++ [s] ++ ([]))) := Lib.hid ⟨by rw [HSN.out]; exact by have := ins_perm (s := s) 0 HP.out.1; rw [List.drop_eq_nil_of_le (show acc.length ≤ 0 by omega)] at this; simpa using this, by unfold InOrd; simp⟩
                  rw [HLN] at HN3
                  clear ho3 hg3 hb3
                  go_wp2
                  go_roundw
                  case rel => exact ⟨k + 1, [] ++ [s] ++ ([]), b3, cap3, by omega, by go_num, HLN, HPM.out, by first | rfl | (simp; omega), HC3, HN3.out⟩
                  case measure => simp [intOf] <;> omega
              · have hcj2 : 0 < cp := by omega
                go_wp2_with (at_builtin; refine wpl_append' _ rfl (.tmp 45) (.tmp 48) 22 rfl 9 i0 (.string ByteArray.empty) 1 16 Tryz.underlying22 hi hz0 hz1 hz2 rfl (by decide) (.slice (some ⟨b2, 0, none⟩) (1) cap2) (1) (([] ++ [s]).map Value.string) rfl ?own ⟨g, 0, none⟩ (0) (cp) ([]) rfl ?hl ?news ?one (by omega) ?b1 ?b2 ?k)
                case own => exact HN2.out.row
                case hl => simp <;> omega
                case news => intro i u hu; simp at hu
                case one => intro u hu; simp at hu
                case b1 => unfold maxLen; omega
                case b2 => omega
                case k =>
                  intro b3 cap3 w3 ho3 hg3 hb3 hl3
                  have HN3 : Hid (Txts w w3 (.slice (some ⟨b3, 0, none⟩) ([] ++ [s] ++ ([])).length cap3) ([] ++ [s] ++ ([]))) := Lib.hid (Txts.app (n := 1 + (0)) HN2.out (by simp <;> omega) (by simpa using ho3) (by simpa [show min 0 acc.length = 0 by omega] using hg3) (by simpa [show min 0 acc.length = 0 by omega] using hb3))
                  have HC3 : k + 1 ≤ cap3 := by
                    have HX := HN3.out.row.form
                    have HL : ([] ++ [s] ++ ([])).length = k + 1 := by simp; omega
                    rw [HL] at HX
                    obtain ⟨_, _, e, h⟩ := HX
                    injection e with _ e2 e3
                    omega
                  have HLN : ([] ++ [s] ++ ([])).length = k + 1 := by simp; omega
                  have HPM : Hid (([] ++ [s] ++ ([])).Perm (l.take (k + 1)) ∧ InOrd ([] ++ [s] ++ ([]))) := Lib.hid ⟨by rw [HSN.out]; exact by have := ins_perm (s := s) 0 HP.out.1; rw [List.drop_eq_nil_of_le (show acc.length ≤ 0 by omega)] at this; simpa using this, by unfold InOrd; simp⟩
                  rw [HLN] at HN3
                  clear ho3 hg3 hb3
                  go_wp2
                  go_roundw
                  case rel => exact ⟨k + 1, [] ++ [s] ++ ([]), b3, cap3, by omega, by go_num, HLN, HPM.out, by first | rfl | (simp; omega), HC3, HN3.out⟩
                  case measure => simp [intOf] <;> omega
            · have hj2 : 0 < k := by omega
              have HTC2 : Hid (∀ i u, (acc.map Value.string)[i]? = some u → w2.cell? ⟨g, i, none⟩ = some u) := Lib.hid (fun i u hu => HO2.out.cell hal hu)
              go_wp2_with (at_builtin; refine wpl_append' _ rfl (.tmp 45) (.tmp 48) 22 rfl 9 i0 (.string ByteArray.empty) 1 16 Tryz.underlying22 hi hz0 hz1 hz2 rfl (by decide) (.slice (some ⟨b2, 0, none⟩) (1) cap2) (1) (([] ++ [s]).map Value.string) rfl ?own ⟨g, 0, none⟩ (k) (cp) (acc.map Value.string) rfl ?hl ?news ?one (by omega) ?b1 ?b2 ?k)
              case own => exact HN2.out.row
              case hl => simp <;> omega
              case news =>
                intro i u hu
                rw [show (⟨g, 0, none⟩ : Addr).add i = ⟨g, i, none⟩ from by unfold Addr.add; split <;> simp_all]
                exact HTC2.out _ u hu
              case one => exact strings_one _
              case b1 => unfold maxLen; omega
              case b2 => omega
              case k =>
                intro b3 cap3 w3 ho3 hg3 hb3 hl3
                have HN3 : Hid (Txts w w3 (.slice (some ⟨b3, 0, none⟩) ([] ++ [s] ++ (acc)).length cap3) ([] ++ [s] ++ (acc))) := Lib.hid (Txts.app (n := 1 + (k)) HN2.out (by simp <;> omega) (by simpa using ho3) (by simpa [show min 0 acc.length = 0 by omega] using hg3) (by simpa [show min 0 acc.length = 0 by omega] using hb3))
                have HC3 : k + 1 ≤ cap3 := by
                  have HX := HN3.out.row.form
                  have HL : ([] ++ [s] ++ (acc)).length = k + 1 := by simp; omega
                  rw [HL] at HX
                  obtain ⟨_, _, e, h⟩ := HX
                  injection e with _ e2 e3
                  omega
                have HLN : ([] ++ [s] ++ (acc)).length = k + 1 := by simp; omega
                have HPM : Hid (([] ++ [s] ++ (acc)).Perm (l.take (k + 1)) ∧ InOrd ([] ++ [s] ++ (acc))) := Lib.hid ⟨by rw [HSN.out]; exact by have := ins_perm (s := s) 0 HP.out.1; simpa using this, by simpa using HORD.out⟩
                rw [HLN] at HN3
                clear ho3 hg3 hb3
                go_wp2
                go_roundw
                case rel => exact ⟨k + 1, [] ++ [s] ++ (acc), b3, cap3, by omega, by go_num, HLN, HPM.out, by first | rfl | (simp; omega), HC3, HN3.out⟩
                case measure => simp [intOf] <;> omega
        · have hj1 : 0 < j := by omega
          obtain ⟨t, ht, hct⟩ := Row.at_ (show Row wr 9 1 (.slice (some ⟨g, 0, none⟩) k cp) k (acc.map Value.string) by have := HT.out.row; rwa [hal] at this) (i := j - 1) (by omega)
          obtain ⟨t', rfl⟩ : ∃ t', t = .string t' := by
            rw [List.getElem?_map] at ht
            cases hx : acc[j - 1]? with
            | none => rw [hx] at ht; cases ht
            | some x => rw [hx] at ht; simp at ht; exact ⟨x, ht.symm⟩
          have HTJ := Lib.hid (show acc[j - 1]? = some t' by
            rw [List.getElem?_map] at ht
            cases hx : acc[j - 1]? with
            | none => rw [hx] at ht; cases ht
            | some x => rw [hx] at ht; simp at ht; rw [ht])
          clear ht hj0
          cases hbl : Op.bytesLess s.toList t'.toList with
          | true =>
            have HBL := Lib.hid ((bless s t').1 hbl)
            go_wp2
            go_quiet (fail)
            go_wp2
            go_roundw
            case rel =>
              refine ⟨j - 1, by omega, by go_num, Lib.hid (fun i t hi ht => ?_), _, rfl⟩
              rcases Nat.lt_or_ge i j with h4 | h4
              · have e : i = j - 1 := by omega
                subst e
                rw [HTJ.out] at ht
                cases ht
                exact HBL.out
              · exact HSM.out i t h4 ht
            case measure => simp [intOf] <;> omega
          | false =>
            have HBL := Lib.hid (show ¬ s.data.toList < t'.data.toList from fun h => by rw [(bless s t').2 h] at hbl; cases hbl)
            have HORD : Hid (InOrd (acc.take j ++ [s] ++ acc.drop j)) := Lib.hid (ins_ord HP.out.2 (by omega) HSM.out (fun t _ ht => by rw [HTJ.out] at ht; cases ht; exact HBL.out))
            have HTC : Hid (∀ n i u, i < j → (acc.map Value.string)[i]? = some u → ((wr.drewN n).alloc (.cells #[] 9)).cell? ⟨g, i, none⟩ = some u) := Lib.hid (fun n i u _ hu => ((HT.out.dn n).alloc _).cell hal hu)
            go_wp2
            go_quiet (fail)
            go_wp2_with (at_builtin; refine wpl_append _ rfl (.tmp 33) (.tmp 36) 22 rfl 9 i0 (.string ByteArray.empty) 1 16 Tryz.underlying22 hi hz0 hz1 hz2 rfl (by decide) (.slice (some ⟨wr.heap.size, 0, none⟩) 0 0) 0 [] rfl ?own ⟨g, 0, none⟩ j cp ((acc.take j).map Value.string) rfl ?hl ?news ?one (by omega) ?b1 ?b2 ?k)
            case own => exact (txts_new w _ (HT.out.pure.drewN _)).row
            case hl => simp; omega
            case news =>
              intro i u hu
              rw [List.map_take, List.getElem?_take] at hu
              split at hu
              · rw [show (⟨g, 0, none⟩ : Addr).add i = ⟨g, i, none⟩ from by unfold Addr.add; split <;> simp_all]
                exact HTC.out _ i u (by assumption) hu
              · cases hu
            case one => exact strings_one _
            case b1 => unfold maxLen; omega
            case b2 => omega
            case k =>
              intro b1 cap1 w1 ho1 hg1 hb1 hl1
              have HN1 : Hid (Txts w w1 (.slice (some ⟨b1, 0, none⟩) ([] ++ acc.take j).length cap1) ([] ++ acc.take j)) := Lib.hid (Txts.app (n := 0 + j) (txts_new w _ (HT.out.pure.drewN _)) (by simp; omega) (by simpa using ho1) hg1 (hb1.imp id (fun e => by rw [e, alloc_size]; rfl)))
              have HO1 : Hid (Txts w w1 (.slice (some ⟨g, 0, none⟩) k cp) acc) := Lib.hid (Txts.other (v2 := .slice (some ⟨wr.heap.size, 0, none⟩) 0 0) ((HT.out.dn _).alloc _) hg1 (fun b hb => by simp [Value.ownBlock] at hb ⊢; omega) (fun b hb => by simp [Value.ownBlock] at hb; omega))
              have hb1g : b1 ≠ g := by
                rcases hb1 with h | h
                · simp [Value.ownBlock] at h; omega
                · omega
              have hc1 := HCX.out w1 HN1.out.pure
              have HBG := Lib.hid hb1g
              clear ho1 hg1 hb1
              go_wp2_with (at_builtin; refine wpl_append' _ rfl (.tmp 38) (.tmp 43) 22 rfl 9 i0 (.string ByteArray.empty) 1 16 Tryz.underlying22 hi hz0 hz1 hz2 rfl (by decide) (.slice (some ⟨b1, 0, none⟩) j cap1) (j) ((acc.take j).map Value.string) rfl ?own ⟨w1.heap.size, 0, none⟩ (1) (1) ([.string s]) rfl rfl ?news ?one (by omega) ?b1 ?b2 ?k)
              case own =>
                have := (HN1.out.alloc (.cells #[.string s] 9)).row
                simpa [show min j acc.length = j by omega] using this
              case news => exact news1
              case one => exact fun u hu => by simp at hu; subst hu; rfl
              case b1 => unfold maxLen; omega
              case b2 => omega
              case k =>
                intro b2 cap2 w2 ho2 hg2 hb2 hl2
                have HN2 : Hid (Txts w w2 (.slice (some ⟨b2, 0, none⟩) (acc.take j ++ [s]).length cap2) (acc.take j ++ [s])) := Lib.hid (Txts.app (n := j + 1) (HN1.out.alloc (.cells #[.string s] 9)) (by simp; omega) (by simpa using ho2) (by simpa [show min j acc.length = j by omega] using hg2) (by simpa [show min j acc.length = j by omega] using hb2))
                have HO2 : Hid (Txts w w2 (.slice (some ⟨g, 0, none⟩) k cp) acc) := Lib.hid (Txts.other (v2 := .slice (some ⟨b1, 0, none⟩) j cap1) (HO1.out.alloc _) hg2 (fun b hb => by simp [Value.ownBlock] at hb ⊢; subst hb; exact fun e => HBG.out e.symm) (fun b hb => HN1.out.own b (by simpa [Value.ownBlock] using hb)))
                have hb2g : b2 ≠ g := by
                  have h1 := HBG.out
                  have h2 := HO1.out.row.lt g rfl
                  rcases hb2 with h | h
                  · simp [Value.ownBlock] at h; omega
                  · have : (w1.alloc (.cells #[.string s] 9)).heap.size = w1.heap.size + 1 := alloc_size _ _
                    omega
                clear ho2 hg2 hb2
                by_cases hjk : k = j
                · by_cases hcj : cp = j
                  · have HX := trivial
                    go_wp2_with (at_builtin; refine wpl_append' _ rfl (.tmp 45) (.tmp 48) 22 rfl 9 i0 (.string ByteArray.empty) 1 16 Tryz.underlying22 hi hz0 hz1 hz2 rfl (by decide) (.slice (some ⟨b2, 0, none⟩) (j + 1) cap2) (j + 1) ((acc.take j ++ [s]).map Value.string) rfl ?own ⟨g, 0, none⟩ (0) (0) ([]) rfl ?hl ?news ?one (by omega) ?b1 ?b2 ?k)
                    case own => have := HN2.out.row; simpa [show min j acc.length = j by omega] using this
                    case hl => simp <;> omega
                    case news => intro i u hu; simp at hu
                    case one => intro u hu; simp at hu
                    case b1 => unfold maxLen; omega
                    case b2 => omega
                    case k =>
                      intro b3 cap3 w3 ho3 hg3 hb3 hl3
                      have HN3 : Hid (Txts w w3 (.slice (some ⟨b3, 0, none⟩) (acc.take j ++ [s] ++ ([])).length cap3) (acc.take j ++ [s] ++ ([]))) := Lib.hid (Txts.app (n := j + 1 + (0)) HN2.out (by simp <;> omega) (by simpa using ho3) (by simpa [show min j acc.length = j by omega] using hg3) (by simpa [show min j acc.length = j by omega] using hb3))
                      have HC3 : k + 1 ≤ cap3 := by
                        have HX := HN3.out.row.form
                        have HL : (acc.take j ++ [s] ++ ([])).length = k + 1 := by simp; omega
                        rw [HL] at HX
                        obtain ⟨_, _, e, h⟩ := HX
                        injection e with _ e2 e3
                        omega
                      have HLN : (acc.take j ++ [s] ++ ([])).length = k + 1 := by simp; omega
                      have HPM : Hid ((acc.take j ++ [s] ++ ([])).Perm (l.take (k + 1)) ∧ InOrd (acc.take j ++ [s] ++ ([]))) := Lib.hid ⟨by rw [HSN.out]; exact by have := ins_perm (s := s) j HP.out.1; rwa [List.drop_eq_nil_of_le (show acc.length ≤ j by omega)] at this, by have := HORD.out; rwa [List.drop_eq_nil_of_le (show acc.length ≤ j by omega)] at this⟩
                      rw [HLN] at HN3
                      clear ho3 hg3 hb3
                      go_wp2
                      go_roundw
                      case rel => exact ⟨k + 1, acc.take j ++ [s] ++ ([]), b3, cap3, by omega, by go_num, HLN, HPM.out, by first | rfl | (simp; omega), HC3, HN3.out⟩
                      case measure => simp [intOf] <;> omega
                  · have hcj2 : j < cp := by omega
                    go_wp2_with (at_builtin; refine wpl_append' _ rfl (.tmp 45) (.tmp 48) 22 rfl 9 i0 (.string ByteArray.empty) 1 16 Tryz.underlying22 hi hz0 hz1 hz2 rfl (by decide) (.slice (some ⟨b2, 0, none⟩) (j + 1) cap2) (j + 1) ((acc.take j ++ [s]).map Value.string) rfl ?own ⟨g, j, none⟩ (0) (cp - j) ([]) rfl ?hl ?news ?one (by omega) ?b1 ?b2 ?k)
                    case own => have := HN2.out.row; simpa [show min j acc.length = j by omega] using this
                    case hl => simp <;> omega
                    case news => intro i u hu; simp at hu
                    case one => intro u hu; simp at hu
                    case b1 => unfold maxLen; omega
                    case b2 => omega
                    case k =>
                      intro b3 cap3 w3 ho3 hg3 hb3 hl3
                      have HN3 : Hid (Txts w w3 (.slice (some ⟨b3, 0, none⟩) (acc.take j ++ [s] ++ ([])).length cap3) (acc.take j ++ [s] ++ ([]))) := Lib.hid (Txts.app (n := j + 1 + (0)) HN2.out (by simp <;> omega) (by simpa using ho3) (by simpa [show min j acc.length = j by omega] using hg3) (by simpa [show min j acc.length = j by omega] using hb3))
                      have HC3 : k + 1 ≤ cap3 := by
                        have HX := HN3.out.row.form
                        have HL : (acc.take j ++ [s] ++ ([])).length = k + 1 := by simp; omega
                        rw [HL] at HX
                        obtain ⟨_, _, e, h⟩ := HX
                        injection e with _ e2 e3
                        omega
                      have HLN : (acc.take j ++ [s] ++ ([])).length = k + 1 := by simp; omega
                      have HPM : Hid ((acc.take j ++ [s] ++ ([])).Perm (l.take (k + 1)) ∧ InOrd (acc.take j ++ [s] ++ ([]))) := Lib.hid ⟨by rw [HSN.out]; exact by have := ins_perm (s := s) j HP.out.1; rwa [List.drop_eq_nil_of_le (show acc.length ≤ j by omega)] at this, by have := HORD.out; rwa [List.drop_eq_nil_of_le (show acc.length ≤ j by omega)] at this⟩
                      rw [HLN] at HN3
                      clear ho3 hg3 hb3
                      go_wp2
                      go_roundw
                      case rel => exact ⟨k + 1, acc.take j ++ [s] ++ ([]), b3, cap3, by omega, by go_num, HLN, HPM.out, by first | rfl | (simp; omega), HC3, HN3.out⟩
                      case measure => simp [intOf] <;> omega
                · have hj2 : j < k := by omega
                  have HTC2 : Hid (∀ i u, (acc.map Value.string)[i]? = some u → w2.cell? ⟨g, i, none⟩ = some u) := Lib.hid (fun i u hu => HO2.out.cell hal hu)
                  go_wp2_with (at_builtin; refine wpl_append' _ rfl (.tmp 45) (.tmp 48) 22 rfl 9 i0 (.string ByteArray.empty) 1 16 Tryz.underlying22 hi hz0 hz1 hz2 rfl (by decide) (.slice (some ⟨b2, 0, none⟩) (j + 1) cap2) (j + 1) ((acc.take j ++ [s]).map Value.string) rfl ?own ⟨g, j, none⟩ (k - j) (cp - j) ((acc.drop j).map Value.string) rfl ?hl ?news ?one (by omega) ?b1 ?b2 ?k)
                  case own => have := HN2.out.row; simpa [show min j acc.length = j by omega] using this
                  case hl => simp <;> omega
                  case news =>
                    intro i u hu
                    rw [List.map_drop, List.getElem?_drop] at hu
                    rw [show (⟨g, j, none⟩ : Addr).add i = ⟨g, j + i, none⟩ from by unfold Addr.add; split <;> simp_all]
                    exact HTC2.out _ u hu
                  case one => exact strings_one _
                  case b1 => unfold maxLen; omega
                  case b2 => omega
                  case k =>
                    intro b3 cap3 w3 ho3 hg3 hb3 hl3
                    have HN3 : Hid (Txts w w3 (.slice (some ⟨b3, 0, none⟩) (acc.take j ++ [s] ++ (acc.drop j)).length cap3) (acc.take j ++ [s] ++ (acc.drop j))) := Lib.hid (Txts.app (n := j + 1 + (k - j)) HN2.out (by simp <;> omega) (by simpa using ho3) (by simpa [show min j acc.length = j by omega] using hg3) (by simpa [show min j acc.length = j by omega] using hb3))
                    have HC3 : k + 1 ≤ cap3 := by
                      have HX := HN3.out.row.form
                      have HL : (acc.take j ++ [s] ++ (acc.drop j)).length = k + 1 := by simp; omega
                      rw [HL] at HX
                      obtain ⟨_, _, e, h⟩ := HX
                      injection e with _ e2 e3
                      omega
                    have HLN : (acc.take j ++ [s] ++ (acc.drop j)).length = k + 1 := by simp; omega
                    have HPM : Hid ((acc.take j ++ [s] ++ (acc.drop j)).Perm (l.take (k + 1)) ∧ InOrd (acc.take j ++ [s] ++ (acc.drop j))) := Lib.hid ⟨by rw [HSN.out]; exact ins_perm j HP.out.1, HORD.out⟩
                    rw [HLN] at HN3
                    clear ho3 hg3 hb3
                    go_wp2
                    go_roundw
                    case rel => exact ⟨k + 1, acc.take j ++ [s] ++ (acc.drop j), b3, cap3, by omega, by go_num, HLN, HPM.out, by first | rfl | (simp; omega), HC3, HN3.out⟩
                    case measure => simp [intOf] <;> omega
    · obtain rfl : k = m := by omega
      have hlk : l.take k = l := List.take_of_length_le (by rw [HN.out]; exact Nat.le_refl _)
      have HPL : Hid (acc.Perm l ∧ InOrd acc) := Lib.hid ⟨hlk ▸ HP.out.1, HP.out.2⟩
      clear hlk
      go_wp2
      go_ret
      subst hal
      exact ⟨_, _, acc, rfl, HPL.out, HT.out.row.sees, HT.out.pure⟩
end Go.Proofs.YtkbdfnmeomkpjaaGreat
