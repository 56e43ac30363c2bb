/- How the reference takes a line; no condition but the sizes. -/
import Derived.Test.YtjcjmjnajhkdaaaDoorScrF
import Derived.Test.YtjcjmjnajhkdaaaDoorEs
namespace Go.Proofs.YtjcjmjnajhkdaaaDoor
open Go.RowKit
set_option linter.unusedVariables false
set_option linter.unusedSimpArgs false
set_option maxRecDepth 100000

/-- What is appended came in from anywhere; none is appended, too. -/
theorem wpl_appendS {P : Program} (w : World) {ops : Array Oper} {rest : List Oper} {o : Oper} {a : Act} {Q : Exit → Act → World → Prop} (hgd : o.guard = none) (s x : Operand) (t : TypeId)
    (ho : o.op = .call { callee := .builtin .append, args := #[s, x], argTypes := #[t, t] })
    (e : TypeId) (i : TypeInfo) (z : Value) (size bytes : Nat) (ht : P.underlying t = some (.slice e)) (hi : P.info? e = some i) (hz : i.zero = some z)
    (hsize : i.size = size) (hby : i.bytes = bytes) (hzs : z.cells.size = size) (hsz : 0 < size)
    (v : Value) (n : Nat) (xs : List Value) (hs : a.eval s = v) (hown : Row w e size v n xs)
    (A : Option Addr) (m c B : Nat) (news : List Value) (hx : a.eval x = .slice A m c) (hsee : Sees w B size A m news) (h1 : ∀ u ∈ news, u.oneCell' = true)
    (h63 : n + m ≤ maxLen) (hbytes : (n + m) * bytes ≤ 140737488355328)
    (h : ∀ v' w', Row w' e size v' (n + m) (xs ++ news) → w.grownBy w' v.ownBlock → (v'.ownBlock = v.ownBlock ∨ v'.ownBlock = some w.heap.size) →
      wpList P ops Q rest (a.put o.dst v') w') : wpList P ops Q (o :: rest) a w := by
  refine wpList_plain hgd fun K hK => ?_
  have key : ∃ v' w', (Builtin.append_ #[t, t] o.type #[v, .slice A m c]).run P w = .ok v' w' ∧ Row w' e size v' (n + m) (xs ++ news) ∧ w.grownBy w' v.ownBlock ∧ (v'.ownBlock = v.ownBlock ∨ v'.ownBlock = some w.heap.size) := by
    cases A with
    | some ad =>
      have hnews : ∀ j u, news[j]? = some u → w.cell? (ad.add j) = some u := by
        intro j u hu
        rcases Nat.eq_zero_or_pos m with hm | hm
        · have := hsee.1; rw [hm, Nat.zero_mul] at this
          rw [List.eq_nil_of_length_eq_zero this] at hu; simp at hu
        · obtain ⟨ad', e', _, hc⟩ := hsee.2 hm
          cases e'
          exact hc j u hu
      obtain ⟨v', w', hrun, h2, h3, _, h5⟩ := run_append_own_at (P := P) w 0 t o.type e i z size bytes ht hi hz hsize hby hzs hsz v n xs hown ad m c news hsee.1 hnews h1 h63 hbytes (Nat.zero_le _)
      exact ⟨v', w', hrun, h2, h3, h5⟩
    | none =>
      have hm : m = 0 := by
        rcases Nat.eq_zero_or_pos m with hm | hm
        · exact hm
        · obtain ⟨ad', e', _⟩ := hsee.2 hm; cases e'
      subst hm
      have hn : news = [] := List.eq_nil_of_length_eq_zero (by have := hsee.1; rwa [Nat.zero_mul] at this)
      subst hn
      refine ⟨v, w, ?_, by simpa using hown, ⟨rfl, rfl, rfl, Nat.le_refl _, fun _ _ _ => rfl⟩, .inl rfl⟩
      rcases hown.2 with ⟨rfl, rfl⟩ | ⟨g, cap, cur, rfl, _, _, hnc, _⟩
      · simp [Builtin.append_, run_underlying ht, sizeOf, typeInfo, hi, Builtin.lenOf, Builtin.firstCells]
      · simp [Builtin.append_, run_underlying ht, sizeOf, typeInfo, hi, Builtin.lenOf, Builtin.firstCells, hnc, storeCells]
  obtain ⟨v', w', hrun, h2, h3, h5⟩ := key
  unfold Oper.wp execOp
  simp only [ho, resolve, invoke, builtin, Sem.run_bind, Sem.run_pure, Result.andThen_ok, List.map_toArray, List.map_cons, List.map_nil, hs, hx, hrun]
  exact hK _ _ (h v' w' h2 h3 h5)

/-- The walk stands at this operation. -/
theorem at_op {P : Program} {ops : Array Oper} {Q : Exit → Act → World → Prop} {rest : List Oper} {a : Act} {w : World} (o : Oper) (h : wpList P ops Q (o :: rest) a w) : wpList P ops Q (o :: rest) a w := h
theorem strVs_one (l : List (List UInt8)) : ∀ u ∈ strVs l, u.oneCell' = true := by
  intro u hu
  simp [strVs] at hu
  obtain ⟨x, _, rfl⟩ := hu
  rfl
theorem edVs_one (l : List (Int × Int × Int)) : ∀ u ∈ edVs l, u.oneCell' = true := by
  intro u hu
  unfold edVs at hu
  obtain ⟨e, _, he⟩ := List.mem_flatMap.1 hu
  simp at he
  rcases he with rfl | rfl | rfl <;> rfl

/-- What a line leaves of the reference's script. -/
def vBlk : Value → Option Nat
  | .slice (some ad) _ _ => some ad.block
  | _ => none
/-- The rows lie from F on. -/
def ScF (F : Nat) (v0 v1 v5 v6 : Value) : Prop := ∀ k, (vBlk v0 = some k ∨ vBlk v1 = some k ∨ vBlk v5 = some k ∨ vBlk v6 = some k) → F ≤ k
def RLine (v0 v1 v5 v6 : Value) (o : Option (Sc × Bool × Bool)) (w : World) (e : Ending) (w' : World) : Prop :=
  Pure' w w' ∧ ∃ a0 n0 c0 a1 n1 c1 a5 n5 c5 a6 n6 c6 s', e = .returned (.tuple #[scV (.slice a0 n0 c0) (.slice a1 n1 c1) (.slice a5 n5 c5) (.slice a6 n6 c6) s', .bool o.isSome]) ∧
    ∀ r, o = some r → r.1 = s' ∧ ScR w' (.slice a0 n0 c0) (.slice a1 n1 c1) (.slice a5 n5 c5) (.slice a6 n6 c6) s' ∧
      ∀ F, F ≤ w.heap.size → ScF F v0 v1 v5 v6 → ScF F (.slice a0 n0 c0) (.slice a1 n1 c1) (.slice a5 n5 c5) (.slice a6 n6 c6)

theorem rline_end {R : Ending → World → Prop} {a : Act} {H : Nat} {X : World} {cs : Array Value} {b : Value} (h8 : a.tmps.getD 8 undef = .pointer (some ⟨H, 0, none⟩)) (h9 : a.tmps.getD 9 undef = b) (hd : a.defers = []) (hb : Blk X H 35 cs) (hcs : cs.size = 7)
    (hR : R (.returned (.tuple #[.agg cs, b])) X) : bodyPost Tryd.prog Tryd.f22 R .ret a X := by
  refine bodyPost_ret (v := .tuple #[.agg cs, b]) ?_ hd hR
  rw [results_cell_tmp (fn := Tryd.f22) (p := 8) (u := 9) (ty := 35) rfl]
  rw [h8]
  simp only [asAddr, Sem.run_pure, Result.andThen_ok]
  rw [run_loadVar_row X H 35 35 cs (0, 0) _ hb Tryd.underlying35 rfl (by rw [hcs]; kernel_rfl)]
  simp only [Result.andThen_ok]
  rw [h9]

/-- The two variables of a call: the script that came, and the one that goes. -/
structure RV (w : World) (v0 v1 v5 v6 : Value) (s : Sc) (W : World) : Prop where
  b0 : Blk W w.heap.size 35 #[v0, v1, .int .i64 s.table, .bool s.skip, .int .i64 s.every, v5, v6]
  b1 : Blk W (w.heap.size + 1) 35 #[.slice none 0 0, .slice none 0 0, .int .i64 0, .bool false, .int .i64 0, .slice none 0 0, .slice none 0 0]
  low : Pure' w W
theorem RV.start (w : World) (v0 v1 v5 v6 : Value) (s : Sc) : RV w v0 v1 v5 v6 s ((w.alloc (.cells #[v0, v1, .int .i64 s.table, .bool s.skip, .int .i64 s.every, v5, v6] 35)).alloc (.cells #[.slice none 0 0, .slice none 0 0, .int .i64 0, .bool false, .int .i64 0, .slice none 0 0, .slice none 0 0] 35)) := by
  refine ⟨?_, ?_, ?_⟩
  · exact (Blk.newAt (w := w) rfl).alloc _
  · exact Blk.newAt (w := w.alloc _) (by simp)
  · exact ((Keeps.refl _ w).alloc _).alloc _
theorem RV.pure {w W W' : World} {v0 v1 v5 v6 : Value} {s : Sc} (h : RV w v0 v1 v5 v6 s W) (hk : Pure' W W') : RV w v0 v1 v5 v6 s W' := ⟨h.b0.keep hk (fun hf => hf), h.b1.keep hk (fun hf => hf), h.low.then_ hk⟩
theorem RV.drew {w W : World} {v0 v1 v5 v6 : Value} {s : Sc} (h : RV w v0 v1 v5 v6 s W) : RV w v0 v1 v5 v6 s W.drew := ⟨h.b0.drew, h.b1.drew, h.low.drew⟩
theorem ScR.kept {w w' : World} {v0 v1 v5 v6 : Value} {s : Sc} (h : ScR w v0 v1 v5 v6 s) (hk : Pure' w w') : ScR w' v0 v1 v5 v6 s := h.pure hk
theorem Blk.setRow {w : World} {g : Nat} {t : TypeId} {cs : Array Value} (h : Blk w g t cs) (cs' : Array Value) : Blk (w.setRow g cs') g t cs' := setRow_heap w g cs cs' t (0, 0) h
theorem Blk.setRowOff {w : World} {g k : Nat} {t : TypeId} {cs : Array Value} (h : Blk w g t cs) (hne : g ≠ k) (cs' : Array Value) : Blk (w.setRow k cs') g t cs := (setRow_other w k g cs' hne).trans h
theorem Keeps.setRow {S : Nat → Prop} {w w1 : World} (h : Keeps S w w1) {k : Nat} (hk : S k ∨ w.heap.size ≤ k) (cs : Array Value) : Keeps S w (w1.setRow k cs) :=
  ⟨h.os, h.tape, h.output, by simpa using h.size, fun j hj hn => (setRow_other w1 k j cs (by
    rintro rfl
    rcases hk with hp | hp
    · exact hn hp
    · omega)).trans (h.block j hj hn)⟩
/-- From here the script that goes is what that one is which came, and was turned. -/
theorem RV.sets {w W : World} {v0 v1 v5 v6 : Value} {s : Sc} (h : RV w v0 v1 v5 v6 s W) (i : Nat) (u : Value) {cs : Array Value} (hc : #[v0, v1, .int .i64 s.table, .bool s.skip, .int .i64 s.every, v5, v6].setIfInBounds i u = cs) :
    Blk (W.setCell ⟨w.heap.size, i, none⟩ u) w.heap.size 35 cs ∧ Blk (W.setCell ⟨w.heap.size, i, none⟩ u) (w.heap.size + 1) 35 #[.slice none 0 0, .slice none 0 0, .int .i64 0, .bool false, .int .i64 0, .slice none 0 0, .slice none 0 0] ∧ Pure' w (W.setCell ⟨w.heap.size, i, none⟩ u) :=
  ⟨(h.b0.set_ i u).to hc, h.b1.off (by omega), h.low.setCell (p := ⟨w.heap.size, i, none⟩) (.inr (Nat.le_refl _)) u⟩
theorem Row.setRow {w : World} {e : TypeId} {size n k : Nat} {v : Value} {xs : List Value} (h : Row w e size v n xs) (hk : v.ownBlock ≠ some k) (cs : Array Value) : Row (w.setRow k cs) e size v n xs :=
  Row.keep (S := fun b => b = k) h (Keeps.setRow (S := fun b => b = k) (Keeps.refl _ w) (.inl rfl) cs) fun b hb hc => hk (by rw [hb, hc])

set_option maxHeartbeats 4000000 in
theorem rline_pat (s : Sc) (a0 a1 a5 a6 : Option Addr) (n0 n1 n5 n6 k0 k1 k5 k6 : Nat) (sc cc : Bool) (g c : Nat) (a2 : List UInt8) (w : World) (h : ScR w (.slice a0 n0 k0) (.slice a1 n1 k1) (.slice a5 n5 k5) (.slice a6 n6 k6) s)
    (c0 : w.cell? ⟨g, 0, none⟩ = some (.string ⟨#[112, 97, 116, 116, 101, 114, 110]⟩)) (c1 : w.cell? ⟨g, 1, none⟩ = some (.string ⟨a2.toArray⟩)) (hl : a2.length ≤ 100000) (hp : s.pats.length ≤ 100000) :
    Calls Tryd.prog 22 #[scV (.slice a0 n0 k0) (.slice a1 n1 k1) (.slice a5 n5 k5) (.slice a6 n6 k6) s, .slice (some ⟨g, 0, none⟩) 2 c, .bool sc, .bool cc] w fun e w' =>
      RLine (.slice a0 n0 k0) (.slice a1 n1 k1) (.slice a5 n5 k5) (.slice a6 n6 k6) ((unqL a2).map (fun x => ({ s with pats := s.pats ++ [x] }, sc, cc))) w e w' := by
  obtain ⟨i0, hi, hz0, hz1, hz2⟩ := info_parts strInfo
  obtain ⟨bq, eq, hq, hqq⟩ := unq_parts a2
  have hu := fun w => runquote_ a2 w hl
  rw [hq] at hu
  have HU := Lib.hid hu
  have HQ := Lib.hid hqq
  have HR := Lib.hid h
  obtain ⟨_, _, he, hsee⟩ := h.p0
  cases he
  have HSee := Lib.hid hsee
  have HC := Lib.hid (fun W (hW : Pure' w W) => keepc c0 hW)
  clear hu hq hqq h hsee
  unfold scV
  have HV := Lib.hid (RV.start w (.slice a0 s.pats.length k0) (.slice a1 n1 k1) (.slice a5 n5 k5) (.slice a6 n6 k6) s)
  have e0 := keepc c0 HV.out.low
  have e1 := keepc c1 HV.out.low
  clear c0 c1
  go_enter Tryd.func22, Tryd.ntmps22
  go_wp2_with (first
    | (go_at_call 46; refine (HU.out _).mono ?_; rintro e w1 ⟨rfl, hk⟩; have HV1 := Lib.hid (HV.out.pure hk); have d0 := HC.out w1 HV1.out.low; have x0 := HV1.out.b0.cell 0; have l0 := HV1.out.b0.lt; have l1 := HV1.out.b1.lt; clear hk e0 e1 HV)
    | (at_builtin; refine wpl_appendS _ rfl (.tmp 47) (.tmp 49) 23 rfl 9 i0 (.string ByteArray.empty) 1 16 Tryd.underlying23 hi hz0 hz1 hz2 rfl (by decide) (.slice (some ⟨w1.heap.size, 0, none⟩) 0 0) 0 [] rfl ?own a0 s.pats.length k0 w.heap.size (strVs s.pats) rfl ?see ?one ?b1 ?b2 ?k))
  case own => exact row_empty w1 _
  case see => exact (HSee.out.pure (HV1.out.low.alloc _) (Nat.le_refl _))
  case one => exact strVs_one _
  case b1 => unfold maxLen; omega
  case b2 => omega
  case k =>
    intro v' w2 hr2 hg2 ho2
    obtain ⟨A', c', rfl, _⟩ := hr2.form
    have hp2 : Pure' w1 w2 := ((Keeps.refl _ w1).alloc (.cells #[] 9)).grown hg2 (fun k hk => .inr (by simp [Value.ownBlock] at hk; omega))
    have HV2 := Lib.hid (HV1.out.pure hp2)
    have HR2 := Lib.hid hr2
    have HO2 := Lib.hid (show ∀ b, (Value.slice A' s.pats.length c').ownBlock = some b → w1.heap.size ≤ b by
      intro b hb
      rcases ho2 with h | h
      · rw [hb] at h; simp [Value.ownBlock] at h; omega
      · rw [hb] at h; injection h with h; omega)
    have HP2 := Lib.hid hp2
    clear hr2 hg2 ho2 hp2
    have hlt2 : w1.heap.size ≤ w2.heap.size := HP2.out.size
    have l2 := HV2.out.b1.lt
    go_wp2_with (at_builtin; refine wpl_append _ rfl (.tmp 50) (.tmp 52) 23 rfl 9 i0 (.string ByteArray.empty) 1 16 Tryd.underlying23 hi hz0 hz1 hz2 rfl (by decide) (.slice A' s.pats.length c') s.pats.length (strVs s.pats) rfl ?own2 ⟨w2.heap.size, 0, none⟩ 1 1 [.string ⟨bq.toArray⟩] rfl rfl ?news2 ?one2 (by decide) ?b12 ?b22 ?k2)
    case own2 => exact Row.alloc HR2.out _
    case news2 => exact news1
    case one2 => first | rfl | exact strV_one _
    case b12 => unfold maxLen; omega
    case b22 => omega
    case k2 =>
      intro g6 cap6 w3 hr3 hg3 hw3 hlt3
      have hp3 : Pure' w1 w3 := (HP2.out.alloc (.cells #[.string ⟨bq.toArray⟩] 9)).grown hg3 (fun k hk => .inr (HO2.out k hk))
      have HV3 := Lib.hid (HV1.out.pure hp3)
      have HR3 := Lib.hid (show Row w3 9 1 (.slice (some ⟨g6, 0, none⟩) (s.pats.length + 1) cap6) (s.pats.length + 1) (strVs (s.pats ++ [bq])) by simpa [strVs] using hr3)
      have hgg : w1.heap.size ≤ g6 := by
        rcases hw3 with h | h
        · exact HO2.out g6 h
        · omega
      obtain ⟨f0, f1, f2⟩ := HV3.out.sets 0 (.slice (some ⟨g6, 0, none⟩) (s.pats.length + 1) cap6) (cs := #[(.slice (some ⟨g6, 0, none⟩) (s.pats.length + 1) cap6), (.slice a1 n1 k1), (.int .i64 s.table), (.bool s.skip), (.int .i64 s.every), (.slice a5 n5 k5), (.slice a6 n6 k6)]) rfl
      have F0 := Lib.hid f0
      have F1 := Lib.hid f1
      have F2 := Lib.hid f2
      have ONE := Lib.hid (show (#[(.slice (some ⟨g6, 0, none⟩) (s.pats.length + 1) cap6), (.slice a1 n1 k1), (.int .i64 s.table), (.bool s.skip), (.int .i64 s.every), (.slice a5 n5 k5), (.slice a6 n6 k6)] : Array Value).all (·.oneCell') = true by simp [Value.oneCell'])
      have l3 : w.heap.size + 1 < g6 := by omega
      have z0 := HV3.out.b0.cell 0
      have y0 := HV3.out.b0.frozen 0
      clear hr3 hg3 hw3 hp3 f0 f1 f2
      go_wp2_with (first
        | ((with_reducible refine at_op ⟨some 63, _, _, _, _, _⟩ ?_); refine wpList_load_row rfl 35 (.tmp 4) rfl w.heap.size rfl 35 #[(.slice (some ⟨g6, 0, none⟩) (s.pats.length + 1) cap6), (.slice a1 n1 k1), (.int .i64 s.table), (.bool s.skip), (.int .i64 s.every), (.slice a5 n5 k5), (.slice a6 n6 k6)] (0, 0) _ F0.out Tryd.underlying35 rfl (by kernel_rfl) ?_)
        | ((with_reducible refine at_op ⟨none, .store 35 (.tmp 8) (.tmp 63), _, _, _, _⟩ ?_); refine wpList_store_row rfl 35 (.tmp 8) (.tmp 63) rfl (w.heap.size + 1) #[(.slice (some ⟨g6, 0, none⟩) (s.pats.length + 1) cap6), (.slice a1 n1 k1), (.int .i64 s.table), (.bool s.skip), (.int .i64 s.every), (.slice a5 n5 k5), (.slice a6 n6 k6)] rfl rfl 35 _ F1.out (by kernel_rfl) rfl ONE.out ?_))
      refine rline_end (H := w.heap.size + 1) rfl rfl rfl (F1.out.setRow #[(.slice (some ⟨g6, 0, none⟩) (s.pats.length + 1) cap6), (.slice a1 n1 k1), (.int .i64 s.table), (.bool s.skip), (.int .i64 s.every), (.slice a5 n5 k5), (.slice a6 n6 k6)]) rfl ?_
      refine ⟨F2.out.setRow (.inr (by omega)) _, some ⟨g6, 0, none⟩, s.pats.length + 1, cap6, a1, n1, k1, a5, n5, k5, a6, n6, k6, { s with pats := s.pats ++ [bq] }, ?_, ?_⟩
      · rcases HQ.out with ⟨e0, hu⟩ | ⟨e0, hu⟩
        · rw [hu]; subst e0; rfl
        · rw [hu]
          have q : (eq == 0) = false := by simpa using e0
          rw [q]; rfl
      · intro r hr
        rcases HQ.out with ⟨e0, hu⟩ | ⟨e0, hu⟩
        · rw [hu] at hr
          injection hr with hr
          subst hr
          refine ⟨rfl, ?_⟩
          have hpl : Pure' w ((w3.setCell ⟨w.heap.size, 0, none⟩ (.slice (some ⟨g6, 0, none⟩) (s.pats.length + 1) cap6)).setRow (w.heap.size + 1) #[(.slice (some ⟨g6, 0, none⟩) (s.pats.length + 1) cap6), (.slice a1 n1 k1), (.int .i64 s.table), (.bool s.skip), (.int .i64 s.every), (.slice a5 n5 k5), (.slice a6 n6 k6)]) := F2.out.setRow (.inr (by omega)) _
          have hR := HR.out.pure hpl
          have hrow := ((HR3.out.off (b := w.heap.size) (i := 0) (u := .slice (some ⟨g6, 0, none⟩) (s.pats.length + 1) cap6) (by simp [Value.ownBlock]; omega)).setRow (k := w.heap.size + 1) (by simp [Value.ownBlock]; omega) #[(.slice (some ⟨g6, 0, none⟩) (s.pats.length + 1) cap6), (.slice a1 n1 k1), (.int .i64 s.table), (.bool s.skip), (.int .i64 s.every), (.slice a5 n5 k5), (.slice a6 n6 k6)]).seesV
          refine ⟨⟨by simpa using hrow, hR.p1, hR.p5, hR.p6⟩, ?_⟩
          exact by
            intro F hF hP k hk
            rcases hk with h | h | h | h
            all_goals first
              | exact hP k (.inl h)
              | exact hP k (.inr (.inl h))
              | exact hP k (.inr (.inr (.inl h)))
              | exact hP k (.inr (.inr (.inr h)))
              | (simp [vBlk] at h; omega)
        · rw [hu] at hr; cases hr

set_option maxHeartbeats 4000000 in
theorem rline_part (s : Sc) (a0 a1 a5 a6 : Option Addr) (n0 n1 n5 n6 k0 k1 k5 k6 : Nat) (sc cc : Bool) (g c : Nat) (a2 : List UInt8) (w : World) (h : ScR w (.slice a0 n0 k0) (.slice a1 n1 k1) (.slice a5 n5 k5) (.slice a6 n6 k6) s)
    (c0 : w.cell? ⟨g, 0, none⟩ = some (.string ⟨#[112, 97, 114, 116]⟩)) (c1 : w.cell? ⟨g, 1, none⟩ = some (.string ⟨a2.toArray⟩)) (hl : a2.length ≤ 100000) (hp : s.parts.length ≤ 100000) :
    Calls Tryd.prog 22 #[scV (.slice a0 n0 k0) (.slice a1 n1 k1) (.slice a5 n5 k5) (.slice a6 n6 k6) s, .slice (some ⟨g, 0, none⟩) 2 c, .bool sc, .bool cc] w fun e w' =>
      RLine (.slice a0 n0 k0) (.slice a1 n1 k1) (.slice a5 n5 k5) (.slice a6 n6 k6) ((unqL a2).map (fun x => ({ s with parts := s.parts ++ [x] }, sc, cc))) w e w' := by
  obtain ⟨i0, hi, hz0, hz1, hz2⟩ := info_parts strInfo
  obtain ⟨bq, eq, hq, hqq⟩ := unq_parts a2
  have hu := fun w => runquote_ a2 w hl
  rw [hq] at hu
  have HU := Lib.hid hu
  have HQ := Lib.hid hqq
  have HR := Lib.hid h
  obtain ⟨_, _, he, hsee⟩ := h.p1
  cases he
  have HSee := Lib.hid hsee
  have HC := Lib.hid (fun W (hW : Pure' w W) => keepc c0 hW)
  clear hu hq hqq h hsee
  unfold scV
  have HV := Lib.hid (RV.start w (.slice a0 n0 k0) (.slice a1 s.parts.length k1) (.slice a5 n5 k5) (.slice a6 n6 k6) s)
  have e0 := keepc c0 HV.out.low
  have e1 := keepc c1 HV.out.low
  clear c0 c1
  go_enter Tryd.func22, Tryd.ntmps22
  go_wp2_with (first
    | (go_at_call 46; refine (HU.out _).mono ?_; rintro e w1 ⟨rfl, hk⟩; have HV1 := Lib.hid (HV.out.pure hk); have d0 := HC.out w1 HV1.out.low; have x1 := HV1.out.b0.cell 1; have l0 := HV1.out.b0.lt; have l1 := HV1.out.b1.lt; clear hk e0 e1 HV)
    | (at_builtin; refine wpl_appendS _ rfl (.tmp 55) (.tmp 57) 23 rfl 9 i0 (.string ByteArray.empty) 1 16 Tryd.underlying23 hi hz0 hz1 hz2 rfl (by decide) (.slice (some ⟨w1.heap.size, 0, none⟩) 0 0) 0 [] rfl ?own a1 s.parts.length k1 w.heap.size (strVs s.parts) rfl ?see ?one ?b1 ?b2 ?k))
  case own => exact row_empty w1 _
  case see => exact (HSee.out.pure (HV1.out.low.alloc _) (Nat.le_refl _))
  case one => exact strVs_one _
  case b1 => unfold maxLen; omega
  case b2 => omega
  case k =>
    intro v' w2 hr2 hg2 ho2
    obtain ⟨A', c', rfl, _⟩ := hr2.form
    have hp2 : Pure' w1 w2 := ((Keeps.refl _ w1).alloc (.cells #[] 9)).grown hg2 (fun k hk => .inr (by simp [Value.ownBlock] at hk; omega))
    have HV2 := Lib.hid (HV1.out.pure hp2)
    have HR2 := Lib.hid hr2
    have HO2 := Lib.hid (show ∀ b, (Value.slice A' s.parts.length c').ownBlock = some b → w1.heap.size ≤ b by
      intro b hb
      rcases ho2 with h | h
      · rw [hb] at h; simp [Value.ownBlock] at h; omega
      · rw [hb] at h; injection h with h; omega)
    have HP2 := Lib.hid hp2
    clear hr2 hg2 ho2 hp2
    have hlt2 : w1.heap.size ≤ w2.heap.size := HP2.out.size
    have l2 := HV2.out.b1.lt
    go_wp2_with (at_builtin; refine wpl_append _ rfl (.tmp 58) (.tmp 60) 23 rfl 9 i0 (.string ByteArray.empty) 1 16 Tryd.underlying23 hi hz0 hz1 hz2 rfl (by decide) (.slice A' s.parts.length c') s.parts.length (strVs s.parts) rfl ?own2 ⟨w2.heap.size, 0, none⟩ 1 1 [.string ⟨bq.toArray⟩] rfl rfl ?news2 ?one2 (by decide) ?b12 ?b22 ?k2)
    case own2 => exact Row.alloc HR2.out _
    case news2 => exact news1
    case one2 => first | rfl | exact strV_one _
    case b12 => unfold maxLen; omega
    case b22 => omega
    case k2 =>
      intro g6 cap6 w3 hr3 hg3 hw3 hlt3
      have hp3 : Pure' w1 w3 := (HP2.out.alloc (.cells #[.string ⟨bq.toArray⟩] 9)).grown hg3 (fun k hk => .inr (HO2.out k hk))
      have HV3 := Lib.hid (HV1.out.pure hp3)
      have HR3 := Lib.hid (show Row w3 9 1 (.slice (some ⟨g6, 0, none⟩) (s.parts.length + 1) cap6) (s.parts.length + 1) (strVs (s.parts ++ [bq])) by simpa [strVs] using hr3)
      have hgg : w1.heap.size ≤ g6 := by
        rcases hw3 with h | h
        · exact HO2.out g6 h
        · omega
      obtain ⟨f0, f1, f2⟩ := HV3.out.sets 1 (.slice (some ⟨g6, 0, none⟩) (s.parts.length + 1) cap6) (cs := #[(.slice a0 n0 k0), (.slice (some ⟨g6, 0, none⟩) (s.parts.length + 1) cap6), (.int .i64 s.table), (.bool s.skip), (.int .i64 s.every), (.slice a5 n5 k5), (.slice a6 n6 k6)]) rfl
      have F0 := Lib.hid f0
      have F1 := Lib.hid f1
      have F2 := Lib.hid f2
      have ONE := Lib.hid (show (#[(.slice a0 n0 k0), (.slice (some ⟨g6, 0, none⟩) (s.parts.length + 1) cap6), (.int .i64 s.table), (.bool s.skip), (.int .i64 s.every), (.slice a5 n5 k5), (.slice a6 n6 k6)] : Array Value).all (·.oneCell') = true by simp [Value.oneCell'])
      have l3 : w.heap.size + 1 < g6 := by omega
      have z0 := HV3.out.b0.cell 1
      have y0 := HV3.out.b0.frozen 1
      clear hr3 hg3 hw3 hp3 f0 f1 f2
      go_wp2_with (first
        | ((with_reducible refine at_op ⟨some 63, _, _, _, _, _⟩ ?_); refine wpList_load_row rfl 35 (.tmp 4) rfl w.heap.size rfl 35 #[(.slice a0 n0 k0), (.slice (some ⟨g6, 0, none⟩) (s.parts.length + 1) cap6), (.int .i64 s.table), (.bool s.skip), (.int .i64 s.every), (.slice a5 n5 k5), (.slice a6 n6 k6)] (0, 0) _ F0.out Tryd.underlying35 rfl (by kernel_rfl) ?_)
        | ((with_reducible refine at_op ⟨none, .store 35 (.tmp 8) (.tmp 63), _, _, _, _⟩ ?_); refine wpList_store_row rfl 35 (.tmp 8) (.tmp 63) rfl (w.heap.size + 1) #[(.slice a0 n0 k0), (.slice (some ⟨g6, 0, none⟩) (s.parts.length + 1) cap6), (.int .i64 s.table), (.bool s.skip), (.int .i64 s.every), (.slice a5 n5 k5), (.slice a6 n6 k6)] rfl rfl 35 _ F1.out (by kernel_rfl) rfl ONE.out ?_))
      refine rline_end (H := w.heap.size + 1) rfl rfl rfl (F1.out.setRow #[(.slice a0 n0 k0), (.slice (some ⟨g6, 0, none⟩) (s.parts.length + 1) cap6), (.int .i64 s.table), (.bool s.skip), (.int .i64 s.every), (.slice a5 n5 k5), (.slice a6 n6 k6)]) rfl ?_
      refine ⟨F2.out.setRow (.inr (by omega)) _, a0, n0, k0, some ⟨g6, 0, none⟩, s.parts.length + 1, cap6, a5, n5, k5, a6, n6, k6, { s with parts := s.parts ++ [bq] }, ?_, ?_⟩
      · rcases HQ.out with ⟨e0, hu⟩ | ⟨e0, hu⟩
        · rw [hu]; subst e0; rfl
        · rw [hu]
          have q : (eq == 0) = false := by simpa using e0
          rw [q]; rfl
      · intro r hr
        rcases HQ.out with ⟨e0, hu⟩ | ⟨e0, hu⟩
        · rw [hu] at hr
          injection hr with hr
          subst hr
          refine ⟨rfl, ?_⟩
          have hpl : Pure' w ((w3.setCell ⟨w.heap.size, 1, none⟩ (.slice (some ⟨g6, 0, none⟩) (s.parts.length + 1) cap6)).setRow (w.heap.size + 1) #[(.slice a0 n0 k0), (.slice (some ⟨g6, 0, none⟩) (s.parts.length + 1) cap6), (.int .i64 s.table), (.bool s.skip), (.int .i64 s.every), (.slice a5 n5 k5), (.slice a6 n6 k6)]) := F2.out.setRow (.inr (by omega)) _
          have hR := HR.out.pure hpl
          have hrow := ((HR3.out.off (b := w.heap.size) (i := 1) (u := .slice (some ⟨g6, 0, none⟩) (s.parts.length + 1) cap6) (by simp [Value.ownBlock]; omega)).setRow (k := w.heap.size + 1) (by simp [Value.ownBlock]; omega) #[(.slice a0 n0 k0), (.slice (some ⟨g6, 0, none⟩) (s.parts.length + 1) cap6), (.int .i64 s.table), (.bool s.skip), (.int .i64 s.every), (.slice a5 n5 k5), (.slice a6 n6 k6)]).seesV
          refine ⟨⟨hR.p0, by simpa using hrow, hR.p5, hR.p6⟩, ?_⟩
          exact by
            intro F hF hP k hk
            rcases hk with h | h | h | h
            all_goals first
              | exact hP k (.inl h)
              | exact hP k (.inr (.inl h))
              | exact hP k (.inr (.inr (.inl h)))
              | exact hP k (.inr (.inr (.inr h)))
              | (simp [vBlk] at h; omega)
        · rw [hu] at hr; cases hr

end Go.Proofs.YtjcjmjnajhkdaaaDoor
