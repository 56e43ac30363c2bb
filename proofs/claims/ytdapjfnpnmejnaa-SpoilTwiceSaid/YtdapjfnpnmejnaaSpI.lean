/- The next record of a lens that is closed, by the program; no condition but the sizes. -/
import Derived.Test.YtdapjfnpnmejnaaSpG
namespace Go.Proofs.Ytdapjfnpnmejnaa
open Go.RowKit Go.Proofs.YtdapjfnpnmejnaaW.PrintWords Go.Proofs.Ytdapjfnpnmejnaa.GB
set_option linter.unusedVariables false
set_option linter.unusedSimpArgs false
set_option maxRecDepth 100000

def zeroTup (e : Int) : Int × Int × Int × List Int × Int × Int := (0, 0, 0, [], 0, e)
/-- What a closed lens takes next. -/
def takeTup (rest : List UInt8) (last : Rec) (en : Bool) : Int × Int × Int × List Int × Int × Int :=
  if en then zeroTup (if rest = [] then 0 else 20) else match recT rest with
    | .error e => zeroTup e
    | .ok (r, z) => if fitsV last r = false then zeroTup 9 else (r.kind, r.n, r.r, r.ids, z, 0)

set_option maxHeartbeats 2000000 in
theorem ltake_end (g : Nat) (rest : ByteArray) (lk ln lr : Int) (w : World) (hb : LensB w g rest lk ln lr true true 0) :
    Calls Try.prog 125 #[.pointer (some ⟨g, 0, none⟩)] w fun e w' => RTakePost (takeTup rest.data.toList ⟨lk, ln, lr, []⟩ true) w e w' := by
  have HK := Lib.hid ((Keeps.refl (fun _ => False) w).alloc (.cells #[.int .i64 0, .int .i64 0, .int .i64 0, .slice none 0 0] 33))
  have hlt := hb.lt
  have b0 := hb.cell 0
  have b3 := hb.cell 6
  have b4 := hb.cell 7
  clear hb
  unfold takeTup
  by_cases hr : rest.data.toList = []
  · rw [if_pos rfl, if_pos hr]
    have t1 : rest.toList = [] := by rw [ByteArray.toList_eq, hr]
    have t2 : rest.toList.isEmpty = true := by rw [t1]; rfl
    clear hr
    go_enter Try.func125, Try.ntmps125
    go_wp2
    refine bodyPost_ret (v := .tuple #[.agg #[.int .i64 0, .int .i64 0, .int .i64 0, .slice none 0 0], .int .i64 0, .int .i64 0]) (by simp [results, Try.results125, go_sem]) rfl ⟨_, rfl, Kd.R_nil _ _ _ _ _, ?_⟩
    refine Keeps.pure ?_
    repeat (with_reducible first | exact HK.out | refine Keeps.drewN ?_ _ | refine Keeps.drew ?_ | refine Keeps.setCell ?_ (.inr (Nat.le_refl _)) _)
  · rw [if_pos rfl, if_neg hr]
    have t1 : rest.toList.isEmpty = false := by rw [ByteArray.toList_eq]; simpa using hr
    clear hr
    go_enter Try.func125, Try.ntmps125
    go_wp2
    refine bodyPost_ret (v := .tuple #[.agg #[.int .i64 0, .int .i64 0, .int .i64 0, .slice none 0 0], .int .i64 0, .int .i64 20]) (by simp [results, Try.results125, go_sem]) rfl ⟨_, rfl, Kd.R_nil _ _ _ _ _, ?_⟩
    refine Keeps.pure ?_
    repeat (with_reducible first | exact HK.out | refine Keeps.drewN ?_ _ | refine Keeps.drew ?_ | refine Keeps.setCell ?_ (.inr (Nat.le_refl _)) _)

theorem pairT_err {least : Nat} {s : List UInt8} {e : Int} (h : pairT least s = .error e) : e ≠ 0 := by
  have ho : ∀ (s : List UInt8) (e : Int), offT least s = .error e → e ≠ 0 := fun s e h => by
    unfold offT at h
    split at h
    · rename_i ht
      injection h with h
      subst h
      exact takeV_err ht
    · split at h
      · injection h with h; omega
      · cases h
  unfold pairT at h
  split at h
  · rename_i h1
    injection h with h
    subst h
    exact ho _ _ h1
  · split at h
    · rename_i h1
      injection h with h
      subst h
      exact ho _ _ h1
    · cases h
theorem idsL_err : ∀ (k : Nat) (f : Bool) (a : Nat) (s : List UInt8) (e : Int), idsL k f a s = .error e → e ≠ 0
  | 0, f, a, s, e, h => by cases h
  | k + 1, f, a, s, e, h => by
    rw [idsL] at h
    split at h
    · rename_i ht
      injection h with h
      subst h
      exact takeV_err ht
    · split at h
      · injection h with h; omega
      · split at h
        · injection h with h; omega
        · split at h
          · rename_i hi
            injection h with h
            subst h
            exact idsL_err k _ _ _ _ hi
          · cases h
theorem recT_err {s : List UInt8} {e : Int} (h : recT s = .error e) : e ≠ 0 := by
  cases s with
  | nil => injection h with h; omega
  | cons c s =>
    rw [recT] at h
    split at h
    · injection h with h; omega
    · split at h
      · split at h
        · rename_i hi
          injection h with h
          subst h
          unfold idsT at hi
          split at hi
          · rename_i ht
            injection hi with hi
            subst hi
            exact takeV_err ht
          · split at hi
            · injection hi with hi; omega
            · split at hi
              · rename_i hl
                injection hi with hi
                subst hi
                exact idsL_err _ _ _ _ _ hl
              · cases hi
        · cases h
      · split at h
        · rename_i hi
          injection h with h
          subst h
          exact pairT_err hi
        · cases h
theorem recT_len {s : List UInt8} {r : Rec} {z : Nat} (h : recT s = .ok (r, z)) : r.ids.length ≤ 65535 := by
  cases s with
  | nil => cases h
  | cons c s =>
    rw [recT] at h
    split at h
    · cases h
    · split at h
      · split at h
        · cases h
        · rename_i hi
          injection h with h
          injection h with h1 h2
          subst h1
          exact (idsT_inv hi).2.2.2.1
      · split at h
        · cases h
        · injection h with h
          injection h with h1 h2
          subst h1
          simp

set_option maxHeartbeats 4000000 in
theorem ltake_more (g : Nat) (rest : ByteArray) (lk ln lr : Int) (w : World) (hb : LensB w g rest lk ln lr true false 0) (hs : rest.size ≤ 1000000) :
    Calls Try.prog 125 #[.pointer (some ⟨g, 0, none⟩)] w fun e w' => RTakePost (takeTup rest.data.toList ⟨lk, ln, lr, []⟩ false) w e w' := by
  have HK := Lib.hid ((Keeps.refl (fun _ => False) w).alloc (.cells #[.int .i64 0, .int .i64 0, .int .i64 0, .slice none 0 0] 33))
  have hlt := hb.lt
  have hb1 := hb.alloc (.cells #[.int .i64 0, .int .i64 0, .int .i64 0, .slice none 0 0] 33)
  have hn1 := Blk.new w 33 #[.int .i64 0, .int .i64 0, .int .i64 0, .slice none 0 0]
  have HB := Lib.hid hb1
  have HN := Lib.hid hn1
  have HRT := Lib.hid (fun W => rectake_ rest W hs)
  have b0 := hb1.cell 0
  have b3 := hb1.cell 6
  have b4 := hb1.cell 7
  clear hb hb1 hn1
  unfold takeTup
  rw [if_neg (by simp)]
  cases hrt : recT rest.data.toList with
  | error er =>
    have he := recT_err hrt
    have te : (er == 0) = false := by simpa using he
    rw [hrt] at HRT
    unfold recTup at HRT
    clear hrt he
    go_enter Try.func125, Try.ntmps125
    go_wp2_with fail
    refine (HRT.out _).mono ?_
    rintro e w2 ⟨v, rfl, hr, hbl⟩
    obtain ⟨A0, q0, rfl⟩ := Kd.R_slice hr
    simp only at hr ⊢
    have hp2 := Keeps.of_below hbl
    have HB2 := Lib.hid (HB.out.keep hp2 (fun h => h))
    have HN2 := Lib.hid (HN.out.keep hp2 (fun h => h))
    have HK2 := Lib.hid (HK.out.then_ hp2)
    have HR2 := Lib.hid hr
    have c0 := HB2.out.cell 0
    have c5 := HB2.out.cell 5
    have c4 := HB2.out.cell 7
    have d0 := HN2.out.cell 0
    have d1 := HN2.out.cell 1
    have d2 := HN2.out.cell 2
    have d3 := HN2.out.cell 3
    have f0 := HN2.out.frozen 0
    have f1 := HN2.out.frozen 1
    have f2 := HN2.out.frozen 2
    have f3 := HN2.out.frozen 3
    have hsz2 := Nat.lt_of_lt_of_le HN.out.lt hp2.size
    have hlt2 := HB2.out.lt
    clear hr hbl hp2 b0 b3 b4
    go_wp2
    all_goals refine bodyPost_ret (v := .tuple #[.agg #[.int .i64 0, .int .i64 0, .int .i64 0, .slice A0 0 q0], .int .i64 0, .int .i64 er]) (by simp [results, Try.results125, go_sem, d0, d1, d2, d3, hsz2]; try omega) rfl ⟨_, rfl, Kd.R_lower (R_keeps HR2.out HN2.out (by decide) ?_) (by simp), ?_⟩
    all_goals first | (refine Keeps.pure ?_; done) | skip
    all_goals try refine Keeps.pure ?_
    all_goals repeat (with_reducible first | exact Keeps.refl _ _ | exact HK2.out | refine Keeps.alloc ?_ _ | refine Keeps.setCell ?_ (.inl (by simp)) _ | refine Keeps.setCell ?_ (.inr (by simp)) _)
  | ok q =>
    obtain ⟨⟨pk, pn, pr, pl⟩, pz⟩ := q
    have hlen := recT_len hrt
    simp only at hlen
    rw [hrt] at HRT
    unfold recTup at HRT
    simp only at HRT ⊢
    clear hrt
    have hlen : pl.length ≤ 1000000 := by omega
    cases hF : fitsV ⟨lk, ln, lr, []⟩ ⟨pk, pn, pr, pl⟩ with
    | true =>
      rw [if_neg (by simp)]
      go_enter Try.func125, Try.ntmps125
      go_wp2_with fail
      refine (HRT.out _).mono ?_
      rintro e w2 ⟨v, rfl, hr, hbl⟩
      obtain ⟨A0, q0, rfl⟩ := Kd.R_slice hr
      simp only at hr ⊢
      have hp2 := Keeps.of_below hbl
      have HB2 := Lib.hid (HB.out.keep hp2 (fun h => h))
      have HN2 := Lib.hid (HN.out.keep hp2 (fun h => h))
      have HK2 := Lib.hid (HK.out.then_ hp2)
      have HR2 := Lib.hid hr
      have c0 := HB2.out.cell 0
      have c5 := HB2.out.cell 5
      have c4 := HB2.out.cell 7
      have d0 := HN2.out.cell 0
      have d1 := HN2.out.cell 1
      have d2 := HN2.out.cell 2
      have d3 := HN2.out.cell 3
      have f0 := HN2.out.frozen 0
      have f1 := HN2.out.frozen 1
      have f2 := HN2.out.frozen 2
      have f3 := HN2.out.frozen 3
      have hsz2 := Nat.lt_of_lt_of_le HN.out.lt hp2.size
      have hlt2 := HB2.out.lt
      clear hr hbl hp2 b0 b3 b4
      obtain ⟨A1, q1, hsl, hq1, hC⟩ := Kd.R_reads HR2.out
      obtain ⟨rfl, rfl⟩ : A0 = A1 ∧ q0 = q1 := by injection hsl with h1 _ h2; exact ⟨h1, h2⟩
      have HC2 := Lib.hid hC
      have hfit := Lib.hid (fun W h1 h2 => fits_ g rest lk ln lr true false 0 pk pn pr A0 q0 pl W h1 h2 hq1 hlen)
      clear hsl hC
      rw [hF] at hfit
      go_wp2_with (go_at_call 152; refine (hfit.out _ (HB2.out.alloc _) (Kd.C_below HC2.out ((Keeps.refl (fun _ => False) _).alloc _).pure)).mono ?_; rintro e w3 ⟨rfl, hk3⟩; have HK3 := Lib.hid hk3; have hx := (Blk.new w2 33 #[.int .i64 pk, .int .i64 pn, .int .i64 pr, .slice A0 pl.length q0]).keep hk3 (fun h => h); have HY := Lib.hid ((HN2.out.alloc (.cells #[.int .i64 pk, .int .i64 pn, .int .i64 pr, .slice A0 pl.length q0] 33)).keep hk3 (fun h => h)); have x0 := hx.cell 0; have x1 := hx.cell 1; have x2 := hx.cell 2; have x3 := hx.cell 3; have y0 := HY.out.cell 0; have y1 := HY.out.cell 1; have y2 := HY.out.cell 2; have y3 := HY.out.cell 3; have z0 := HY.out.frozen 0; have z1 := HY.out.frozen 1; have z2 := HY.out.frozen 2; have z3 := HY.out.frozen 3; clear hk3 hx c0 c5 c4 d0 d1 d2 d3 f0 f1 f2 f3)
      refine bodyPost_ret (v := .tuple #[.agg #[.int .i64 pk, .int .i64 pn, .int .i64 pr, .slice A0 pl.length q0], .int .i64 pz, .int .i64 0]) (by simp [results, Try.results125, go_sem, y0, y1, y2, y3]) rfl ⟨_, rfl, Kd.R_lower (R_keeps (Kd.R_below HR2.out (((Keeps.refl (fun _ => False) w2).alloc _).then_ HK3.out).pure) HY.out (by decide) ?_) (by simp), ?_⟩
      · repeat (with_reducible first | exact Keeps.refl _ _ | refine Keeps.setCell ?_ (.inl (by simp)) _)
      · refine Keeps.pure ?_
        repeat (with_reducible first | exact HK2.out | refine Keeps.then_ ?_ HK3.out | refine Keeps.alloc ?_ _ | refine Keeps.setCell ?_ (.inr (by simp)) _)
    | false =>
      rw [if_pos rfl]
      go_enter Try.func125, Try.ntmps125
      go_wp2_with fail
      refine (HRT.out _).mono ?_
      rintro e w2 ⟨v, rfl, hr, hbl⟩
      obtain ⟨A0, q0, rfl⟩ := Kd.R_slice hr
      simp only at hr ⊢
      have hp2 := Keeps.of_below hbl
      have HB2 := Lib.hid (HB.out.keep hp2 (fun h => h))
      have HN2 := Lib.hid (HN.out.keep hp2 (fun h => h))
      have HK2 := Lib.hid (HK.out.then_ hp2)
      have HR2 := Lib.hid hr
      have c0 := HB2.out.cell 0
      have c5 := HB2.out.cell 5
      have c4 := HB2.out.cell 7
      have d0 := HN2.out.cell 0
      have d1 := HN2.out.cell 1
      have d2 := HN2.out.cell 2
      have d3 := HN2.out.cell 3
      have f0 := HN2.out.frozen 0
      have f1 := HN2.out.frozen 1
      have f2 := HN2.out.frozen 2
      have f3 := HN2.out.frozen 3
      have hsz2 := Nat.lt_of_lt_of_le HN.out.lt hp2.size
      have hlt2 := HB2.out.lt
      clear hr hbl hp2 b0 b3 b4
      obtain ⟨A1, q1, hsl, hq1, hC⟩ := Kd.R_reads HR2.out
      obtain ⟨rfl, rfl⟩ : A0 = A1 ∧ q0 = q1 := by injection hsl with h1 _ h2; exact ⟨h1, h2⟩
      have HC2 := Lib.hid hC
      have hfit := Lib.hid (fun W h1 h2 => fits_ g rest lk ln lr true false 0 pk pn pr A0 q0 pl W h1 h2 hq1 hlen)
      clear hsl hC
      rw [hF] at hfit
      go_wp2_with (go_at_call 152; refine (hfit.out _ (HB2.out.alloc _) (Kd.C_below HC2.out ((Keeps.refl (fun _ => False) _).alloc _).pure)).mono ?_; rintro e w3 ⟨rfl, hk3⟩; have HK3 := Lib.hid hk3; have hx := (Blk.new w2 33 #[.int .i64 pk, .int .i64 pn, .int .i64 pr, .slice A0 pl.length q0]).keep hk3 (fun h => h); have HY := Lib.hid ((HN2.out.alloc (.cells #[.int .i64 pk, .int .i64 pn, .int .i64 pr, .slice A0 pl.length q0] 33)).keep hk3 (fun h => h)); have x0 := hx.cell 0; have x1 := hx.cell 1; have x2 := hx.cell 2; have x3 := hx.cell 3; have y0 := HY.out.cell 0; have y1 := HY.out.cell 1; have y2 := HY.out.cell 2; have y3 := HY.out.cell 3; have z0 := HY.out.frozen 0; have z1 := HY.out.frozen 1; have z2 := HY.out.frozen 2; have z3 := HY.out.frozen 3; clear hk3 hx c0 c5 c4 d0 d1 d2 d3 f0 f1 f2 f3)
      refine bodyPost_ret (v := .tuple #[.agg #[.int .i64 0, .int .i64 0, .int .i64 0, .slice none 0 0], .int .i64 0, .int .i64 9]) (by simp [results, Try.results125, go_sem, y0, y1, y2, y3]) rfl ⟨_, rfl, Kd.R_nil _ _ _ _ _, ?_⟩
      refine Keeps.pure ?_
      repeat (with_reducible first | exact HK2.out | refine Keeps.then_ ?_ HK3.out | refine Keeps.alloc ?_ _ | refine Keeps.setCell ?_ (.inr (by simp)) _)
end Go.Proofs.Ytdapjfnpnmejnaa
