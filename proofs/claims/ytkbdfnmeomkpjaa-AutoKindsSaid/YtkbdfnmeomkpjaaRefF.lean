/- The hits of a text, by the reference; no condition but the sizes. -/
import Derived.Test.YtkbdfnmeomkpjaaRefE
namespace Go.Proofs.Ytkbdfnmeomkpjaa
open Go.RowKit
set_option linter.unusedVariables false
set_option linter.unusedSimpArgs false
set_option maxRecDepth 100000

def hitsK (l : List (List UInt8)) (p : List UInt8) (k : Nat) : List Int := ((List.range k).filter fun i => (l.getD i []).isSuffixOf p).map (fun (i : Nat) => (i : Int))
theorem hitsK_all (l : List (List UInt8)) (p : List UInt8) : hitsK l p l.length = hitsI l p := rfl
theorem hitsK_succ {l : List (List UInt8)} {p x : List UInt8} {k : Nat} (hx : l[k]? = some x) : hitsK l p (k + 1) = hitsK l p k ++ (if x <:+ p then [(k : Int)] else []) := by
  unfold hitsK
  rw [List.range_succ, List.filter_append, List.map_append]
  congr 1
  have : l.getD k [] = x := by rw [List.getD_eq_getElem?_getD, hx]; rfl
  by_cases h : x <:+ p
  · rw [if_pos h]; simp [List.getD_eq_getElem?_getD, hx, h]
  · rw [if_neg h]; simp [List.getD_eq_getElem?_getD, hx, h]
theorem suf_drop {x p : List UInt8} : x <:+ p ↔ x.length ≤ p.length ∧ p.drop (p.length - x.length) = x := by
  constructor
  · intro h
    exact ⟨h.length_le, (List.suffix_iff_eq_drop.1 h).symm⟩
  · rintro ⟨_, h⟩
    have := List.drop_suffix (p.length - x.length) p
    rwa [h] at this

set_option maxHeartbeats 1000000 in
theorem rhits_ (A : Option Addr) (n c B : Nat) (l : List (List UInt8)) (p : List UInt8) (w : World) (h : Sees w B 1 A n (strVs l)) (hB : B ≤ w.heap.size) (hn : n ≤ 100000) (hp : p.length ≤ 100000) (hll : ∀ x ∈ l, x.length ≤ 100000) :
    Calls Try.prog 35 #[.slice A n c, .string ⟨p.toArray⟩] w fun e w' => ∃ A' c', e = .returned (.slice A' (hitsI l p).length c') ∧ Nm w w' (.slice A' (hitsI l p).length c') (hitsI l p) := by
  have HL := Lib.hid (show l.length = n by have := h.1; rw [strVs_len] at this; omega)
  have HS := Lib.hid (fun (W : World) (hW : Pure' w W) => h.pure hW hB)
  have HLL := Lib.hid hll
  obtain ⟨i0, hi, hz0, hz1, hz2⟩ := info_parts intInfo
  have hbs : (⟨p.toArray⟩ : ByteArray).size = p.length := Lib.size_eq _
  have HX := Lib.hid (fun (k : Nat) => show (⟨p.toArray⟩ : ByteArray).extract k p.length = ⟨(p.drop k).toArray⟩ by rw [← hbs, extract_end])
  have HALL := Lib.hid (show hitsK l p n = hitsI l p by rw [← HL.out]; rfl)
  have HN0 := Lib.hid (show Nm w (w.alloc (.cells #[] 3)) (.slice (some ⟨w.heap.size, 0, none⟩) 0 0) [] from
    ⟨⟨by simp, .inr ⟨w.heap.size, 0, _, rfl, Nat.zero_le _, Blk.new w _ _, Nat.le_refl _, by decide, by simp, by simp⟩⟩, fun b hb => by simp [Value.ownBlock] at hb; omega, (Keeps.refl _ w).alloc _⟩)
  clear h hll
  rw [← HALL.out]
  go_enter Try.func35, Try.ntmps35
  go_wp2
  go_loopg [5, 6] n (fun gh v5 v6 wr => ∃ k : Nat, k + gh = n ∧ v6 = .int .i64 (k : Int) ∧ (hitsK l p k).length ≤ k ∧ RowKit.Hid (Nm w wr v5 (hitsK l p k)))
  case atStart => exact ⟨0, by omega, rfl, Nat.le_refl _, HN0⟩
  case round =>
    obtain ⟨k, hkg, rfl, hkl, HA⟩ := hrel
    obtain ⟨a, cp, rfl⟩ := HA.out.form
    cases gk with
    | zero =>
      obtain rfl : k = n := by omega
      go_wp2
      go_ret
      exact ⟨a, cp, rfl, HA.out⟩
    | succ g3 =>
      have hki : (k : Int) < (n : Int) := by omega
      obtain ⟨ad, x, rfl, hx, xc⟩ := word_at (HS.out _ HA.out.pure) (show k < n by omega)
      have hsu := hitsK_succ (p := p) hx
      have hxl := HLL.out x (List.mem_of_getElem? hx)
      have hbx : (⟨x.toArray⟩ : ByteArray).size = x.length := Lib.size_eq _
      by_cases hle : x.length ≤ p.length
      · have hlei : (x.length : Int) ≤ (p.length : Int) := by omega
        obtain ⟨j, hj⟩ : ∃ j, p.length - x.length = j := ⟨_, rfl⟩
        have hji : (p.length : Int) - (x.length : Int) = (j : Int) := by omega
        have hjl : j ≤ p.length := by omega
        have hxj := HX.out j
        by_cases he : p.drop j = x
        · have hsf : x <:+ p := suf_drop.2 ⟨hle, by rw [hj]; exact he⟩
          rw [if_pos hsf] at hsu
          have HSU := Lib.hid hsu
          have heb : (p.drop j == x) = true := by simpa using he
          clear hsu hx hsf he
          go_wp2_with fail
          go_region
          have HA2 := Lib.hid (HA.out.then_ ((Keeps.refl (fun _ => False) wr).drew))
          go_wp2_with (at_builtin; refine wpl_append _ rfl (.tmp 39) (.tmp 41) 41 rfl 3 i0 (.int .i64 0) 1 8 Try.underlying41 hi hz0 hz1 hz2 rfl (by decide) (.slice a (hitsK l p k).length cp) (hitsK l p k).length ((hitsK l p k).map (Value.int .i64)) rfl ?own ⟨wr.heap.size, 0, none⟩ 1 1 [.int .i64 (k : Int)] rfl rfl ?news ?one (by decide) ?b1 ?b2 ?k)
          case own => exact Row.alloc HA2.out.row _
          case news => exact news1
          case one => intro u hu; simp at hu; subst hu; rfl
          case b1 => unfold maxLen; omega
          case b2 => omega
          case k =>
            intro b1 cap1 w3 ho1 hg1 hb1 hl1
            have HK := Lib.hid ((HA2.out.pure.alloc _).grown hg1 (fun k hk => .inr (HA2.out.own k hk)))
            have HD : Hid (w.heap.size ≤ b1) := by
              rcases hb1 with h | h
              · exact Lib.hid (HA2.out.own _ h)
              · exact Lib.hid (by rw [h]; have := HA2.out.pure.size; simp [World.alloc] at this ⊢; omega)
            have HN3 : Hid (Nm w w3 (.slice (some ⟨b1, 0, none⟩) ((hitsK l p k).length + 1) cap1) (hitsK l p (k + 1))) := Lib.hid (by
              rw [HSU.out]
              exact ⟨by simpa using ho1, fun b hb => by simp [Value.ownBlock] at hb; rw [← hb]; exact HD.out, HK.out⟩)
            clear ho1 hg1 hb1
            go_wp2
            go_roundg g3
            case measure => omega
            case rel => exact ⟨k + 1, by omega, by go_num, by rw [HSU.out]; simp; omega, HN3⟩
        · have hsf : ¬ x <:+ p := fun h2 => he (by have := (suf_drop.1 h2).2; rwa [hj] at this)
          rw [if_neg hsf, List.append_nil] at hsu
          have HSU := Lib.hid hsu
          have heb : (p.drop j == x) = false := by simpa using he
          clear hsu hx hsf he
          go_wp2_with fail
          go_region
          have HA2 := Lib.hid (HA.out.then_ ((Keeps.refl (fun _ => False) wr).drew))
          go_wp2
          go_roundg g3
          case measure => omega
          case rel => exact ⟨k + 1, by omega, by go_num, by rw [HSU.out]; omega, by rw [HSU.out]; exact HA2⟩
      · have hsf : ¬ x <:+ p := fun h2 => hle h2.length_le
        have hlei : ¬ (x.length : Int) ≤ (p.length : Int) := by omega
        rw [if_neg hsf, List.append_nil] at hsu
        have HSU := Lib.hid hsu
        clear hsu hx hsf
        go_wp2_with fail
        go_region
        have HA2 := Lib.hid (HA.out.then_ ((Keeps.refl (fun _ => False) wr).drew))
        go_wp2
        go_roundg g3
        case measure => omega
        case rel => exact ⟨k + 1, by omega, by go_num, by rw [HSU.out]; omega, by rw [HSU.out]; exact HA2⟩

end Go.Proofs.Ytkbdfnmeomkpjaa
