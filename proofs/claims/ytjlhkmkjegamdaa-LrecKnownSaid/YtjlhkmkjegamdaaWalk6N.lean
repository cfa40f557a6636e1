/-
  The walk of LrecKnown.
-/
import Derived.Test.YtjlhkmkjegamdaaEnts6
import Derived.Deep.DeepCutAuto
import Derived.Deep.RegionHeld3
namespace Go.Proofs.Ytjlhkmkjegamdaa
set_option linter.unusedVariables false
set_option linter.unusedSimpArgs false
open Go.RowKit

theorem one_lit (w : World) : Calls Try.prog 20 #[] w fun e w' => Below w.heap.size w w' ∧ ∃ a n c, e = .returned (.agg #[.int .u64 1, .int .u64 2, .slice a n c]) ∧ RecsAt w' a n c oneE.ops := one_any w

/-- Texts stand in a block. -/
def StrsAt (w : World) (g : Nat) (ls : List (List UInt8)) : Prop := g < w.heap.size ∧ ∀ i l, ls[i]? = some l → w.cell? ⟨g, i, none⟩ = some (.string ⟨l.toArray⟩)
theorem StrsAt.on {w w' : World} {g : Nat} {ls : List (List UInt8)} (h : StrsAt w g ls) (hb : Below w.heap.size w w') : StrsAt w' g ls :=
  ⟨Nat.lt_of_lt_of_le h.1 hb.size, fun i l hi => (hb.cell (p := ⟨g, i, none⟩) h.1).trans (h.2 i l hi)⟩
theorem strs_blk {w : World} {g : Nat} {T : TypeId} (ls : List (List UInt8)) (h : Blk w g (ls.map fun l => .string ⟨l.toArray⟩) T) : StrsAt w g ls :=
  ⟨h.lt, fun i l hi => by rw [h.cell, List.getElem?_map, hi]; rfl⟩
theorem app_lit (a l : List UInt8) : (⟨a.toArray⟩ : ByteArray) ++ ⟨l.toArray⟩ = ⟨(a ++ l).toArray⟩ := by
  apply ByteArray.ext
  simp

/-- What a call that makes memory leaves of two entries' blocks. -/
theorem keep6 {f : FuncId} {args : Array Value} {w : World} {v : Value} (h : Calls Try.prog f args w fun e w' => e = .returned v ∧ Below w.heap.size w w')
    (P E oe : Nat) (p0 p1 p2 e0 e1 e2 : Value) (w0 : World) (g0 : w.cell? ⟨P, 0, none⟩ = some p0) (g1 : w.cell? ⟨P, 1, none⟩ = some p1) (g2 : w.cell? ⟨P, 2, none⟩ = some p2)
    (h0 : w.cell? ⟨E, oe, none⟩ = some e0) (h1 : w.cell? ⟨E, oe + 1, none⟩ = some e1) (h2 : w.cell? ⟨E, oe + 2, none⟩ = some e2) (hb : Below w0.heap.size w0 w) (hlt : P < w0.heap.size ∧ E < w0.heap.size) :
    Calls Try.prog f args w fun e w' => e = .returned v ∧ w'.cell? ⟨P, 0, none⟩ = some p0 ∧ w'.cell? ⟨P, 1, none⟩ = some p1 ∧ w'.cell? ⟨P, 2, none⟩ = some p2 ∧
      w'.cell? ⟨E, oe, none⟩ = some e0 ∧ w'.cell? ⟨E, oe + 1, none⟩ = some e1 ∧ w'.cell? ⟨E, oe + 2, none⟩ = some e2 ∧ Below w0.heap.size w0 w' :=
  h.mono fun e w' ⟨he, hw⟩ => by
    have hP : P < w.heap.size := Nat.lt_of_lt_of_le hlt.1 hb.size
    have hE : E < w.heap.size := Nat.lt_of_lt_of_le hlt.2 hb.size
    exact ⟨he, (hw.cell (p := ⟨P, 0, none⟩) hP).trans g0, (hw.cell (p := ⟨P, 1, none⟩) hP).trans g1, (hw.cell (p := ⟨P, 2, none⟩) hP).trans g2,
      (hw.cell (p := ⟨E, oe, none⟩) hE).trans h0, (hw.cell (p := ⟨E, oe + 1, none⟩) hE).trans h1, (hw.cell (p := ⟨E, oe + 2, none⟩) hE).trans h2, hb.on hw⟩

set_option maxRecDepth 100000 in
set_option maxHeartbeats 8000000 in
theorem known_any (w : World) :
    Calls Try.prog 8 #[] w fun e w' => e = .returned (.bool true) ∧ Below w.heap.size w w' := by
  go_enter Try.func8, Try.ntmps8
  go_upto_region 3 with fail
  go_cut [3] (fun s3 wx => ∃ G, s3 = .slice (some ⟨G, 0, none⟩) 3 3 ∧ EntsAt wx G goods ∧ Below w.heap.size w wx)
  case first =>
    go_wp2_with fail
    refine (one_lit w).mono ?_
    rintro e w1 ⟨hb1, a0, n0, c0, rfl, hr1⟩
    have hg := goods_at w1 a0 n0 c0 hr1
    have hb := hb1.on (many_below w1 (goodsMem w1.heap.size a0 n0 c0))
    go_wp2_with fail
    go_meet
    exact ⟨w1.heap.size + 1 + 1, rfl, hg, hb⟩
  case rest =>
  obtain ⟨G, rfl, hG, hbw⟩ := hcut
  generalize wc = wa at *
  have hGlt := hG.1
  go_wp2_with fail
  go_loopw [4, 5, 6, 7, 8, 9] (fun s4 _ _ _ _ _ wr => ∃ i : Nat, i ≤ 3 ∧ s4 = .int .i64 i ∧ Below wa.heap.size wa wr) (fun s4 _ _ _ _ _ _ => 3 - (intOf s4).toNat)
  case atStart => exact ⟨0, by omega, rfl, Below.refl _ _⟩
  case round =>
    obtain ⟨i, hi, rfl, hbr⟩ := hrel
    by_cases hlt : i < 3
    · obtain ⟨en, hen⟩ : ∃ en, goods[i]? = some en := ⟨_, List.getElem?_eq_getElem (show i < goods.length from hlt)⟩
      have hm := List.mem_of_getElem? hen
      have hck := goods_fine en hm
      obtain ⟨ht, hf, hok⟩ := okB_ok (goods_ok en hm)
      obtain ⟨a, n, c, g0, g1, g2, hr⟩ := (hG.on hbr).2 i en hen
      have HEN := Lib.hid hen
      clear hen hm
      go_wp2_with fail
      refine (encode_any en.ts en.first a n c en.ops wr hr hok ht hf).mono ?_
      rintro e w1 ⟨rfl, hb1⟩
      have hrb := read_back hck ht hf []
      have hle := enc_len hck
      rw [show encRes en.ts en.first en.ops = encBytes en.ts en.first en.ops from by unfold encRes; rw [if_pos hck], hck]
      rw [List.append_nil] at hrb
      have hbr1 := hbr.on hb1
      clear g0 g1 g2 hr hb1 hbr hck
      generalize encBytes en.ts en.first en.ops = s at *
      go_wp2_with fail
      refine (decode_any s w1 (by omega)).mono ?_
      rw [hrb]
      rintro e w2 ⟨hb2, a3, n3, c3, rfl, hr3⟩
      have hbr2 := hbr1.on hb2
      unfold entryV
      simp only at hr3 ⊢
      clear hb2 hbr1 hrb
      go_upto_region 9 with fail
      have hF : Blk (w2.alloc (.cells #[.int .u64 en.ts, .int .u64 en.first, .slice a3 n3 c3] 27)) w2.heap.size (entryCells en.ts en.first a3 n3 c3) 27 := Blk.new _ _ _
      have hb3 := (Below.refl w2.heap.size w2).alloc (Nat.le_refl _) (.cells #[.int .u64 en.ts, .int .u64 en.first, .slice a3 n3 c3] 27)
      have hbr3 := hbr2.on hb3
      have hr4 := hr3.on hb3
      generalize w2.alloc (.cells #[.int .u64 en.ts, .int .u64 en.first, .slice a3 n3 c3] 27) = w3 at *
      clear hbr2 hb3 hr3
      generalize w2.heap.size = F at *
      have hG3 := hG.on hbr3
      have hen := HEN.out
      obtain ⟨f0, f1, f2⟩ := entry_load hF
      have hlt2 : F < w3.heap.size ∧ G < w3.heap.size := ⟨hF.lt, hG3.1⟩
      have hrefl := Below.refl w3.heap.size w3
      have hdrew : Below w3.heap.size w3 w3.drew := below_drew hrefl
      obtain ⟨a, n, c, g0, g1, g2, hr5⟩ := hG3.2 i en hen
      have hsame : ∀ w', Below w3.heap.size w3 w' → Calls Try.prog 19 #[.agg #[.int .u64 en.ts, .int .u64 en.first, .slice a3 n3 c3], .agg #[.int .u64 en.ts, .int .u64 en.first, .slice a n c]] w' fun e w'' => e = .returned (.bool true) ∧ Below w'.heap.size w' w'' := fun w' hb =>
        (same_any en en a3 a n3 c3 n c w' (hr4.on hb) (hr5.on hb)).mono fun e w' h => ⟨by rw [h.1]; simp, h.2⟩
      have HS := Lib.hid hsame
      have HG3 := Lib.hid hG3
      clear hsame hen HEN hr4 hr5 hF hG3
      go_region_held3 (fun w' => w'.cell? ⟨F, 0, none⟩ = some (.int .u64 en.ts) ∧ w'.cell? ⟨F, 1, none⟩ = some (.int .u64 en.first) ∧ w'.cell? ⟨F, 2, none⟩ = some (.slice a3 n3 c3) ∧
          w'.cell? ⟨G, i * 3, none⟩ = some (.int .u64 en.ts) ∧ w'.cell? ⟨G, i * 3 + 1, none⟩ = some (.int .u64 en.first) ∧ w'.cell? ⟨G, i * 3 + 2, none⟩ = some (.slice a n c) ∧ Below w3.heap.size w3 w') (go_keep)
        (first
          | (go_at_call 19; (with_reducible refine (keep6 (HS.out _ ?_) F G (i * 3) (.int .u64 en.ts) (.int .u64 en.first) (.slice a3 n3 c3) (.int .u64 en.ts) (.int .u64 en.first) (.slice a n c) w3 ?_ ?_ ?_ ?_ ?_ ?_ ?_ hlt2).mono ?_); assumption; assumption; assumption; assumption; assumption; assumption; assumption; assumption; rintro e w' ⟨rfl, k0, k1, k2, k3, k4, k5, k6⟩))
      all_goals
        go_wp2_with fail
        go_roundw
        case rel => exact ⟨i + 1, by omega, by go_num, hbr3.on (by assumption)⟩
        case measure => simp [intOf]; omega
    · have hge : 3 ≤ i := by omega
      clear hlt
      have hbw2 := hbw.on hbr
      clear hbr hG hGlt hbw
      generalize wr = wb at *
      go_upto_region 11 with fail
      go_cut [10] (fun s10 wx => ∃ G, s10 = .slice (some ⟨G, 0, none⟩) 11 11 ∧ EntsAt wx G bads ∧ Below w.heap.size w wx)
      case first =>
        have hg := bads_at wb
        have hb := hbw2.on (many_below wb (badsMem wb.heap.size))
        go_wp2_with fail
        go_meet
        exact ⟨wb.heap.size + 9, rfl, hg, hb⟩
      case rest =>
      obtain ⟨G, rfl, hG, hbw⟩ := hcut
      clear hbw2
      generalize wc = wa at *
      have hGlt := hG.1
      go_wp2_with fail
      go_loopw [11, 12, 13] (fun s11 _ _ wr => ∃ i : Nat, i ≤ 11 ∧ s11 = .int .i64 i ∧ Below wa.heap.size wa wr) (fun s11 _ _ _ => 11 - (intOf s11).toNat)
      case atStart => exact ⟨0, by omega, rfl, Below.refl _ _⟩
      case round =>
        obtain ⟨j, hj, rfl, hbr⟩ := hrel
        by_cases hlt : j < 11
        · obtain ⟨en, hen⟩ : ∃ en, bads[j]? = some en := ⟨_, List.getElem?_eq_getElem (show j < bads.length from hlt)⟩
          have hm := List.mem_of_getElem? hen
          have hck := bads_fine en hm
          obtain ⟨ht, hf, hok⟩ := okB_ok (bads_ok en hm)
          obtain ⟨a, n, c, g0, g1, g2, hr⟩ := (hG.on hbr).2 j en hen
          clear hen hm
          go_wp2_with fail
          refine (encode_any en.ts en.first a n c en.ops wr hr hok ht hf).mono ?_
          rintro e w1 ⟨rfl, hb1⟩
          rw [show encRes en.ts en.first en.ops = [] from by unfold encRes; rw [if_neg (by omega)], hck]
          have hbr1 := hbr.on hb1
          clear g0 g1 g2 hr hb1 hbr hck
          go_wp2_with fail
          go_roundw
          case rel => exact ⟨j + 1, by omega, by go_num, hbr1⟩
          case measure => simp [intOf]; omega
        · have hge2 : 11 ≤ j := by omega
          clear hlt
          have hbw2 := hbw.on hbr
          clear hbr hG hGlt hbw
          generalize wr = wb at *
          go_upto_region 18 with fail
          go_cut [14] (fun s14 wx => ∃ G, s14 = .slice (some ⟨G, 0, none⟩) 3 3 ∧ EntsAt wx G longs ∧ Below w.heap.size w wx)
          case first =>
            have hmk : ∀ w, (Instr.makeSlice 25 (.int .i64 7) (.int .i64 7)).run Try.prog w = .ok (.slice (some ⟨w.heap.size, 0, none⟩) 7 7) (w.alloc (.cells (recsCells [⟨[], 0, false, []⟩, ⟨[], 0, false, []⟩, ⟨[], 0, false, []⟩, ⟨[], 0, false, []⟩, ⟨[], 0, false, []⟩, ⟨[], 0, false, []⟩, ⟨[], 0, false, []⟩]).toArray 24)) := fun _ => by kernel_rfl
            have ha1 : (⟨#[49, 50, 51, 52, 53, 54, 55, 56, 57, 48, 49, 50, 51, 52, 53, 54]⟩ : ByteArray) ++ ⟨#[55]⟩ = ⟨#[49, 50, 51, 52, 53, 54, 55, 56, 57, 48, 49, 50, 51, 52, 53, 54, 55]⟩ := by kernel_rfl
            have ha2 : (⟨#[49, 50, 51, 52, 53, 54, 55, 56, 57, 48, 49, 50, 51, 52, 53, 54, 55, 56, 57, 48, 49, 50, 51, 52]⟩ : ByteArray) ++ ⟨#[53]⟩ = ⟨#[49, 50, 51, 52, 53, 54, 55, 56, 57, 48, 49, 50, 51, 52, 53, 54, 55, 56, 57, 48, 49, 50, 51, 52, 53]⟩ := by kernel_rfl
            have hg := longs_at wb
            have hb := hbw2.on (many_below wb (longsMem wb.heap.size))
            go_wp2_with fail
            go_meet
            exact ⟨wb.heap.size + 3, rfl, hg, hb⟩
          case rest =>
          obtain ⟨G, rfl, hG, hbw⟩ := hcut
          clear hbw2
          generalize wc = wa at *
          have hGlt := hG.1
          go_wp2_with fail
          go_loopw [15] (fun s15 wr => ∃ i : Nat, i ≤ 3 ∧ s15 = .int .i64 i ∧ Below wa.heap.size wa wr) (fun s15 _ => 3 - (intOf s15).toNat)
          case atStart => exact ⟨0, by omega, rfl, Below.refl _ _⟩
          case round =>
            obtain ⟨k, hk, rfl, hbr⟩ := hrel
            by_cases hlt : k < 3
            · obtain ⟨en, hen⟩ : ∃ en, longs[k]? = some en := ⟨_, List.getElem?_eq_getElem (show k < longs.length from hlt)⟩
              have hm := List.mem_of_getElem? hen
              have hck := longs_fine en hm
              obtain ⟨ht, hf, hok⟩ := okB_ok (longs_ok en hm)
              obtain ⟨a, n, c, g0, g1, g2, hr⟩ := (hG.on hbr).2 k en hen
              clear hen hm
              go_wp2_with fail
              refine (check_any en.ts en.first a n c en.ops wr hr hok hf).mono ?_
              rintro e w1 ⟨rfl, hb1⟩
              rw [hck]
              have hbr1 := hbr.on hb1
              clear g0 g1 g2 hr hb1 hbr hck
              go_wp2_with fail
              go_roundw
              case rel => exact ⟨k + 1, by omega, by go_num, hbr1⟩
              case measure => simp [intOf]; omega
            · have hge3 : 3 ≤ k := by omega
              clear hlt
              have hbw2 := hbw.on hbr
              clear hbr hG hGlt hbw
              generalize wr = wb at *
              go_upto_region 24 with fail
              go_cut [16] (fun s16 wx => ∃ G, s16 = .slice (some ⟨G, 0, none⟩) 7 7 ∧ StrsAt wx G raws ∧ Below w.heap.size w wx)
              case first =>
                go_wp2_with fail
                refine (seal_any [1, 2, 1, 1, 97, 2, 1, 98] _ (by decide)).mono ?_
                rintro e w1 ⟨rfl, hb1⟩
                obtain ⟨X1, hX1⟩ : ∃ X, sealI [1, 2, 1, 1, 97, 2, 1, 98] = X := ⟨_, rfl⟩
                rw [hX1]
                obtain ⟨Y1, hY1⟩ : ∃ Y, [12] ++ X1 = Y := ⟨_, rfl⟩
                have a1 : (⟨#[12]⟩ : ByteArray) ++ ⟨X1.toArray⟩ = ⟨Y1.toArray⟩ := by rw [← hY1]; exact app_lit [12] X1
                have hl1 : X1.length ≤ 20 := by rw [← hX1, seal_length]; decide
                have HX1 := Lib.hid hX1
                have HY1 := Lib.hid hY1
                clear hX1 hY1
                go_wp2_with fail
                refine (seal_any [1, 2, 1, 1, 97, 0, 1, 98, 0] _ (by decide)).mono ?_
                rintro e w2 ⟨rfl, hb2⟩
                obtain ⟨X2, hX2⟩ : ∃ X, sealI [1, 2, 1, 1, 97, 0, 1, 98, 0] = X := ⟨_, rfl⟩
                rw [hX2]
                obtain ⟨Y2, hY2⟩ : ∃ Y, [13] ++ X2 = Y := ⟨_, rfl⟩
                have a2 : (⟨#[13]⟩ : ByteArray) ++ ⟨X2.toArray⟩ = ⟨Y2.toArray⟩ := by rw [← hY2]; exact app_lit [13] X2
                have hl2 : X2.length ≤ 20 := by rw [← hX2, seal_length]; decide
                have HX2 := Lib.hid hX2
                have HY2 := Lib.hid hY2
                clear hX2 hY2
                go_wp2_with fail
                refine (seal_any [1, 2, 2, 1, 97, 0, 0] _ (by decide)).mono ?_
                rintro e w3 ⟨rfl, hb3⟩
                obtain ⟨X3, hX3⟩ : ∃ X, sealI [1, 2, 2, 1, 97, 0, 0] = X := ⟨_, rfl⟩
                rw [hX3]
                obtain ⟨Y3, hY3⟩ : ∃ Y, [11] ++ X3 = Y := ⟨_, rfl⟩
                have a3 : (⟨#[11]⟩ : ByteArray) ++ ⟨X3.toArray⟩ = ⟨Y3.toArray⟩ := by rw [← hY3]; exact app_lit [11] X3
                have hl3 : X3.length ≤ 20 := by rw [← hX3, seal_length]; decide
                have HX3 := Lib.hid hX3
                have HY3 := Lib.hid hY3
                clear hX3 hY3
                go_wp2_with fail
                refine (seal_any [1, 2, 1, 1, 97, 0, 1, 98] _ (by decide)).mono ?_
                rintro e w4 ⟨rfl, hb4⟩
                obtain ⟨X4, hX4⟩ : ∃ X, sealI [1, 2, 1, 1, 97, 0, 1, 98] = X := ⟨_, rfl⟩
                rw [hX4]
                obtain ⟨Y4, hY4⟩ : ∃ Y, [140, 0] ++ X4 = Y := ⟨_, rfl⟩
                have a4 : (⟨#[140, 0]⟩ : ByteArray) ++ ⟨X4.toArray⟩ = ⟨Y4.toArray⟩ := by rw [← hY4]; exact app_lit [140, 0] X4
                have hl4 : X4.length ≤ 20 := by rw [← hX4, seal_length]; decide
                have HX4 := Lib.hid hX4
                have HY4 := Lib.hid hY4
                clear hX4 hY4
                go_wp2_with fail
                have hraws : raws = [[], [0], [4, 0, 0, 0, 0], Y1, Y2, Y3, Y4] := by
                  unfold raws
                  rw [HX1.out, HX2.out, HX3.out, HX4.out, HY1.out, HY2.out, HY3.out, HY4.out]
                have hb5 := ((hbw2.on hb1).on hb2).on hb3 |>.on hb4
                go_meet
                refine ⟨w4.heap.size, rfl, ?_, ?_⟩
                · rw [hraws]; exact strs_blk _ (Blk.new _ _ _)
                · exact hb5.alloc hb5.size _
              case rest =>
              obtain ⟨G, rfl, hG, hbw⟩ := hcut
              clear hbw2
              generalize wc = wa at *
              have hGlt := hG.1
              go_wp2_with fail
              go_loopw [17, 18, 19, 20] (fun s17 _ _ _ wr => ∃ i : Nat, i ≤ 7 ∧ s17 = .int .i64 i ∧ Below wa.heap.size wa wr) (fun s17 _ _ _ _ => 7 - (intOf s17).toNat)
              case atStart => exact ⟨0, by omega, rfl, Below.refl _ _⟩
              case round =>
                obtain ⟨q, hq, rfl, hbr⟩ := hrel
                by_cases hlt : q < 7
                · obtain ⟨l, hl⟩ : ∃ l, raws[q]? = some l := ⟨_, List.getElem?_eq_getElem (show q < raws.length from hlt)⟩
                  have hm := List.mem_of_getElem? hl
                  have hro := raws_fine l hm
                  have hll := raws_len l hm
                  have g0 := (hG.on hbr).2 q l hl
                  clear hl hm
                  go_wp2_with fail
                  refine (decode_any l wr (by omega)).mono ?_
                  rw [hro]
                  rintro e w1 ⟨hb1, rfl⟩
                  have hbr1 := hbr.on hb1
                  have hbr2 := hbr1.alloc hbr1.size (.cells #[.int .u64 0, .int .u64 0, .slice none 0 0] 27)
                  unfold entryV
                  clear g0 hb1 hbr hro hbr1
                  go_wp2_with fail
                  go_roundw
                  case rel => exact ⟨q + 1, by omega, by go_num, hbr2⟩
                  case measure => simp [intOf]; omega
                · have hge4 : 7 ≤ q := by omega
                  clear hlt
                  have hbw2 := hbw.on hbr
                  clear hbr hG hGlt hbw
                  generalize wr = wb at *
                  go_wp2_with fail
                  refine (works_any wb).mono ?_
                  rintro e w7 ⟨rfl, hb7⟩
                  go_wp2_with fail
                  refine bodyPost_ret (results_tmp rfl _ _ _) rfl ⟨rfl, hbw2.on hb7⟩
end Go.Proofs.Ytjlhkmkjegamdaa
