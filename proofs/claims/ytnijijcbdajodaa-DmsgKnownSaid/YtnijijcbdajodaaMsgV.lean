/-
  The walk of package dmsg's values. Condition: sizes that a machine has.
-/
import Derived.Test.YtnijijcbdajodaaMsgL
import Derived.Test.YtnijijcbdajodaaSettle
import Derived.IntWalk
namespace Go.Proofs.Ytnijijcbdajodaa
set_option linter.unusedVariables false
set_option linter.unusedSimpArgs false
open Go.RowKit

def prevOf (rs : List Rec) (i : Nat) : Option Rec := if i = 0 then none else rs[i - 1]?
theorem val_drop {rs : List Rec} {i : Nat} {x : Rec} (hx : rs[i]? = some x) : rs.drop i = x :: rs.drop (i + 1) := by
  obtain ⟨hl, rfl⟩ := List.getElem?_eq_some_iff.1 hx
  exact List.drop_eq_getElem_cons hl
theorem val_bad {rs : List Rec} {i : Nat} {x : Rec} (hx : rs[i]? = some x) (hv : valuesM rs = valuesFrom (prevOf rs i) (rs.drop i)) (hb : valueOp (prevOf rs i) x = false) : valuesM rs = false := by
  rw [hv, val_drop hx, valuesFrom, hb]; rfl
theorem val_next {rs : List Rec} {i : Nat} {x : Rec} (hx : rs[i]? = some x) (hv : valuesM rs = valuesFrom (prevOf rs i) (rs.drop i)) (hb : valueOp (prevOf rs i) x = true) : valuesM rs = valuesFrom (prevOf rs (i + 1)) (rs.drop (i + 1)) := by
  rw [hv, val_drop hx, valuesFrom, hb, Bool.true_and]
  have : prevOf rs (i + 1) = some x := by unfold prevOf; rw [if_neg (by omega)]; exact hx
  rw [this]
theorem bytesLess_lit (a b : List UInt8) : Op.bytesLess (ByteArray.toList ⟨a.toArray⟩) (ByteArray.toList ⟨b.toArray⟩) = Op.bytesLess a b := by
  have h : ∀ l : List UInt8, ByteArray.toList ⟨l.toArray⟩ = l := fun l => by simp
  rw [h, h]

set_option maxRecDepth 100000 in
set_option maxHeartbeats 8000000 in
theorem values_any (a : Option Addr) (n c : Nat) (rs : List Rec) (w : World) (h : RecsAt w a n c rs) (hr : ∀ r ∈ rs, r.ok) :
    Calls Try.prog 66 #[.slice a n c] w fun e w' => e = .returned (.bool (valuesM rs)) ∧ Below w.heap.size w w' := by
  have hn := h.max
  have HL := Lib.hid h.len
  go_enter Try.func66, Try.ntmps66
  go_wp2_with fail
  go_loopw [3, 4, 7] (fun _ _ s7 wr => ∃ i : Nat, i ≤ n ∧ s7 = .int .i64 i ∧ Below w.heap.size w wr ∧ valuesM rs = valuesFrom (prevOf rs i) (rs.drop i)) (fun _ _ s7 _ => n - (intOf s7).toNat)
  case atStart => exact ⟨0, by omega, rfl, Below.refl _ _, rfl⟩
  case round =>
    obtain ⟨i, hi, rfl, hbw, hval⟩ := hrel
    by_cases hlt : i < n
    · obtain ⟨x, g, o, hx, hm, rfl, d0, d1, d2, d3⟩ := h.row hbw hlt
      have hok := hr x hm
      have HBad := Lib.hid (val_bad hx hval)
      have HNext := Lib.hid (val_next hx hval)
      have hg : g < wr.heap.size := by
        obtain ⟨g', o', e, hg, _⟩ := (h.on hbw).at_ (by omega)
        cases e
        exact hg
      have hop : ∀ p, valueOp p x = (may x == 0 && !x.del && stampB x.lsn && (match p with | none => true | some p => Op.bytesLess p.key x.key)) := fun _ => rfl
      have HX := Lib.hid hx
      clear hval hx hm
      go_upto_region 4 with fail
      have hX : Blk (wr.alloc (.cells #[.string ⟨x.key.toArray⟩, .int .u64 x.lsn, .bool x.del, .string ⟨x.val.toArray⟩] 43)) wr.heap.size (recCells x) 43 := Blk.new wr (recCells x) _
      have hbx := (Below.refl wr.heap.size wr).alloc (Nat.le_refl _) (.cells #[.string ⟨x.key.toArray⟩, .int .u64 x.lsn, .bool x.del, .string ⟨x.val.toArray⟩] 43)
      have hbw1 := hbw.on hbx
      have d0' := (hbx.cell (p := ⟨g, o + i * 4, none⟩) hg).trans d0
      have hg1 : g < (wr.alloc (.cells #[.string ⟨x.key.toArray⟩, .int .u64 x.lsn, .bool x.del, .string ⟨x.val.toArray⟩] 43)).heap.size := Nat.lt_of_lt_of_le hg hbx.size
      clear d0 d1 d2 d3 hbx hbw
      generalize wr.alloc (.cells #[.string ⟨x.key.toArray⟩, .int .u64 x.lsn, .bool x.del, .string ⟨x.val.toArray⟩] 43) = w2 at *
      generalize wr.heap.size = X at *
      have x0 : w2.cell? ⟨X, 0, none⟩ = some (.string ⟨x.key.toArray⟩) := by rw [hX.cell]; rfl
      have x1 : w2.cell? ⟨X, 1, none⟩ = some (.int .u64 x.lsn) := by rw [hX.cell]; rfl
      have x2 : w2.cell? ⟨X, 2, none⟩ = some (.bool x.del) := by rw [hX.cell]; rfl
      have x3 : w2.cell? ⟨X, 3, none⟩ = some (.string ⟨x.val.toArray⟩) := by rw [hX.cell]; rfl
      have hlt2 : X < w2.heap.size ∧ g < w2.heap.size := ⟨hX.lt, hg1⟩
      have HC := Lib.hid (show ∀ w', Below w2.heap.size w2 w' → w'.cell? ⟨X, 0, none⟩ = some (.string ⟨x.key.toArray⟩) ∧ w'.cell? ⟨X, 1, none⟩ = some (.int .u64 x.lsn) ∧ w'.cell? ⟨X, 2, none⟩ = some (.bool x.del) ∧ w'.cell? ⟨X, 3, none⟩ = some (.string ⟨x.val.toArray⟩) from fun w' hb => ⟨(hb.cell (p := ⟨X, 0, none⟩) hlt2.1).trans x0, (hb.cell (p := ⟨X, 1, none⟩) hlt2.1).trans x1, (hb.cell (p := ⟨X, 2, none⟩) hlt2.1).trans x2, (hb.cell (p := ⟨X, 3, none⟩) hlt2.1).trans x3⟩)
      have HM := Lib.hid (show ∀ wa, Below w2.heap.size w2 wa → Calls Try.prog 51 #[.agg #[.string ⟨x.key.toArray⟩, .int .u64 x.lsn, .bool x.del, .string ⟨x.val.toArray⟩]] wa fun e w' => e = .returned (.int .i64 (may x)) ∧ Below w2.heap.size w2 w' from fun wa hb => (may_any x wa hok).mono fun e w' ⟨he, hw⟩ => ⟨he, hb.on hw⟩)
      have HS := Lib.hid (show ∀ wa, Below w2.heap.size w2 wa → Calls Try.prog 29 #[.int .u64 x.lsn] wa fun e w' => e = .returned (.bool (stampB x.lsn)) ∧ Below w2.heap.size w2 w' from fun wa hb => (mstamp_any x.lsn wa).mono fun e w' ⟨he, hw⟩ => ⟨he, hw ▸ hb⟩)
      have hd0 : Below w2.heap.size w2 { w2 with drawn := w2.drawn + 1 } := below_drew (Below.refl _ _)
      clear hX hok x0 x1 x2 x3
      by_cases hm0 : may x = 0
      · have hme : (((may x : Nat) : Int) != 0) = false := by simp [hm0]
        cases hdel : x.del
        · rw [hdel] at HC HM
          cases hs : stampB x.lsn
          · have HH := Lib.hid (HBad.out (by rw [hop, hm0, hdel, hs]; simp))
            rw [hs] at HS
            clear hm0 hop hdel hs d0'
            refine wp_region_settle (Below w2.heap.size w2) (by kernel_rfl) (by kernel_rfl) (by kernel_rfl) hd0 ?_
            repeat (first
              | (refine settled_not ?_ ?_
                 · rfl
                 simp only [Act.put, List.setIfInBounds_toArray, List.set_cons_zero, List.set_cons_succ])
              | (refine settled_val (v := ?_) ?_ (fun w' hS => ?_) ?_
                 rotate_left
                 · rfl
                 · obtain ⟨k0, k1, k2, k3⟩ := HC.out w' hS
                   go_simp
                   with_reducible rfl
                 simp only [Act.put, List.setIfInBounds_toArray, List.set_cons_zero, List.set_cons_succ])
              | (refine settled_call (f := 51) (v := .int .i64 (may x)) ?_ (fun w' hS => ?_) (fun w' hS => HM.out w' hS) ?_
                 · rfl
                 · go_simp
                 simp only [Act.put, List.setIfInBounds_toArray, List.set_cons_zero, List.set_cons_succ])
              | (refine settled_call (f := 29) (v := .bool false) ?_ (fun w' hS => ?_) (fun w' hS => HS.out w' hS) ?_
                 · rfl
                 · go_simp
                 simp only [Act.put, List.setIfInBounds_toArray, List.set_cons_zero, List.set_cons_succ]))
            refine settled_nil (fun w' hS => ?_)
            go_wp2_with fail
            go_ret
            rw [HH.out]
            exact ⟨rfl, hbw1.on hS⟩
          · rw [hs] at HS
            by_cases h0 : i = 0
            · have HP := Lib.hid (show prevOf rs i = none by unfold prevOf; rw [if_pos h0])
              have hpos : decide (0 < i) = false := by simp; omega
              have HH := Lib.hid (HNext.out (by rw [hop, hm0, hdel, hs, HP.out]; rfl))
              clear h0 hm0 hop hdel hs d0'
              refine wp_region_settle (Below w2.heap.size w2) (by kernel_rfl) (by kernel_rfl) (by kernel_rfl) hd0 ?_
              repeat (first
                | (refine settled_not ?_ ?_
                   · rfl
                   simp only [Act.put, List.setIfInBounds_toArray, List.set_cons_zero, List.set_cons_succ])
                | (refine settled_val (v := ?_) ?_ (fun w' hS => ?_) ?_
                   rotate_left
                   · rfl
                   · obtain ⟨k0, k1, k2, k3⟩ := HC.out w' hS
                     go_simp
                     with_reducible rfl
                   simp only [Act.put, List.setIfInBounds_toArray, List.set_cons_zero, List.set_cons_succ])
                | (refine settled_call (f := 51) (v := .int .i64 (may x)) ?_ (fun w' hS => ?_) (fun w' hS => HM.out w' hS) ?_
                   · rfl
                   · go_simp
                   simp only [Act.put, List.setIfInBounds_toArray, List.set_cons_zero, List.set_cons_succ])
                | (refine settled_call (f := 29) (v := .bool true) ?_ (fun w' hS => ?_) (fun w' hS => HS.out w' hS) ?_
                   · rfl
                   · go_simp
                   simp only [Act.put, List.setIfInBounds_toArray, List.set_cons_zero, List.set_cons_succ]))
              refine settled_nil (fun w' hS => ?_)
              go_wp2_with fail
              go_roundw
              case rel => exact ⟨i + 1, by omega, by go_num, hbw1.on hS, HH.out⟩
              case measure => simp [intOf]; omega
            · have hi1 : i - 1 < n := by omega
              obtain ⟨y, g2, o2, hy, _, e2, y0, _, _, _⟩ := h.row hbw1 hi1
              cases e2
              have HP := Lib.hid (show prevOf rs i = some y by unfold prevOf; rw [if_neg h0]; exact hy)
              have hpos : decide (0 < i) = true := by simp; omega
              have hb1 : (0 : Int) ≤ (i : Int) - 1 := by omega
              have hb3 : (1 : Int) ≤ (i : Int) := by omega
              have hb4 : 1 ≤ i := by omega
              have hb2 : (i : Int) - 1 < (n : Int) := by omega
              have hwr : IntKind.i64.wrap ((i : Int) - 1) = (i : Int) - 1 := IntWalk.i64_in _ (by omega)
              have htn : ((i : Int) - 1).toNat = i - 1 := by omega
              have HY := Lib.hid (show ∀ w', Below w2.heap.size w2 w' → w'.cell? ⟨g, o + (i - 1) * 4, none⟩ = some (.string ⟨y.key.toArray⟩) from fun w' hb => (hb.cell (p := ⟨g, o + (i - 1) * 4, none⟩) hlt2.2).trans y0)
              clear hy d0' y0
              have hbl := bytesLess_lit y.key x.key
              cases hless : Op.bytesLess y.key x.key
              · have HH := Lib.hid (HBad.out (by rw [hop, hm0, hdel, hs, HP.out]; simp [hless]))
                rw [hless] at hbl
                clear hm0 hop hdel hs
                refine wp_region_settle (Below w2.heap.size w2) (by kernel_rfl) (by kernel_rfl) (by kernel_rfl) hd0 ?_
                repeat (first
                  | (refine settled_not ?_ ?_
                     · rfl
                     simp only [Act.put, List.setIfInBounds_toArray, List.set_cons_zero, List.set_cons_succ])
                  | (refine settled_val (v := ?_) ?_ (fun w' hS => ?_) ?_
                     rotate_left
                     · rfl
                     · obtain ⟨k0, k1, k2, k3⟩ := HC.out w' hS
                       have k4 := HY.out w' hS
                       go_simp
                       with_reducible rfl
                     simp only [Act.put, List.setIfInBounds_toArray, List.set_cons_zero, List.set_cons_succ])
                  | (refine settled_call (f := 51) (v := .int .i64 (may x)) ?_ (fun w' hS => ?_) (fun w' hS => HM.out w' hS) ?_
                     · rfl
                     · go_simp
                     simp only [Act.put, List.setIfInBounds_toArray, List.set_cons_zero, List.set_cons_succ])
                  | (refine settled_call (f := 29) (v := .bool true) ?_ (fun w' hS => ?_) (fun w' hS => HS.out w' hS) ?_
                     · rfl
                     · go_simp
                     simp only [Act.put, List.setIfInBounds_toArray, List.set_cons_zero, List.set_cons_succ]))
                refine settled_nil (fun w' hS => ?_)
                go_wp2_with fail
                go_ret
                rw [HH.out]
                exact ⟨rfl, hbw1.on hS⟩
              · have HH := Lib.hid (HNext.out (by rw [hop, hm0, hdel, hs, HP.out]; simp [hless]))
                rw [hless] at hbl
                clear hm0 hop hdel hs
                refine wp_region_settle (Below w2.heap.size w2) (by kernel_rfl) (by kernel_rfl) (by kernel_rfl) hd0 ?_
                repeat (first
                  | (refine settled_not ?_ ?_
                     · rfl
                     simp only [Act.put, List.setIfInBounds_toArray, List.set_cons_zero, List.set_cons_succ])
                  | (refine settled_val (v := ?_) ?_ (fun w' hS => ?_) ?_
                     rotate_left
                     · rfl
                     · obtain ⟨k0, k1, k2, k3⟩ := HC.out w' hS
                       have k4 := HY.out w' hS
                       go_simp
                       with_reducible rfl
                     simp only [Act.put, List.setIfInBounds_toArray, List.set_cons_zero, List.set_cons_succ])
                  | (refine settled_call (f := 51) (v := .int .i64 (may x)) ?_ (fun w' hS => ?_) (fun w' hS => HM.out w' hS) ?_
                     · rfl
                     · go_simp
                     simp only [Act.put, List.setIfInBounds_toArray, List.set_cons_zero, List.set_cons_succ])
                  | (refine settled_call (f := 29) (v := .bool true) ?_ (fun w' hS => ?_) (fun w' hS => HS.out w' hS) ?_
                     · rfl
                     · go_simp
                     simp only [Act.put, List.setIfInBounds_toArray, List.set_cons_zero, List.set_cons_succ]))
                refine settled_nil (fun w' hS => ?_)
                go_wp2_with fail
                go_roundw
                case rel => exact ⟨i + 1, by omega, by go_num, hbw1.on hS, HH.out⟩
                case measure => simp [intOf]; omega
        · rw [hdel] at HC HM
          have HH := Lib.hid (HBad.out (by rw [hop, hdel]; simp))
          clear hm0 hop hdel d0'
          refine wp_region_settle (Below w2.heap.size w2) (by kernel_rfl) (by kernel_rfl) (by kernel_rfl) hd0 ?_
          repeat (first
            | (refine settled_not ?_ ?_
               · rfl
               simp only [Act.put, List.setIfInBounds_toArray, List.set_cons_zero, List.set_cons_succ])
            | (refine settled_val (v := ?_) ?_ (fun w' hS => ?_) ?_
               rotate_left
               · rfl
               · obtain ⟨k0, k1, k2, k3⟩ := HC.out w' hS
                 go_simp
                 with_reducible rfl
               simp only [Act.put, List.setIfInBounds_toArray, List.set_cons_zero, List.set_cons_succ])
            | (refine settled_call (f := 51) (v := .int .i64 (may x)) ?_ (fun w' hS => ?_) (fun w' hS => HM.out w' hS) ?_
               · rfl
               · go_simp
               simp only [Act.put, List.setIfInBounds_toArray, List.set_cons_zero, List.set_cons_succ])
            | (refine settled_call (f := 29) (v := .bool (stampB x.lsn)) ?_ (fun w' hS => ?_) (fun w' hS => HS.out w' hS) ?_
               · rfl
               · go_simp
               simp only [Act.put, List.setIfInBounds_toArray, List.set_cons_zero, List.set_cons_succ]))
          refine settled_nil (fun w' hS => ?_)
          go_wp2_with fail
          go_ret
          rw [HH.out]
          exact ⟨rfl, hbw1.on hS⟩
      · have hme : (((may x : Nat) : Int) != 0) = true := by simp; omega
        have HH := Lib.hid (HBad.out (by rw [hop]; simp [hm0]))
        clear hm0 hop d0'
        refine wp_region_settle (Below w2.heap.size w2) (by kernel_rfl) (by kernel_rfl) (by kernel_rfl) hd0 ?_
        repeat (first
          | (refine settled_not ?_ ?_
             · rfl
             simp only [Act.put, List.setIfInBounds_toArray, List.set_cons_zero, List.set_cons_succ])
          | (refine settled_val (v := ?_) ?_ (fun w' hS => ?_) ?_
             rotate_left
             · rfl
             · obtain ⟨k0, k1, k2, k3⟩ := HC.out w' hS
               go_simp
               with_reducible rfl
             simp only [Act.put, List.setIfInBounds_toArray, List.set_cons_zero, List.set_cons_succ])
          | (refine settled_call (f := 51) (v := .int .i64 (may x)) ?_ (fun w' hS => ?_) (fun w' hS => HM.out w' hS) ?_
             · rfl
             · go_simp
             simp only [Act.put, List.setIfInBounds_toArray, List.set_cons_zero, List.set_cons_succ])
          | (refine settled_call (f := 29) (v := .bool (stampB x.lsn)) ?_ (fun w' hS => ?_) (fun w' hS => HS.out w' hS) ?_
             · rfl
             · go_simp
             simp only [Act.put, List.setIfInBounds_toArray, List.set_cons_zero, List.set_cons_succ]))
        refine settled_nil (fun w' hS => ?_)
        go_wp2_with fail
        go_ret
        rw [HH.out]
        exact ⟨rfl, hbw1.on hS⟩
    · have hin : n ≤ i := by omega
      have HV := Lib.hid (show valuesM rs = true by rw [hval, List.drop_of_length_le (by rw [HL.out]; omega)]; rfl)
      clear hval
      go_wp2_with fail
      go_ret
      rw [HV.out]
      exact ⟨rfl, hbw⟩
end Go.Proofs.Ytnijijcbdajodaa
