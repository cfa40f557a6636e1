/-
  The walk of the document's values of layer 14. Condition: sizes that a machine has.
-/
import Derived.Test.YtnijijcbdajodaaRef14A
import Derived.IntWalk
namespace Go.Proofs.Ytnijijcbdajodaa
set_option linter.unusedVariables false
set_option linter.unusedSimpArgs false
open Go.RowKit

set_option maxRecDepth 100000 in
set_option maxHeartbeats 8000000 in
theorem rValues_any (a : Option Addr) (n c : Nat) (rs : List Rec) (w : World) (h : RecsAt w a n c rs) (hr : ∀ r ∈ rs, r.ok) :
    Calls Try.prog 72 #[.slice a n c] w fun e w' => e = .returned (.bool (valuesM rs)) ∧ Below w.heap.size w w' := by
  have hn := h.max
  have HL := Lib.hid h.len
  go_enter Try.func72, Try.ntmps72
  go_wp2_with fail
  go_loopw [3] (fun s3 wr => ∃ i : Nat, i ≤ n ∧ s3 = .int .i64 i ∧ Below w.heap.size w wr ∧ valuesM rs = valuesFrom (prevOf rs i) (rs.drop i)) (fun s3 _ => n - (intOf s3).toNat)
  case atStart => exact ⟨0, by omega, rfl, Below.refl _ _, rfl⟩
  case round =>
    obtain ⟨i, hi, rfl, hbw, hval⟩ := hrel
    by_cases hlt : i < n
    · obtain ⟨x, g, o, hx, hm, rfl, d0, d1, d2, d3⟩ := h.row hbw hlt
      have hok := hr x hm
      have HBad := Lib.hid (val_bad hx hval)
      have HNext := Lib.hid (val_next hx hval)
      have hg : g < wr.heap.size := by
        obtain ⟨g', o', e, hg, _⟩ := (h.on hbw).at_ (by omega)
        cases e
        exact hg
      have hop : ∀ p, valueOp p x = (may x == 0 && !x.del && stampB x.lsn && (match p with | none => true | some p => Op.bytesLess p.key x.key)) := fun _ => rfl
      have HX := Lib.hid hx
      clear hval hx
      have HC := Lib.hid (show ∀ w', Below wr.heap.size wr w' → w'.cell? ⟨g, o + i * 4, none⟩ = some (.string ⟨x.key.toArray⟩) ∧ w'.cell? ⟨g, o + i * 4 + 1, none⟩ = some (.int .u64 x.lsn) ∧ w'.cell? ⟨g, o + i * 4 + 2, none⟩ = some (.bool x.del) ∧ w'.cell? ⟨g, o + i * 4 + 3, none⟩ = some (.string ⟨x.val.toArray⟩) from
        fun w' hb => ⟨(hb.cell (p := ⟨g, o + i * 4, none⟩) hg).trans d0, (hb.cell (p := ⟨g, o + i * 4 + 1, none⟩) hg).trans d1, (hb.cell (p := ⟨g, o + i * 4 + 2, none⟩) hg).trans d2, (hb.cell (p := ⟨g, o + i * 4 + 3, none⟩) hg).trans d3⟩)
      have HM := Lib.hid (show ∀ wa, Below wr.heap.size wr wa → Calls Try.prog 71 #[.agg #[.string ⟨x.key.toArray⟩, .int .u64 x.lsn, .bool x.del, .string ⟨x.val.toArray⟩]] wa fun e w' => e = .returned (.int .i64 (may x)) ∧ Below wr.heap.size wr w' from fun wa hb => (rMay_any x wa hok).mono fun e w' ⟨he, hw⟩ => ⟨he, hb.on hw⟩)
      have HS := Lib.hid (show ∀ wa, Below wr.heap.size wr wa → Calls Try.prog 70 #[.int .u64 x.lsn] wa fun e w' => e = .returned (.bool (stampB x.lsn)) ∧ Below wr.heap.size wr w' from fun wa hb => (rStamp_any x.lsn wa).mono fun e w' ⟨he, hw⟩ => ⟨he, hw ▸ hb⟩)
      have hxk := hok.key
      clear d0 d1 d2 d3 hok
      by_cases hm0 : may x = 0
      · have hme : (((may x : Nat) : Int) != 0) = false := by simp [hm0]
        cases hdel : x.del
        · rw [hdel] at HC HM
          cases hs : stampB x.lsn
          · have HH := Lib.hid (HBad.out (by rw [hop, hm0, hdel, hs]; simp))
            rw [hs] at HS
            clear hm0 hop hdel hs
            go_upto_region 4 with fail
            refine wp_region_settle (Below wr.heap.size wr) (by kernel_rfl) (by kernel_rfl) (by kernel_rfl) (below_drew (Below.refl _ _)) ?_
            repeat (first
              | (refine settled_not ?_ ?_
                 · rfl
                 simp only [Act.put, List.setIfInBounds_toArray, List.set_cons_zero, List.set_cons_succ])
              | (refine settled_val (v := ?_) ?_ (fun w' hS => ?_) ?_
                 rotate_left
                 · rfl
                 · obtain ⟨k0, k1, k2, k3⟩ := HC.out w' hS
                   go_simp
                   with_reducible rfl
                 simp only [Act.put, List.setIfInBounds_toArray, List.set_cons_zero, List.set_cons_succ])
              | (refine settled_call (f := 71) (v := .int .i64 (may x)) ?_ (fun w' hS => ?_) (fun w' hS => HM.out w' hS) ?_
                 · rfl
                 · go_simp
                 simp only [Act.put, List.setIfInBounds_toArray, List.set_cons_zero, List.set_cons_succ])
              | (refine settled_call (f := 70) (v := .bool false) ?_ (fun w' hS => ?_) (fun w' hS => HS.out w' hS) ?_
                 · rfl
                 · go_simp
                 simp only [Act.put, List.setIfInBounds_toArray, List.set_cons_zero, List.set_cons_succ]))
            refine settled_nil (fun w' hS => ?_)
            go_wp2_with fail
            go_ret
            rw [HH.out]
            exact ⟨rfl, hbw.on hS⟩
          · rw [hs] at HS
            by_cases h0 : i = 0
            · have HP := Lib.hid (show prevOf rs i = none by unfold prevOf; rw [if_pos h0])
              have hpos : decide (0 < i) = false := by simp; omega
              have HH := Lib.hid (HNext.out (by rw [hop, hm0, hdel, hs, HP.out]; rfl))
              clear h0 hm0 hop hdel hs
              go_upto_region 4 with fail
              refine wp_region_settle (Below wr.heap.size wr) (by kernel_rfl) (by kernel_rfl) (by kernel_rfl) (below_drew (Below.refl _ _)) ?_
              repeat (first
                | (refine settled_not ?_ ?_
                   · rfl
                   simp only [Act.put, List.setIfInBounds_toArray, List.set_cons_zero, List.set_cons_succ])
                | (refine settled_val (v := ?_) ?_ (fun w' hS => ?_) ?_
                   rotate_left
                   · rfl
                   · obtain ⟨k0, k1, k2, k3⟩ := HC.out w' hS
                     go_simp
                     with_reducible rfl
                   simp only [Act.put, List.setIfInBounds_toArray, List.set_cons_zero, List.set_cons_succ])
                | (refine settled_call (f := 71) (v := .int .i64 (may x)) ?_ (fun w' hS => ?_) (fun w' hS => HM.out w' hS) ?_
                   · rfl
                   · go_simp
                   simp only [Act.put, List.setIfInBounds_toArray, List.set_cons_zero, List.set_cons_succ])
                | (refine settled_call (f := 70) (v := .bool true) ?_ (fun w' hS => ?_) (fun w' hS => HS.out w' hS) ?_
                   · rfl
                   · go_simp
                   simp only [Act.put, List.setIfInBounds_toArray, List.set_cons_zero, List.set_cons_succ]))
              refine settled_nil (fun w' hS => ?_)
              go_wp2_with fail
              go_roundw
              case rel => exact ⟨i + 1, by omega, by go_num, hbw.on hS, HH.out⟩
              case measure => simp [intOf]; omega
            · have hi1 : i - 1 < n := by omega
              obtain ⟨y, g2, o2, hy, hym, e2, y0, _, _, _⟩ := h.row hbw hi1
              cases e2
              have HP := Lib.hid (show prevOf rs i = some y by unfold prevOf; rw [if_neg h0]; exact hy)
              have hpos : decide (0 < i) = true := by simp; omega
              have hb1 : (0 : Int) ≤ (i : Int) - 1 := by omega
              have hb3 : (1 : Int) ≤ (i : Int) := by omega
              have hb4 : 1 ≤ i := by omega
              have hb2 : (i : Int) - 1 < (n : Int) := by omega
              have hwr : IntKind.i64.wrap ((i : Int) - 1) = (i : Int) - 1 := IntWalk.i64_in _ (by omega)
              have htn : ((i : Int) - 1).toNat = i - 1 := by omega
              have hyk := (hr y hym).key
              have HY := Lib.hid (show ∀ w', Below wr.heap.size wr w' → w'.cell? ⟨g, o + (i - 1) * 4, none⟩ = some (.string ⟨y.key.toArray⟩) from fun w' hb => (hb.cell (p := ⟨g, o + (i - 1) * 4, none⟩) hg).trans y0)
              have HL2 := Lib.hid (show ∀ wa, Below wr.heap.size wr wa → Calls Try.prog 89 #[.string ⟨y.key.toArray⟩, .string ⟨x.key.toArray⟩] wa fun e w' => e = .returned (.bool (Op.bytesLess y.key x.key)) ∧ Below wr.heap.size wr w' from fun wa hb => (less_any y.key x.key wa hyk hxk).mono fun e w' ⟨he, hw⟩ => ⟨he, hb.on hw⟩)
              clear hy y0 hym
              cases hless : Op.bytesLess y.key x.key
              · have HH := Lib.hid (HBad.out (by rw [hop, hm0, hdel, hs, HP.out]; simp [hless]))
                rw [hless] at HL2
                clear hm0 hop hdel hs hless
                go_upto_region 4 with fail
                refine wp_region_settle (Below wr.heap.size wr) (by kernel_rfl) (by kernel_rfl) (by kernel_rfl) (below_drew (Below.refl _ _)) ?_
                repeat (first
                  | (refine settled_not ?_ ?_
                     · rfl
                     simp only [Act.put, List.setIfInBounds_toArray, List.set_cons_zero, List.set_cons_succ])
                  | (refine settled_val (v := ?_) ?_ (fun w' hS => ?_) ?_
                     rotate_left
                     · rfl
                     · obtain ⟨k0, k1, k2, k3⟩ := HC.out w' hS
                       have k4 := HY.out w' hS
                       go_simp
                       with_reducible rfl
                     simp only [Act.put, List.setIfInBounds_toArray, List.set_cons_zero, List.set_cons_succ])
                  | (refine settled_call (f := 71) (v := .int .i64 (may x)) ?_ (fun w' hS => ?_) (fun w' hS => HM.out w' hS) ?_
                     · rfl
                     · go_simp
                     simp only [Act.put, List.setIfInBounds_toArray, List.set_cons_zero, List.set_cons_succ])
                  | (refine settled_call (f := 70) (v := .bool true) ?_ (fun w' hS => ?_) (fun w' hS => HS.out w' hS) ?_
                     · rfl
                     · go_simp
                     simp only [Act.put, List.setIfInBounds_toArray, List.set_cons_zero, List.set_cons_succ])
                  | (refine settled_call (f := 89) (v := .bool false) ?_ (fun w' hS => ?_) (fun w' hS => HL2.out w' hS) ?_
                     · rfl
                     · go_simp
                     simp only [Act.put, List.setIfInBounds_toArray, List.set_cons_zero, List.set_cons_succ]))
                refine settled_nil (fun w' hS => ?_)
                go_wp2_with fail
                go_ret
                rw [HH.out]
                exact ⟨rfl, hbw.on hS⟩
              · have HH := Lib.hid (HNext.out (by rw [hop, hm0, hdel, hs, HP.out]; simp [hless]))
                rw [hless] at HL2
                clear hm0 hop hdel hs hless
                go_upto_region 4 with fail
                refine wp_region_settle (Below wr.heap.size wr) (by kernel_rfl) (by kernel_rfl) (by kernel_rfl) (below_drew (Below.refl _ _)) ?_
                repeat (first
                  | (refine settled_not ?_ ?_
                     · rfl
                     simp only [Act.put, List.setIfInBounds_toArray, List.set_cons_zero, List.set_cons_succ])
                  | (refine settled_val (v := ?_) ?_ (fun w' hS => ?_) ?_
                     rotate_left
                     · rfl
                     · obtain ⟨k0, k1, k2, k3⟩ := HC.out w' hS
                       have k4 := HY.out w' hS
                       go_simp
                       with_reducible rfl
                     simp only [Act.put, List.setIfInBounds_toArray, List.set_cons_zero, List.set_cons_succ])
                  | (refine settled_call (f := 71) (v := .int .i64 (may x)) ?_ (fun w' hS => ?_) (fun w' hS => HM.out w' hS) ?_
                     · rfl
                     · go_simp
                     simp only [Act.put, List.setIfInBounds_toArray, List.set_cons_zero, List.set_cons_succ])
                  | (refine settled_call (f := 70) (v := .bool true) ?_ (fun w' hS => ?_) (fun w' hS => HS.out w' hS) ?_
                     · rfl
                     · go_simp
                     simp only [Act.put, List.setIfInBounds_toArray, List.set_cons_zero, List.set_cons_succ])
                  | (refine settled_call (f := 89) (v := .bool true) ?_ (fun w' hS => ?_) (fun w' hS => HL2.out w' hS) ?_
                     · rfl
                     · go_simp
                     simp only [Act.put, List.setIfInBounds_toArray, List.set_cons_zero, List.set_cons_succ]))
                refine settled_nil (fun w' hS => ?_)
                go_wp2_with fail
                go_roundw
                case rel => exact ⟨i + 1, by omega, by go_num, hbw.on hS, HH.out⟩
                case measure => simp [intOf]; omega
        · rw [hdel] at HC HM
          have HH := Lib.hid (HBad.out (by rw [hop, hdel]; simp))
          clear hm0 hop hdel
          go_upto_region 4 with fail
          refine wp_region_settle (Below wr.heap.size wr) (by kernel_rfl) (by kernel_rfl) (by kernel_rfl) (below_drew (Below.refl _ _)) ?_
          repeat (first
            | (refine settled_not ?_ ?_
               · rfl
               simp only [Act.put, List.setIfInBounds_toArray, List.set_cons_zero, List.set_cons_succ])
            | (refine settled_val (v := ?_) ?_ (fun w' hS => ?_) ?_
               rotate_left
               · rfl
               · obtain ⟨k0, k1, k2, k3⟩ := HC.out w' hS
                 go_simp
                 with_reducible rfl
               simp only [Act.put, List.setIfInBounds_toArray, List.set_cons_zero, List.set_cons_succ])
            | (refine settled_call (f := 71) (v := .int .i64 (may x)) ?_ (fun w' hS => ?_) (fun w' hS => HM.out w' hS) ?_
               · rfl
               · go_simp
               simp only [Act.put, List.setIfInBounds_toArray, List.set_cons_zero, List.set_cons_succ])
            | (refine settled_call (f := 70) (v := .bool (stampB x.lsn)) ?_ (fun w' hS => ?_) (fun w' hS => HS.out w' hS) ?_
               · rfl
               · go_simp
               simp only [Act.put, List.setIfInBounds_toArray, List.set_cons_zero, List.set_cons_succ]))
          refine settled_nil (fun w' hS => ?_)
          go_wp2_with fail
          go_ret
          rw [HH.out]
          exact ⟨rfl, hbw.on hS⟩
      · have hme : (((may x : Nat) : Int) != 0) = true := by simp; omega
        have HH := Lib.hid (HBad.out (by rw [hop]; simp [hm0]))
        clear hm0 hop
        go_upto_region 4 with fail
        refine wp_region_settle (Below wr.heap.size wr) (by kernel_rfl) (by kernel_rfl) (by kernel_rfl) (below_drew (Below.refl _ _)) ?_
        repeat (first
          | (refine settled_not ?_ ?_
             · rfl
             simp only [Act.put, List.setIfInBounds_toArray, List.set_cons_zero, List.set_cons_succ])
          | (refine settled_val (v := ?_) ?_ (fun w' hS => ?_) ?_
             rotate_left
             · rfl
             · obtain ⟨k0, k1, k2, k3⟩ := HC.out w' hS
               go_simp
               with_reducible rfl
             simp only [Act.put, List.setIfInBounds_toArray, List.set_cons_zero, List.set_cons_succ])
          | (refine settled_call (f := 71) (v := .int .i64 (may x)) ?_ (fun w' hS => ?_) (fun w' hS => HM.out w' hS) ?_
             · rfl
             · go_simp
             simp only [Act.put, List.setIfInBounds_toArray, List.set_cons_zero, List.set_cons_succ])
          | (refine settled_call (f := 70) (v := .bool (stampB x.lsn)) ?_ (fun w' hS => ?_) (fun w' hS => HS.out w' hS) ?_
             · rfl
             · go_simp
             simp only [Act.put, List.setIfInBounds_toArray, List.set_cons_zero, List.set_cons_succ]))
        refine settled_nil (fun w' hS => ?_)
        go_wp2_with fail
        go_ret
        rw [HH.out]
        exact ⟨rfl, hbw.on hS⟩
    · have hin : n ≤ i := by omega
      have HV := Lib.hid (show valuesM rs = true by rw [hval, List.drop_of_length_le (by rw [HL.out]; omega)]; rfl)
      clear hval
      go_wp2_with fail
      go_ret
      rw [HV.out]
      exact ⟨rfl, hbw⟩
end Go.Proofs.Ytnijijcbdajodaa
