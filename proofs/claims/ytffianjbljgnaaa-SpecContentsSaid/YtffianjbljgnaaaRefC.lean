/-
  The document's Content. Conditions: at most a million records, a million entries, a thousand operations in each. (Printed by gen_refc.py.)
-/
import Derived.Test.YtffianjbljgnaaaCont
namespace Go.Proofs.Ytffianjbljgnaaa
set_option linter.unusedVariables false
set_option linter.unusedSimpArgs false
open Go.RowKit

set_option maxRecDepth 100000 in
set_option maxHeartbeats 32000000 in
theorem refC_any (w : World) (aw : Option Addr) (nw cw : Nat) (W : List Rec) (hW : RowsAt w aw nw cw 4 (recsCells W)) (eW : nw = W.length) (bW : nw ≤ 1000000)
    (a : Option Addr) (n c : Nat) (z : List EZ) (h : EntsAt w a n c z) (hn : n ≤ 1000000) (hops : ∀ q ∈ z, q.2.ops.length ≤ 1000)
    (am : Option Addr) (nm cm : Nat) (N : List Rec) (hN : RowsAt w am nm cm 4 (recsCells N)) (eN : nm = N.length) (bN : nm ≤ 1000000) :
    Calls Try.prog 20 #[.slice aw nw cw, .slice a n c, .slice am nm cm] w fun e w' => e = .returned (.int .i64 (contentL W (z.map (·.2)) N)) ∧ Below w.heap.size w w' := by
  have HW := Lib.hid hW
  have EW := Lib.hid eW
  have HH := Lib.hid h
  have HO := Lib.hid hops
  have HN := Lib.hid hN
  have EN := Lib.hid eN
  have HB0 := Lib.hid (Below.refl w.heap.size w)
  clear hW eW h hops hN eN
  go_enter Try.func20, Try.ntmps20
  go_wp2_with fail
  go_loopw [7, 8, 9, 10, 11, 12] (fun s7 _ _ _ _ _ wr => ∃ i : Nat, i ≤ nm ∧ s7 = .int .i64 i ∧ firstBad (okN W (z.map (·.2))) N 0 = firstBad (okN W (z.map (·.2))) (N.drop i) i ∧ Below w.heap.size w wr) (fun s7 _ _ _ _ _ _ => nm - (intOf s7).toNat)
  case atStart => exact ⟨0, by omega, rfl, rfl, HB0.out⟩
  case round =>
    obtain ⟨i, hi, rfl, hfb, hb⟩ := hrel
    by_cases hlt : i < nm
    · have hil : (i : Int) < (nm : Int) := by omega
      obtain ⟨r, gr, or_, hr, hrl, rfl, hrc⟩ := recs_rowB HN.out EN.out hlt
      have HRC := Lib.hid hrc
      have HStep := Lib.hid (show firstBad (okN W (z.map (·.2))) N 0 = if okN W (z.map (·.2)) r then firstBad (okN W (z.map (·.2))) (N.drop (i + 1)) (i + 1) else some i by rw [hfb]; exact firstBad_step _ _ _ _ hr)
      obtain ⟨rk, rl, rd, rv⟩ := r
      have HB := Lib.hid hb
      clear hr hrl hrc hfb hb
      go_wp2_with fail
      generalize wr = wo at *
      go_loopw [8, 9] (fun s8 s9 wr => ∃ k : Nat, k ≤ nw ∧ s9 = .int .i64 k ∧ s8 = .bool (isR (W.take k) ⟨rk, rl, rd, rv⟩) ∧ Below w.heap.size w wr) (fun _ s9 _ => nw - (intOf s9).toNat)
      case atStart => exact ⟨0, by omega, rfl, rfl, HB.out⟩
      case round =>
        clear HB
        obtain ⟨k, hk, rfl, rfl, hb⟩ := hrel
        have HB := Lib.hid hb
        clear hb
        by_cases hkn : k < nw
        · have hkl : (k : Int) < (nw : Int) := by omega
          obtain ⟨q, gq, oq, hq, hql, rfl, hqc⟩ := recs_rowB HW.out EW.out hkn
          have HQC := Lib.hid hqc
          have HNx := Lib.hid (any_next (fun q => decide (q = (⟨rk, rl, rd, rv⟩ : Rec))) W k q hq)
          obtain ⟨qk, ql, qd, qv⟩ := q
          clear hq hql hqc
          have hcmp : ∀ w, _ := fun w => run_eql_rec ⟨qk, ql, qd, qv⟩ ⟨rk, rl, rd, rv⟩ w
          unfold recV at hcmp
          simp only at hcmp
          generalize decide ((⟨qk, ql, qd, qv⟩ : Rec) = ⟨rk, rl, rd, rv⟩) = bq at *
          cases hA : isR (W.take k) ⟨rk, rl, rd, rv⟩ with
          | true =>
            have HX := Lib.hid (show isR (W.take (k + 1)) ⟨rk, rl, rd, rv⟩ = true by unfold isR at hA ⊢; rw [HNx.out, hA]; rfl)
            clear hA
            go_upto_region 8 with fail
            refine wp_region_settle (Below wr.heap.size wr) (by kernel_rfl) (by kernel_rfl) (by kernel_rfl) (below_drew (Below.refl _ _)) ?_
            repeat (first
              | (refine settled_not ?_ ?_
                 · rfl
                 simp only [Act.put, List.setIfInBounds_toArray, List.set_cons_zero, List.set_cons_succ])
              | (refine settled_val (v := ?_) ?_ (fun w' hS => ?_) ?_
                 rotate_left
                 · rfl
                 · obtain ⟨k0, k1, k2, k3⟩ := HQC.out w' (HB.out.trans (hS.mono HB.out.size))
                   obtain ⟨m0, m1, m2, m3⟩ := HRC.out w' (HB.out.trans (hS.mono HB.out.size))
                   simp only at k0 k1 k2 k3 m0 m1 m2 m3
                   go_simp
                   with_reducible rfl
                 simp only [Act.put, List.setIfInBounds_toArray, List.set_cons_zero, List.set_cons_succ]))
            refine settled_nil (fun w2 hS => ?_)
            have HB2 := Lib.hid (HB.out.trans (hS.mono HB.out.size))
            clear hS
            go_wp2_with fail
            go_roundw
            case rel => exact ⟨k + 1, by omega, by go_num, by rw [HX.out], HB2.out⟩
            case measure => simp [intOf]; omega
          | false =>
            have HX := Lib.hid (show isR (W.take (k + 1)) ⟨rk, rl, rd, rv⟩ = bq by unfold isR at hA ⊢; rw [HNx.out, hA]; rfl)
            clear hA
            go_upto_region 8 with fail
            refine wp_region_settle (Below wr.heap.size wr) (by kernel_rfl) (by kernel_rfl) (by kernel_rfl) (below_drew (Below.refl _ _)) ?_
            repeat (first
              | (refine settled_not ?_ ?_
                 · rfl
                 simp only [Act.put, List.setIfInBounds_toArray, List.set_cons_zero, List.set_cons_succ])
              | (refine settled_val (v := ?_) ?_ (fun w' hS => ?_) ?_
                 rotate_left
                 · rfl
                 · obtain ⟨k0, k1, k2, k3⟩ := HQC.out w' (HB.out.trans (hS.mono HB.out.size))
                   obtain ⟨m0, m1, m2, m3⟩ := HRC.out w' (HB.out.trans (hS.mono HB.out.size))
                   simp only at k0 k1 k2 k3 m0 m1 m2 m3
                   go_simp
                   with_reducible rfl
                 simp only [Act.put, List.setIfInBounds_toArray, List.set_cons_zero, List.set_cons_succ]))
            refine settled_nil (fun w2 hS => ?_)
            have HB2 := Lib.hid (HB.out.trans (hS.mono HB.out.size))
            clear hS
            go_wp2_with fail
            go_roundw
            case rel => exact ⟨k + 1, by omega, by go_num, by rw [HX.out], HB2.out⟩
            case measure => simp [intOf]; omega
        · have hke : ¬ (k : Int) < (nw : Int) := by omega
          rw [List.take_of_length_le (show W.length ≤ k by have := EW.out; omega)]
          go_wp2_with fail
          generalize wr = wo2 at *
          go_loopw [8, 10, 11] (fun s8 s10 _ wr => ∃ j : Nat, j ≤ n ∧ s10 = .int .i64 j ∧ s8 = .bool (isR W ⟨rk, rl, rd, rv⟩ || isE ((z.map (·.2)).take j) ⟨rk, rl, rd, rv⟩) ∧ Below w.heap.size w wr) (fun _ s10 _ _ => n - (intOf s10).toNat)
          case atStart => exact ⟨0, by omega, rfl, by rw [show isE ((z.map (·.2)).take 0) ⟨rk, rl, rd, rv⟩ = false from rfl, Bool.or_false], HB.out⟩
          case round =>
            clear HB
            obtain ⟨j, hj, rfl, rfl, hb⟩ := hrel
            have HB := Lib.hid hb
            clear hb
            by_cases hjn : j < n
            · have hjl : (j : Int) < (n : Int) := by omega
              obtain ⟨q, ge, oe, hq, hqz, rfl, hqc⟩ := HH.out.rowB hjn
              have HEC := Lib.hid hqc
              have HQO := Lib.hid (HO.out q hqz)
              have HQE := Lib.hid (HH.out.each q hqz)
              have HNe := Lib.hid (show isE ((z.map (·.2)).take (j + 1)) ⟨rk, rl, rd, rv⟩ = (isE ((z.map (·.2)).take j) ⟨rk, rl, rd, rv⟩ || isR q.2.ops ⟨rk, rl, rd, rv⟩) from any_next _ _ j q.2 (by rw [List.getElem?_map, hq]; rfl))
              obtain ⟨⟨ets, ef, ea, en, ec⟩, x⟩ := q
              simp only at hqc
              clear hq hqz hqc
              have hen : en ≤ 1000 := by have h1 := HQE.out.n; have h2 := HQO.out; simp only at h1 h2; omega
              generalize hA : (isR W ⟨rk, rl, rd, rv⟩ || isE ((z.map (·.2)).take j) ⟨rk, rl, rd, rv⟩) = A
              have HA := Lib.hid hA
              clear hA
              go_wp2_with fail
              generalize wr = wo3 at *
              go_loopw [8, 11] (fun s8 s11 wr => ∃ k : Nat, k ≤ en ∧ s11 = .int .i64 k ∧ s8 = .bool (A || isR (x.ops.take k) ⟨rk, rl, rd, rv⟩) ∧ Below w.heap.size w wr) (fun _ s11 _ => en - (intOf s11).toNat)
              case atStart => exact ⟨0, by omega, rfl, by rw [show isR (x.ops.take 0) ⟨rk, rl, rd, rv⟩ = false from rfl, Bool.or_false], HB.out⟩
              case round =>
                clear HB
                obtain ⟨k, hk, rfl, rfl, hb⟩ := hrel
                have HB := Lib.hid hb
                clear hb
                obtain ⟨c0, c1, c2⟩ := HEC.out wr HB.out
                clear c0 c1
                by_cases hkn : k < en
                · have hkl : (k : Int) < (en : Int) := by omega
                  obtain ⟨q, gq, oq, hq, hql, hea, hqc⟩ := recs_rowB HQE.out.rows HQE.out.n hkn
                  have HQC := Lib.hid hqc
                  have HNx := Lib.hid (any_next (fun q => decide (q = (⟨rk, rl, rd, rv⟩ : Rec))) x.ops k q hq)
                  obtain ⟨qk, ql, qd, qv⟩ := q
                  simp only at hea
                  subst hea
                  clear hq hql hqc
                  have hcmp : ∀ w, _ := fun w => run_eql_rec ⟨qk, ql, qd, qv⟩ ⟨rk, rl, rd, rv⟩ w
                  unfold recV at hcmp
                  simp only at hcmp
                  generalize decide ((⟨qk, ql, qd, qv⟩ : Rec) = ⟨rk, rl, rd, rv⟩) = bq at *
                  cases hB : (A || isR (x.ops.take k) ⟨rk, rl, rd, rv⟩) with
                  | true =>
                    have HX := Lib.hid (show (A || isR (x.ops.take (k + 1)) ⟨rk, rl, rd, rv⟩) = true by unfold isR at hB ⊢; rw [HNx.out, ← Bool.or_assoc, hB]; rfl)
                    clear hB
                    go_upto_region 15 with fail
                    refine wp_region_settle (Below wr.heap.size wr) (by kernel_rfl) (by kernel_rfl) (by kernel_rfl) (below_drew (Below.refl _ _)) ?_
                    repeat (first
                      | (refine settled_not ?_ ?_
                         · rfl
                         simp only [Act.put, List.setIfInBounds_toArray, List.set_cons_zero, List.set_cons_succ])
                      | (refine settled_val (v := ?_) ?_ (fun w' hS => ?_) ?_
                         rotate_left
                         · rfl
                         · obtain ⟨k0, k1, k2, k3⟩ := HQC.out w' (HB.out.trans (hS.mono HB.out.size))
                           obtain ⟨m0, m1, m2, m3⟩ := HRC.out w' (HB.out.trans (hS.mono HB.out.size))
                           obtain ⟨_, _, e2⟩ := HEC.out w' (HB.out.trans (hS.mono HB.out.size))
                           simp only at k0 k1 k2 k3 m0 m1 m2 m3 e2
                           go_simp
                           with_reducible rfl
                         simp only [Act.put, List.setIfInBounds_toArray, List.set_cons_zero, List.set_cons_succ]))
                    refine settled_nil (fun w2 hS => ?_)
                    have HB2 := Lib.hid (HB.out.trans (hS.mono HB.out.size))
                    clear hS
                    go_wp2_with fail
                    go_roundw
                    case rel => exact ⟨k + 1, by omega, by go_num, by rw [HX.out], HB2.out⟩
                    case measure => simp [intOf]; omega
                  | false =>
                    have HX := Lib.hid (show (A || isR (x.ops.take (k + 1)) ⟨rk, rl, rd, rv⟩) = bq by unfold isR at hB ⊢; rw [HNx.out, ← Bool.or_assoc, hB]; rfl)
                    clear hB
                    go_upto_region 15 with fail
                    refine wp_region_settle (Below wr.heap.size wr) (by kernel_rfl) (by kernel_rfl) (by kernel_rfl) (below_drew (Below.refl _ _)) ?_
                    repeat (first
                      | (refine settled_not ?_ ?_
                         · rfl
                         simp only [Act.put, List.setIfInBounds_toArray, List.set_cons_zero, List.set_cons_succ])
                      | (refine settled_val (v := ?_) ?_ (fun w' hS => ?_) ?_
                         rotate_left
                         · rfl
                         · obtain ⟨k0, k1, k2, k3⟩ := HQC.out w' (HB.out.trans (hS.mono HB.out.size))
                           obtain ⟨m0, m1, m2, m3⟩ := HRC.out w' (HB.out.trans (hS.mono HB.out.size))
                           obtain ⟨_, _, e2⟩ := HEC.out w' (HB.out.trans (hS.mono HB.out.size))
                           simp only at k0 k1 k2 k3 m0 m1 m2 m3 e2
                           go_simp
                           with_reducible rfl
                         simp only [Act.put, List.setIfInBounds_toArray, List.set_cons_zero, List.set_cons_succ]))
                    refine settled_nil (fun w2 hS => ?_)
                    have HB2 := Lib.hid (HB.out.trans (hS.mono HB.out.size))
                    clear hS
                    go_wp2_with fail
                    go_roundw
                    case rel => exact ⟨k + 1, by omega, by go_num, by rw [HX.out], HB2.out⟩
                    case measure => simp [intOf]; omega
                · have hke : ¬ (k : Int) < (en : Int) := by omega
                  rw [List.take_of_length_le (show x.ops.length ≤ k by have := HQE.out.n; simp only at this; omega)]
                  have HX := Lib.hid (show (A || isR x.ops ⟨rk, rl, rd, rv⟩) = (isR W ⟨rk, rl, rd, rv⟩ || isE ((z.map (·.2)).take (j + 1)) ⟨rk, rl, rd, rv⟩) by rw [HNe.out, ← HA.out, Bool.or_assoc])
                  go_wp2_with fail
                  go_roundw
                  case rel => exact ⟨j + 1, by omega, by go_num, by rw [HX.out], HB.out⟩
                  case measure => simp [intOf]; omega
            · have hje : ¬ (j : Int) < (n : Int) := by omega
              rw [List.take_of_length_le (show (z.map (·.2)).length ≤ j by rw [List.length_map]; have := HH.out.len; omega)]
              go_wp2_with fail
              generalize wr = wo4 at *
              generalize hA : (isR W ⟨rk, rl, rd, rv⟩ || isE (z.map (·.2)) ⟨rk, rl, rd, rv⟩) = A
              have HA := Lib.hid hA
              clear hA
              go_loopw [8, 12] (fun s8 s12 wr => ∃ k : Nat, k ≤ nw ∧ s12 = .int .i64 k ∧ s8 = .bool (A && !newer (W.take k) ⟨rk, rl, rd, rv⟩) ∧ Below w.heap.size w wr) (fun _ s12 _ => nw - (intOf s12).toNat)
              case atStart => exact ⟨0, by omega, rfl, by rw [show newer (W.take 0) ⟨rk, rl, rd, rv⟩ = false from rfl, Bool.not_false, Bool.and_true], HB.out⟩
              case round =>
                clear HB
                obtain ⟨k, hk, rfl, rfl, hb⟩ := hrel
                have HB := Lib.hid hb
                clear hb
                by_cases hkn : k < nw
                · have hkl : (k : Int) < (nw : Int) := by omega
                  obtain ⟨q, gq, oq, hq, hql, rfl, hqc⟩ := recs_rowB HW.out EW.out hkn
                  have HQC := Lib.hid hqc
                  have HNx := Lib.hid (show newer (W.take (k + 1)) ⟨rk, rl, rd, rv⟩ = (newer (W.take k) ⟨rk, rl, rd, rv⟩ || (decide (q.key = rk) && decide (rl < q.lsn))) from any_next _ W k q hq)
                  obtain ⟨qk, ql, qd, qv⟩ := q
                  clear hq hql hqc
                  by_cases hke : qk = rk
                  · have e1 : ((⟨qk.toArray⟩ : ByteArray) == ⟨rk.toArray⟩) = true := by rw [bytes_beq]; simp [hke]
                    have e2 : (qk == rk) = true := by rw [beq_dec]; simp [hke]
                    have HKe := Lib.hid hke
                    clear hke
                    by_cases hlq : rl < ql
                    · have hgt : (rl : Int) < (ql : Int) := by omega
                      have HX := Lib.hid (show (A && !newer (W.take (k + 1)) ⟨rk, rl, rd, rv⟩) = false by rw [HNx.out]; simp [HKe.out, hlq])
                      clear hlq
                      go_upto_region 19 with fail
                      refine wp_region_settle (Below wr.heap.size wr) (by kernel_rfl) (by kernel_rfl) (by kernel_rfl) (below_drew (Below.refl _ _)) ?_
                      repeat (first
                        | (refine settled_not ?_ ?_
                           · rfl
                           simp only [Act.put, List.setIfInBounds_toArray, List.set_cons_zero, List.set_cons_succ])
                        | (refine settled_val (v := ?_) ?_ (fun w' hS => ?_) ?_
                           rotate_left
                           · rfl
                           · obtain ⟨k0, k1, k2, k3⟩ := HQC.out w' (HB.out.trans (hS.mono HB.out.size))
                             obtain ⟨m0, m1, m2, m3⟩ := HRC.out w' (HB.out.trans (hS.mono HB.out.size))
                             simp only at k0 k1 k2 k3 m0 m1 m2 m3
                             go_simp
                             with_reducible rfl
                           simp only [Act.put, List.setIfInBounds_toArray, List.set_cons_zero, List.set_cons_succ]))
                      refine settled_nil (fun w2 hS => ?_)
                      have HB2 := Lib.hid (HB.out.trans (hS.mono HB.out.size))
                      clear hS
                      go_wp2_with fail
                      go_roundw
                      case rel => exact ⟨k + 1, by omega, by go_num, by rw [HX.out], HB2.out⟩
                      case measure => simp [intOf]; omega
                    · have hgt : ¬ (rl : Int) < (ql : Int) := by omega
                      have HX := Lib.hid (show (A && !newer (W.take (k + 1)) ⟨rk, rl, rd, rv⟩) = (A && !newer (W.take k) ⟨rk, rl, rd, rv⟩) by rw [HNx.out]; simp [hlq])
                      clear hlq
                      go_upto_region 19 with fail
                      refine wp_region_settle (Below wr.heap.size wr) (by kernel_rfl) (by kernel_rfl) (by kernel_rfl) (below_drew (Below.refl _ _)) ?_
                      repeat (first
                        | (refine settled_not ?_ ?_
                           · rfl
                           simp only [Act.put, List.setIfInBounds_toArray, List.set_cons_zero, List.set_cons_succ])
                        | (refine settled_val (v := ?_) ?_ (fun w' hS => ?_) ?_
                           rotate_left
                           · rfl
                           · obtain ⟨k0, k1, k2, k3⟩ := HQC.out w' (HB.out.trans (hS.mono HB.out.size))
                             obtain ⟨m0, m1, m2, m3⟩ := HRC.out w' (HB.out.trans (hS.mono HB.out.size))
                             simp only at k0 k1 k2 k3 m0 m1 m2 m3
                             go_simp
                             with_reducible rfl
                           simp only [Act.put, List.setIfInBounds_toArray, List.set_cons_zero, List.set_cons_succ]))
                      refine settled_nil (fun w2 hS => ?_)
                      have HB2 := Lib.hid (HB.out.trans (hS.mono HB.out.size))
                      clear hS
                      go_wp2_with fail
                      go_roundw
                      case rel => exact ⟨k + 1, by omega, by go_num, by rw [HX.out], HB2.out⟩
                      case measure => simp [intOf]; omega
                  · have e1 : ((⟨qk.toArray⟩ : ByteArray) == ⟨rk.toArray⟩) = false := by rw [bytes_beq]; simp [hke]
                    have e2 : (qk == rk) = false := by rw [beq_dec]; simp [hke]
                    have HX := Lib.hid (show (A && !newer (W.take (k + 1)) ⟨rk, rl, rd, rv⟩) = (A && !newer (W.take k) ⟨rk, rl, rd, rv⟩) by rw [HNx.out]; simp [hke])
                    clear hke
                    go_upto_region 19 with fail
                    refine wp_region_settle (Below wr.heap.size wr) (by kernel_rfl) (by kernel_rfl) (by kernel_rfl) (below_drew (Below.refl _ _)) ?_
                    repeat (first
                      | (refine settled_not ?_ ?_
                         · rfl
                         simp only [Act.put, List.setIfInBounds_toArray, List.set_cons_zero, List.set_cons_succ])
                      | (refine settled_val (v := ?_) ?_ (fun w' hS => ?_) ?_
                         rotate_left
                         · rfl
                         · obtain ⟨k0, k1, k2, k3⟩ := HQC.out w' (HB.out.trans (hS.mono HB.out.size))
                           obtain ⟨m0, m1, m2, m3⟩ := HRC.out w' (HB.out.trans (hS.mono HB.out.size))
                           simp only at k0 k1 k2 k3 m0 m1 m2 m3
                           go_simp
                           with_reducible rfl
                         simp only [Act.put, List.setIfInBounds_toArray, List.set_cons_zero, List.set_cons_succ]))
                    refine settled_nil (fun w2 hS => ?_)
                    have HB2 := Lib.hid (HB.out.trans (hS.mono HB.out.size))
                    clear hS
                    go_wp2_with fail
                    go_roundw
                    case rel => exact ⟨k + 1, by omega, by go_num, by rw [HX.out], HB2.out⟩
                    case measure => simp [intOf]; omega
                · have hke : ¬ (k : Int) < (nw : Int) := by omega
                  rw [List.take_of_length_le (show W.length ≤ k by have := EW.out; omega)]
                  have HOk := Lib.hid (show okN W (z.map (·.2)) ⟨rk, rl, rd, rv⟩ = (A && !newer W ⟨rk, rl, rd, rv⟩) by unfold okN; rw [HA.out])
                  generalize (A && !newer W ⟨rk, rl, rd, rv⟩) = ok at *
                  cases ok with
                  | true =>
                    have HX := Lib.hid (show firstBad (okN W (z.map (·.2))) N 0 = firstBad (okN W (z.map (·.2))) (N.drop (i + 1)) (i + 1) by rw [HStep.out, if_pos HOk.out])
                    go_wp2_with fail
                    go_roundw
                    case rel => exact ⟨i + 1, by omega, by go_num, HX.out, HB.out⟩
                    case measure => simp [intOf]; omega
                  | false =>
                    have HX := Lib.hid (show contentL W (z.map (·.2)) N = (i : Int) by unfold contentL; rw [HStep.out, if_neg (by rw [HOk.out]; decide)])
                    go_wp2_with fail
                    go_ret
                    exact ⟨by rw [HX.out]; try rfl, HB.out⟩
    · have hge : ¬ (i : Int) < (nm : Int) := by omega
      have HF := Lib.hid (show firstBad (okN W (z.map (·.2))) N 0 = none by rw [hfb]; exact firstBad_end _ _ _ (by have := EN.out; omega))
      have HB := Lib.hid hb
      clear hfb hb
      go_wp2_with fail
      clear hge hlt
      generalize wr = wo5 at *
      go_loopw [13, 14, 15, 16, 17, 18] (fun s13 _ _ _ _ _ wr => ∃ i : Nat, i ≤ nw ∧ s13 = .int .i64 i ∧ firstBad (okW N (z.map (·.2))) W 0 = firstBad (okW N (z.map (·.2))) (W.drop i) i ∧ Below w.heap.size w wr) (fun s13 _ _ _ _ _ _ => nw - (intOf s13).toNat)
      case atStart => exact ⟨0, by omega, rfl, rfl, HB.out⟩
      case round =>
        clear HB hi
        obtain ⟨i, hi, rfl, hfb, hb⟩ := hrel
        by_cases hlt : i < nw
        · have hil : (i : Int) < (nw : Int) := by omega
          obtain ⟨r, gr, or_, hr, hrl, rfl, hrc⟩ := recs_rowB HW.out EW.out hlt
          have HRC := Lib.hid hrc
          have HStep := Lib.hid (show firstBad (okW N (z.map (·.2))) W 0 = if okW N (z.map (·.2)) r then firstBad (okW N (z.map (·.2))) (W.drop (i + 1)) (i + 1) else some i by rw [hfb]; exact firstBad_step _ _ _ _ hr)
          obtain ⟨rk, rl, rd, rv⟩ := r
          obtain ⟨_, _, d2, _⟩ := hrc wr hb
          simp only at d2
          have HB := Lib.hid hb
          clear hr hrl hrc hfb hb
          go_wp2_with fail
          clear d2
          generalize wr = wo6 at *
          go_loopw [14, 15] (fun s14 s15 wr => ∃ k : Nat, k ≤ nm ∧ s15 = .int .i64 k ∧ s14 = .bool (rd || knownR (N.take k) rk) ∧ Below w.heap.size w wr) (fun _ s15 _ => nm - (intOf s15).toNat)
          case atStart => exact ⟨0, by omega, rfl, by rw [show knownR (N.take 0) rk = false from rfl, Bool.or_false], HB.out⟩
          case round =>
            clear HB
            obtain ⟨k, hk, rfl, rfl, hb⟩ := hrel
            have HB := Lib.hid hb
            clear hb
            by_cases hkn : k < nm
            · have hkl : (k : Int) < (nm : Int) := by omega
              obtain ⟨q, gq, oq, hq, hql, rfl, hqc⟩ := recs_rowB HN.out EN.out hkn
              have HQC := Lib.hid hqc
              have HNx := Lib.hid (knownR_next N k rk q hq)
              obtain ⟨qk, ql, qd, qv⟩ := q
              clear hq hql hqc
              cases hA : (rd || knownR (N.take k) rk) with
              | true =>
                have HX := Lib.hid (show (rd || knownR (N.take (k + 1)) rk) = true by rw [HNx.out, ← Bool.or_assoc, hA]; rfl)
                clear hA
                go_upto_region 30 with fail
                refine wp_region_settle (Below wr.heap.size wr) (by kernel_rfl) (by kernel_rfl) (by kernel_rfl) (below_drew (Below.refl _ _)) ?_
                repeat (first
                  | (refine settled_not ?_ ?_
                     · rfl
                     simp only [Act.put, List.setIfInBounds_toArray, List.set_cons_zero, List.set_cons_succ])
                  | (refine settled_val (v := ?_) ?_ (fun w' hS => ?_) ?_
                     rotate_left
                     · rfl
                     · obtain ⟨k0, k1, k2, k3⟩ := HQC.out w' (HB.out.trans (hS.mono HB.out.size))
                       obtain ⟨m0, m1, m2, m3⟩ := HRC.out w' (HB.out.trans (hS.mono HB.out.size))
                       simp only at k0 k1 k2 k3 m0 m1 m2 m3
                       go_simp
                       with_reducible rfl
                     simp only [Act.put, List.setIfInBounds_toArray, List.set_cons_zero, List.set_cons_succ]))
                refine settled_nil (fun w2 hS => ?_)
                have HB2 := Lib.hid (HB.out.trans (hS.mono HB.out.size))
                clear hS
                go_wp2_with fail
                go_roundw
                case rel => exact ⟨k + 1, by omega, by go_num, by rw [HX.out], HB2.out⟩
                case measure => simp [intOf]; omega
              | false =>
                have HX := Lib.hid (show (rd || knownR (N.take (k + 1)) rk) = (qk == rk) by rw [HNx.out, ← Bool.or_assoc, hA, beq_dec]; rfl)
                clear hA
                go_upto_region 30 with fail
                refine wp_region_settle (Below wr.heap.size wr) (by kernel_rfl) (by kernel_rfl) (by kernel_rfl) (below_drew (Below.refl _ _)) ?_
                repeat (first
                  | (refine settled_not ?_ ?_
                     · rfl
                     simp only [Act.put, List.setIfInBounds_toArray, List.set_cons_zero, List.set_cons_succ])
                  | (refine settled_val (v := ?_) ?_ (fun w' hS => ?_) ?_
                     rotate_left
                     · rfl
                     · obtain ⟨k0, k1, k2, k3⟩ := HQC.out w' (HB.out.trans (hS.mono HB.out.size))
                       obtain ⟨m0, m1, m2, m3⟩ := HRC.out w' (HB.out.trans (hS.mono HB.out.size))
                       simp only at k0 k1 k2 k3 m0 m1 m2 m3
                       go_simp
                       with_reducible rfl
                     simp only [Act.put, List.setIfInBounds_toArray, List.set_cons_zero, List.set_cons_succ]))
                refine settled_nil (fun w2 hS => ?_)
                have HB2 := Lib.hid (HB.out.trans (hS.mono HB.out.size))
                clear hS
                go_wp2_with fail
                go_roundw
                case rel => exact ⟨k + 1, by omega, by go_num, by rw [HX.out]; try (first | rfl | (rw [bytes_beq, beq_dec])), HB2.out⟩
                case measure => simp [intOf]; omega
            · have hke : ¬ (k : Int) < (nm : Int) := by omega
              rw [List.take_of_length_le (show N.length ≤ k by have := EN.out; omega)]
              generalize hA : (rd || knownR N rk) = A
              have HA := Lib.hid hA
              clear hA
              go_wp2_with fail
              generalize wr = wo7 at *
              go_loopw [14, 16, 17, 18] (fun s14 s16 _ _ wr => ∃ j : Nat, j ≤ n ∧ s16 = .int .i64 j ∧ s14 = .bool (A || goneE ((z.map (·.2)).take j) ⟨rk, rl, rd, rv⟩) ∧ Below w.heap.size w wr) (fun _ s16 _ _ _ => n - (intOf s16).toNat)
              case atStart => exact ⟨0, by omega, rfl, by rw [show goneE ((z.map (·.2)).take 0) ⟨rk, rl, rd, rv⟩ = false from rfl, Bool.or_false], HB.out⟩
              case round =>
                clear HB
                obtain ⟨j, hj, rfl, rfl, hb⟩ := hrel
                have HB := Lib.hid hb
                clear hb
                by_cases hjn : j < n
                · have hjl : (j : Int) < (n : Int) := by omega
                  obtain ⟨q, ge, oe, hq, hqz, rfl, hqc⟩ := HH.out.rowB hjn
                  have HEC := Lib.hid hqc
                  have HQO := Lib.hid (HO.out q hqz)
                  have HQE := Lib.hid (HH.out.each q hqz)
                  have HNe := Lib.hid (show goneE ((z.map (·.2)).take (j + 1)) ⟨rk, rl, rd, rv⟩ = (goneE ((z.map (·.2)).take j) ⟨rk, rl, rd, rv⟩ || goneR q.2.ops ⟨rk, rl, rd, rv⟩) from any_next _ _ j q.2 (by rw [List.getElem?_map, hq]; rfl))
                  obtain ⟨⟨ets, ef, ea, en, ec⟩, x⟩ := q
                  simp only at hqc
                  clear hq hqz hqc
                  have hen : en ≤ 1000 := by have h1 := HQE.out.n; have h2 := HQO.out; simp only at h1 h2; omega
                  generalize hB : (A || goneE ((z.map (·.2)).take j) ⟨rk, rl, rd, rv⟩) = B
                  have HBB := Lib.hid hB
                  clear hB
                  go_wp2_with fail
                  generalize wr = wo8 at *
                  go_loopw [14, 17, 18] (fun s14 s17 _ wr => ∃ k : Nat, k ≤ en ∧ s17 = .int .i64 k ∧ s14 = .bool (B || goneR (x.ops.take k) ⟨rk, rl, rd, rv⟩) ∧ Below w.heap.size w wr) (fun _ s17 _ _ => en - (intOf s17).toNat)
                  case atStart => exact ⟨0, by omega, rfl, by rw [show goneR (x.ops.take 0) ⟨rk, rl, rd, rv⟩ = false from rfl, Bool.or_false], HB.out⟩
                  case round =>
                    clear HB
                    obtain ⟨k, hk, rfl, rfl, hb⟩ := hrel
                    have HB := Lib.hid hb
                    clear hb
                    obtain ⟨c0, c1, c2⟩ := HEC.out wr HB.out
                    clear c0 c1
                    by_cases hkn : k < en
                    · have hkl : (k : Int) < (en : Int) := by omega
                      obtain ⟨q, gq, oq, hq, hql, hea, hqc⟩ := recs_rowB HQE.out.rows HQE.out.n hkn
                      obtain ⟨d0, d1, d2, d3⟩ := hqc wr HB.out
                      have HNx := Lib.hid (show goneR (x.ops.take (k + 1)) ⟨rk, rl, rd, rv⟩ = (goneR (x.ops.take k) ⟨rk, rl, rd, rv⟩ || (decide (q.key = rk) && q.del && decide (rl ≤ q.lsn))) from any_next _ x.ops k q hq)
                      obtain ⟨qk, ql, qd, qv⟩ := q
                      simp only at hea d0 d1 d2 d3
                      subst hea
                      clear hq hql hqc
                      have hbn := (Below.refl wr.heap.size wr).alloc (Nat.le_refl _) (.cells #[.string ⟨qk.toArray⟩, .int .u64 (ql : Nat), .bool qd, .string ⟨qv.toArray⟩] 58)
                      have hBx : Blk (wr.alloc (.cells #[.string ⟨qk.toArray⟩, .int .u64 (ql : Nat), .bool qd, .string ⟨qv.toArray⟩] 58)) wr.heap.size [.string ⟨qk.toArray⟩, .int .u64 (ql : Nat), .bool qd, .string ⟨qv.toArray⟩] 58 := Blk.new wr [.string ⟨qk.toArray⟩, .int .u64 (ql : Nat), .bool qd, .string ⟨qv.toArray⟩] 58
                      have HBx := Lib.hid hBx
                      have HB3 := Lib.hid (HB.out.trans (hbn.mono HB.out.size))
                      clear hbn hBx HB
                      go_upto_region 38 with fail
                      generalize hxb : wr.heap.size = xb at *
                      generalize wr.alloc (.cells #[.string ⟨qk.toArray⟩, .int .u64 (ql : Nat), .bool qd, .string ⟨qv.toArray⟩] 58) = wy at *
                      clear d0 d1 d2 d3 c2 hxb
                      have HQC := Lib.hid (show ∀ w', Below wy.heap.size wy w' → w'.cell? ⟨xb, 0, none⟩ = some (.string ⟨qk.toArray⟩) ∧ w'.cell? ⟨xb, 1, none⟩ = some (.int .u64 (ql : Nat)) ∧ w'.cell? ⟨xb, 2, none⟩ = some (.bool qd) from
                        fun w' hb => ⟨by rw [(HBx.out.on hb).cell]; rfl, by rw [(HBx.out.on hb).cell]; rfl, by rw [(HBx.out.on hb).cell]; rfl⟩)
                      have HB := HB3
                      clear HB3
                      generalize wy = wr at *
                      cases hG : (B || goneR (x.ops.take k) ⟨rk, rl, rd, rv⟩) with
                      | true =>
                        have HX := Lib.hid (show (B || goneR (x.ops.take (k + 1)) ⟨rk, rl, rd, rv⟩) = true by rw [HNx.out, ← Bool.or_assoc, hG]; rfl)
                        clear hG
                        refine wp_region_settle (Below wr.heap.size wr) (by kernel_rfl) (by kernel_rfl) (by kernel_rfl) (below_drew (Below.refl _ _)) ?_
                        repeat (first
                          | (refine settled_not ?_ ?_
                             · rfl
                             simp only [Act.put, List.setIfInBounds_toArray, List.set_cons_zero, List.set_cons_succ])
                          | (refine settled_val (v := ?_) ?_ (fun w' hS => ?_) ?_
                             rotate_left
                             · rfl
                             · obtain ⟨k0, k1, k2⟩ := HQC.out w' hS
                               obtain ⟨m0, m1, m2, m3⟩ := HRC.out w' (HB.out.trans (hS.mono HB.out.size))
                               simp only at m0 m1 m2 m3
                               go_simp
                               with_reducible rfl
                             simp only [Act.put, List.setIfInBounds_toArray, List.set_cons_zero, List.set_cons_succ]))
                        refine settled_nil (fun w2 hS => ?_)
                        have HB2 := Lib.hid (HB.out.trans (hS.mono HB.out.size))
                        clear hS
                        go_wp2_with fail
                        go_roundw
                        case rel => exact ⟨k + 1, by omega, by go_num, by rw [HX.out], HB2.out⟩
                        case measure => simp [intOf]; omega
                      | false =>
                        by_cases hke : qk = rk
                        · have e1 : ((⟨qk.toArray⟩ : ByteArray) == ⟨rk.toArray⟩) = true := by rw [bytes_beq]; simp [hke]
                          have e2 : (qk == rk) = true := by rw [beq_dec]; simp [hke]
                          have HKe := Lib.hid hke
                          clear hke
                          cases qd with
                          | true =>
                            by_cases hlq : rl ≤ ql
                            · have hgt : (rl : Int) ≤ (ql : Int) := by omega
                              have HX := Lib.hid (show (B || goneR (x.ops.take (k + 1)) ⟨rk, rl, rd, rv⟩) = true by rw [HNx.out]; simp [HKe.out, hlq])
                              clear hlq hG
                              refine wp_region_settle (Below wr.heap.size wr) (by kernel_rfl) (by kernel_rfl) (by kernel_rfl) (below_drew (Below.refl _ _)) ?_
                              repeat (first
                                | (refine settled_not ?_ ?_
                                   · rfl
                                   simp only [Act.put, List.setIfInBounds_toArray, List.set_cons_zero, List.set_cons_succ])
                                | (refine settled_val (v := ?_) ?_ (fun w' hS => ?_) ?_
                                   rotate_left
                                   · rfl
                                   · obtain ⟨k0, k1, k2⟩ := HQC.out w' hS
                                     obtain ⟨m0, m1, m2, m3⟩ := HRC.out w' (HB.out.trans (hS.mono HB.out.size))
                                     simp only at m0 m1 m2 m3
                                     go_simp
                                     with_reducible rfl
                                   simp only [Act.put, List.setIfInBounds_toArray, List.set_cons_zero, List.set_cons_succ]))
                              refine settled_nil (fun w2 hS => ?_)
                              have HB2 := Lib.hid (HB.out.trans (hS.mono HB.out.size))
                              clear hS
                              go_wp2_with fail
                              go_roundw
                              case rel => exact ⟨k + 1, by omega, by go_num, by rw [HX.out], HB2.out⟩
                              case measure => simp [intOf]; omega
                            · have hgt : ¬ (rl : Int) ≤ (ql : Int) := by omega
                              have HX := Lib.hid (show (B || goneR (x.ops.take (k + 1)) ⟨rk, rl, rd, rv⟩) = false by rw [HNx.out, ← Bool.or_assoc, hG]; simp [hlq])
                              clear hlq hG
                              refine wp_region_settle (Below wr.heap.size wr) (by kernel_rfl) (by kernel_rfl) (by kernel_rfl) (below_drew (Below.refl _ _)) ?_
                              repeat (first
                                | (refine settled_not ?_ ?_
                                   · rfl
                                   simp only [Act.put, List.setIfInBounds_toArray, List.set_cons_zero, List.set_cons_succ])
                                | (refine settled_val (v := ?_) ?_ (fun w' hS => ?_) ?_
                                   rotate_left
                                   · rfl
                                   · obtain ⟨k0, k1, k2⟩ := HQC.out w' hS
                                     obtain ⟨m0, m1, m2, m3⟩ := HRC.out w' (HB.out.trans (hS.mono HB.out.size))
                                     simp only at m0 m1 m2 m3
                                     go_simp
                                     with_reducible rfl
                                   simp only [Act.put, List.setIfInBounds_toArray, List.set_cons_zero, List.set_cons_succ]))
                              refine settled_nil (fun w2 hS => ?_)
                              have HB2 := Lib.hid (HB.out.trans (hS.mono HB.out.size))
                              clear hS
                              go_wp2_with fail
                              go_roundw
                              case rel => exact ⟨k + 1, by omega, by go_num, by rw [HX.out], HB2.out⟩
                              case measure => simp [intOf]; omega
                          | false =>
                            have HX := Lib.hid (show (B || goneR (x.ops.take (k + 1)) ⟨rk, rl, rd, rv⟩) = false by rw [HNx.out, ← Bool.or_assoc, hG]; simp)
                            clear hG
                            refine wp_region_settle (Below wr.heap.size wr) (by kernel_rfl) (by kernel_rfl) (by kernel_rfl) (below_drew (Below.refl _ _)) ?_
                            repeat (first
                              | (refine settled_not ?_ ?_
                                 · rfl
                                 simp only [Act.put, List.setIfInBounds_toArray, List.set_cons_zero, List.set_cons_succ])
                              | (refine settled_val (v := ?_) ?_ (fun w' hS => ?_) ?_
                                 rotate_left
                                 · rfl
                                 · obtain ⟨k0, k1, k2⟩ := HQC.out w' hS
                                   obtain ⟨m0, m1, m2, m3⟩ := HRC.out w' (HB.out.trans (hS.mono HB.out.size))
                                   simp only at m0 m1 m2 m3
                                   go_simp
                                   with_reducible rfl
                                 simp only [Act.put, List.setIfInBounds_toArray, List.set_cons_zero, List.set_cons_succ]))
                            refine settled_nil (fun w2 hS => ?_)
                            have HB2 := Lib.hid (HB.out.trans (hS.mono HB.out.size))
                            clear hS
                            go_wp2_with fail
                            go_roundw
                            case rel => exact ⟨k + 1, by omega, by go_num, by rw [HX.out], HB2.out⟩
                            case measure => simp [intOf]; omega
                        · have e1 : ((⟨qk.toArray⟩ : ByteArray) == ⟨rk.toArray⟩) = false := by rw [bytes_beq]; simp [hke]
                          have e2 : (qk == rk) = false := by rw [beq_dec]; simp [hke]
                          have HX := Lib.hid (show (B || goneR (x.ops.take (k + 1)) ⟨rk, rl, rd, rv⟩) = false by rw [HNx.out, ← Bool.or_assoc, hG]; simp [hke])
                          clear hke hG
                          refine wp_region_settle (Below wr.heap.size wr) (by kernel_rfl) (by kernel_rfl) (by kernel_rfl) (below_drew (Below.refl _ _)) ?_
                          repeat (first
                            | (refine settled_not ?_ ?_
                               · rfl
                               simp only [Act.put, List.setIfInBounds_toArray, List.set_cons_zero, List.set_cons_succ])
                            | (refine settled_val (v := ?_) ?_ (fun w' hS => ?_) ?_
                               rotate_left
                               · rfl
                               · obtain ⟨k0, k1, k2⟩ := HQC.out w' hS
                                 obtain ⟨m0, m1, m2, m3⟩ := HRC.out w' (HB.out.trans (hS.mono HB.out.size))
                                 simp only at m0 m1 m2 m3
                                 go_simp
                                 with_reducible rfl
                               simp only [Act.put, List.setIfInBounds_toArray, List.set_cons_zero, List.set_cons_succ]))
                          refine settled_nil (fun w2 hS => ?_)
                          have HB2 := Lib.hid (HB.out.trans (hS.mono HB.out.size))
                          clear hS
                          go_wp2_with fail
                          go_roundw
                          case rel => exact ⟨k + 1, by omega, by go_num, by rw [HX.out], HB2.out⟩
                          case measure => simp [intOf]; omega
                    · have hke : ¬ (k : Int) < (en : Int) := by omega
                      rw [List.take_of_length_le (show x.ops.length ≤ k by have := HQE.out.n; simp only at this; omega)]
                      have HX := Lib.hid (show (B || goneR x.ops ⟨rk, rl, rd, rv⟩) = (A || goneE ((z.map (·.2)).take (j + 1)) ⟨rk, rl, rd, rv⟩) by rw [HNe.out, ← HBB.out, Bool.or_assoc])
                      go_wp2_with fail
                      go_roundw
                      case rel => exact ⟨j + 1, by omega, by go_num, by rw [HX.out], HB.out⟩
                      case measure => simp [intOf]; omega
                · have hje : ¬ (j : Int) < (n : Int) := by omega
                  rw [List.take_of_length_le (show (z.map (·.2)).length ≤ j by rw [List.length_map]; have := HH.out.len; omega)]
                  have HOk := Lib.hid (show okW N (z.map (·.2)) ⟨rk, rl, rd, rv⟩ = (A || goneE (z.map (·.2)) ⟨rk, rl, rd, rv⟩) by unfold okW; rw [← HA.out])
                  generalize (A || goneE (z.map (·.2)) ⟨rk, rl, rd, rv⟩) = ok at *
                  cases ok with
                  | true =>
                    have HX := Lib.hid (show firstBad (okW N (z.map (·.2))) W 0 = firstBad (okW N (z.map (·.2))) (W.drop (i + 1)) (i + 1) by rw [HStep.out, if_pos HOk.out])
                    go_wp2_with fail
                    go_roundw
                    case rel => exact ⟨i + 1, by omega, by go_num, HX.out, HB.out⟩
                    case measure => simp [intOf]; omega
                  | false =>
                    have HX := Lib.hid (show contentL W (z.map (·.2)) N = (nm : Int) + (i : Int) by unfold contentL; rw [HF.out]; show (match firstBad (okW N (z.map (·.2))) W 0 with | some i => (N.length : Int) + i | none => -1) = _; rw [HStep.out, if_neg (by rw [HOk.out]; decide), EN.out])
                    go_wp2_with fail
                    go_ret
                    exact ⟨by rw [HX.out]; go_num, HB.out⟩
        · have hge : ¬ (i : Int) < (nw : Int) := by omega
          have HX := Lib.hid (show contentL W (z.map (·.2)) N = -1 by unfold contentL; rw [HF.out]; show (match firstBad (okW N (z.map (·.2))) W 0 with | some i => (N.length : Int) + i | none => -1) = _; rw [hfb, firstBad_end _ _ _ (by have := EW.out; omega)])
          have HB := Lib.hid hb
          clear hfb hb
          go_wp2_with fail
          go_ret
          exact ⟨by rw [HX.out]; try rfl, HB.out⟩
end Go.Proofs.Ytffianjbljgnaaa
