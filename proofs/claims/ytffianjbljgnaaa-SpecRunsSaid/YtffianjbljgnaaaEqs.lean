/-
  The law's own comparisons: of lists of pairs, of numbers. No condition but at most ten million elements.
-/
import Derived.Test.YtffianjbljgnaaaSerial
namespace Go.Proofs.Ytffianjbljgnaaa
set_option linter.unusedVariables false
set_option linter.unusedSimpArgs false
open Go.RowKit

set_option maxRecDepth 100000 in
set_option maxHeartbeats 4000000 in
theorem pairsEq_any (w : World) (a1 a2 : Option Addr) (n1 c1 n2 c2 : Nat) (P Q : List KV) (h1 : RowsAt w a1 n1 c1 2 (pairsCells P)) (h2 : RowsAt w a2 n2 c2 2 (pairsCells Q)) (e1 : n1 = P.length) (e2 : n2 = Q.length) (hn : n1 ≤ 10000000) :
    Calls Try.prog 9 #[.slice a1 n1 c1, .slice a2 n2 c2] w fun e w' => e = .returned (.bool (decide (P = Q))) ∧ Below w.heap.size w w' := by
  have H1 := Lib.hid h1
  have H2 := Lib.hid h2
  have E1 := Lib.hid e1
  have E2 := Lib.hid e2
  clear h1 h2 e1 e2
  by_cases hl : n1 = n2
  · subst hl
    have hne : (n1 != n1) = false := by simp
    go_enter Try.func9, Try.ntmps9
    go_wp2_with fail
    go_loopw [5] (fun s13 wr => ∃ i : Nat, i ≤ n1 ∧ s13 = .int .i64 i ∧ P.take i = Q.take i ∧ Below w.heap.size w wr) (fun s13 _ => n1 - (intOf s13).toNat)
    case atStart => exact ⟨0, by omega, rfl, rfl, Below.refl _ _⟩
    case round =>
      obtain ⟨i, hi, rfl, heq, hb⟩ := hrel
      have HEq := Lib.hid heq
      clear heq
      by_cases hlt : i < n1
      · have hil : (i : Int) < (n1 : Int) := by omega
        obtain ⟨p, g, o, hp, _, rfl, hg, c0, c1'⟩ := pairs_row (H1.out.on hb) E1.out hlt
        obtain ⟨q, g', o', hq, _, rfl, hg', d0, d1⟩ := pairs_row (H2.out.on hb) E2.out hlt
        have HF := Lib.hid (show ∀ w', Below wr.heap.size wr w' → (w'.cell? ⟨g, o + i * 2, none⟩ = some (.string ⟨p.1.toArray⟩) ∧ w'.cell? ⟨g, o + i * 2 + 1, none⟩ = some (.string ⟨p.2.toArray⟩) ∧ w'.cell? ⟨g', o' + i * 2, none⟩ = some (.string ⟨q.1.toArray⟩) ∧ w'.cell? ⟨g', o' + i * 2 + 1, none⟩ = some (.string ⟨q.2.toArray⟩)) from
          fun w' h => ⟨(h.cell (p := ⟨g, o + i * 2, none⟩) hg).trans c0, (h.cell (p := ⟨g, o + i * 2 + 1, none⟩) hg).trans c1', (h.cell (p := ⟨g', o' + i * 2, none⟩) hg').trans d0, (h.cell (p := ⟨g', o' + i * 2 + 1, none⟩) hg').trans d1⟩)
        have HP := Lib.hid hp
        have HQ := Lib.hid hq
        clear hp hq c0 c1' d0 d1
        by_cases hpq : p = q
        · have hcmp : ∀ w, _ := fun w => run_neq_pair p q w
          rw [show decide (p ≠ q) = false from by simp [hpq]] at hcmp
          unfold pairV at hcmp
          have HNext := Lib.hid (show P.take (i + 1) = Q.take (i + 1) by rw [List.take_add_one, List.take_add_one, HP.out, HQ.out, HEq.out, hpq])
          clear hpq
          go_upto_region 6 with fail
          refine wp_region_settle (Below wr.heap.size wr) (by kernel_rfl) (by kernel_rfl) (by kernel_rfl) (below_drew (Below.refl _ _)) ?_
          repeat (first
            | (refine settled_not ?_ ?_
               · rfl
               simp only [Act.put, List.setIfInBounds_toArray, List.set_cons_zero, List.set_cons_succ])
            | (refine settled_val (v := ?_) ?_ (fun w' hS => ?_) ?_
               rotate_left
               · rfl
               · obtain ⟨k0, k1, k2, k3⟩ := HF.out w' hS
                 go_simp
                 with_reducible rfl
               simp only [Act.put, List.setIfInBounds_toArray, List.set_cons_zero, List.set_cons_succ]))
          refine settled_nil (fun w2 hS => ?_)
          clear hcmp
          go_wp2_with fail
          go_roundw
          case rel => exact ⟨i + 1, by omega, by go_num, HNext.out, hb.trans (hS.mono hb.size)⟩
          case measure => simp [intOf]; omega
        · have hcmp : ∀ w, _ := fun w => run_neq_pair p q w
          rw [show decide (p ≠ q) = true from by simp [hpq]] at hcmp
          unfold pairV at hcmp
          have HNe := Lib.hid (show decide (P = Q) = false from decide_eq_false (fun e => by
            have h1 := HP.out
            rw [e, HQ.out] at h1
            exact hpq (Option.some.inj h1).symm))
          clear hpq
          go_upto_region 6 with fail
          refine wp_region_settle (Below wr.heap.size wr) (by kernel_rfl) (by kernel_rfl) (by kernel_rfl) (below_drew (Below.refl _ _)) ?_
          repeat (first
            | (refine settled_not ?_ ?_
               · rfl
               simp only [Act.put, List.setIfInBounds_toArray, List.set_cons_zero, List.set_cons_succ])
            | (refine settled_val (v := ?_) ?_ (fun w' hS => ?_) ?_
               rotate_left
               · rfl
               · obtain ⟨k0, k1, k2, k3⟩ := HF.out w' hS
                 go_simp
                 with_reducible rfl
               simp only [Act.put, List.setIfInBounds_toArray, List.set_cons_zero, List.set_cons_succ]))
          refine settled_nil (fun w2 hS => ?_)
          clear hcmp
          have HB := Lib.hid (hb.trans (hS.mono hb.size))
          clear hS hb
          go_wp2_with fail
          go_ret
          exact ⟨by rw [HNe.out]; try rfl, HB.out⟩
      · have hge : ¬ (i : Int) < (n1 : Int) := by omega
        have HPQ := Lib.hid (show decide (P = Q) = true from decide_eq_true (by
          have h1 := HEq.out
          have hin : i = n1 := by omega
          rw [hin, List.take_of_length_le (by have := E1.out; omega), List.take_of_length_le (by have := E2.out; omega)] at h1
          exact h1))
        have HB := Lib.hid hb
        clear hb
        go_wp2_with fail
        go_ret
        exact ⟨by rw [HPQ.out]; try rfl, HB.out⟩
  · have hne : ((n1 : Int) != (n2 : Int)) = true := by simp; omega
    have HPQ := Lib.hid (show decide (P = Q) = false from decide_eq_false (fun e => by
      have h1 := E1.out
      have h2 := E2.out
      rw [e] at h1
      omega))
    clear hl
    go_enter Try.func9, Try.ntmps9
    go_wp2_with fail
    go_ret
    exact ⟨by rw [HPQ.out]; try rfl, Below.refl _ _⟩
theorem nums_row {w : World} {a : Option Addr} {n c : Nat} {l : List Nat} (h : RowsAt w a n c 1 (u64s l)) (hl : n = l.length) {i : Nat} (hi : i < n) :
    ∃ (p : Nat) (g o : Nat), l[i]? = some p ∧ p ∈ l ∧ a = some ⟨g, o, none⟩ ∧ g < w.heap.size ∧ w.cell? ⟨g, o + i, none⟩ = some (.int .u64 (p : Nat)) := by
  obtain ⟨g, o, e, hg, hc⟩ := h.at_ (by omega)
  have hx : i < l.length := by omega
  exact ⟨l[i], g, o, List.getElem?_eq_getElem hx, List.getElem_mem hx, e, hg, hc _ _ (u64s_nth l i l[i] (List.getElem?_eq_getElem hx))⟩
set_option maxRecDepth 100000 in
set_option maxHeartbeats 4000000 in
theorem numbers_any (w : World) (a1 a2 : Option Addr) (n1 c1 n2 c2 : Nat) (P Q : List Nat) (h1 : RowsAt w a1 n1 c1 1 (u64s P)) (h2 : RowsAt w a2 n2 c2 1 (u64s Q)) (e1 : n1 = P.length) (e2 : n2 = Q.length) (hn : n1 ≤ 10000000) :
    Calls Try.prog 23 #[.slice a1 n1 c1, .slice a2 n2 c2] w fun e w' => e = .returned (.bool (decide (P = Q))) ∧ Below w.heap.size w w' := by
  have H1 := Lib.hid h1
  have H2 := Lib.hid h2
  have E1 := Lib.hid e1
  have E2 := Lib.hid e2
  clear h1 h2 e1 e2
  by_cases hl : n1 = n2
  · subst hl
    have hne : (n1 != n1) = false := by simp
    go_enter Try.func23, Try.ntmps23
    go_wp2_with fail
    go_loopw [5] (fun s13 wr => ∃ i : Nat, i ≤ n1 ∧ s13 = .int .i64 i ∧ P.take i = Q.take i ∧ Below w.heap.size w wr) (fun s13 _ => n1 - (intOf s13).toNat)
    case atStart => exact ⟨0, by omega, rfl, rfl, Below.refl _ _⟩
    case round =>
      obtain ⟨i, hi, rfl, heq, hb⟩ := hrel
      have HEq := Lib.hid heq
      clear heq
      by_cases hlt : i < n1
      · have hil : (i : Int) < (n1 : Int) := by omega
        obtain ⟨p, g, o, hp, _, rfl, hg, c0⟩ := nums_row (H1.out.on hb) E1.out hlt
        obtain ⟨q, g', o', hq, _, rfl, hg', d0⟩ := nums_row (H2.out.on hb) E2.out hlt
        have HF := Lib.hid (show ∀ w', Below wr.heap.size wr w' → (w'.cell? ⟨g, o + i, none⟩ = some (.int .u64 (p : Nat)) ∧ w'.cell? ⟨g', o' + i, none⟩ = some (.int .u64 (q : Nat))) from
          fun w' h => ⟨(h.cell (p := ⟨g, o + i, none⟩) hg).trans c0, (h.cell (p := ⟨g', o' + i, none⟩) hg').trans d0⟩)
        have HP := Lib.hid hp
        have HQ := Lib.hid hq
        clear hp hq c0 d0
        by_cases hpq : p = q
        · have hcmp : ((p : Int) != (q : Int)) = false := by simp [hpq]
          have HNext := Lib.hid (show P.take (i + 1) = Q.take (i + 1) by rw [List.take_add_one, List.take_add_one, HP.out, HQ.out, HEq.out, hpq])
          clear hpq
          go_upto_region 6 with fail
          refine wp_region_settle (Below wr.heap.size wr) (by kernel_rfl) (by kernel_rfl) (by kernel_rfl) (below_drew (Below.refl _ _)) ?_
          repeat (first
            | (refine settled_not ?_ ?_
               · rfl
               simp only [Act.put, List.setIfInBounds_toArray, List.set_cons_zero, List.set_cons_succ])
            | (refine settled_val (v := ?_) ?_ (fun w' hS => ?_) ?_
               rotate_left
               · rfl
               · obtain ⟨k0, k1⟩ := HF.out w' hS
                 go_simp
                 with_reducible rfl
               simp only [Act.put, List.setIfInBounds_toArray, List.set_cons_zero, List.set_cons_succ]))
          refine settled_nil (fun w2 hS => ?_)
          clear hcmp
          go_wp2_with fail
          go_roundw
          case rel => exact ⟨i + 1, by omega, by go_num, HNext.out, hb.trans (hS.mono hb.size)⟩
          case measure => simp [intOf]; omega
        · have hcmp : ((p : Int) != (q : Int)) = true := by simp; omega
          have HNe := Lib.hid (show decide (P = Q) = false from decide_eq_false (fun e => by
            have h1 := HP.out
            rw [e, HQ.out] at h1
            exact hpq (Option.some.inj h1).symm))
          clear hpq
          go_upto_region 6 with fail
          refine wp_region_settle (Below wr.heap.size wr) (by kernel_rfl) (by kernel_rfl) (by kernel_rfl) (below_drew (Below.refl _ _)) ?_
          repeat (first
            | (refine settled_not ?_ ?_
               · rfl
               simp only [Act.put, List.setIfInBounds_toArray, List.set_cons_zero, List.set_cons_succ])
            | (refine settled_val (v := ?_) ?_ (fun w' hS => ?_) ?_
               rotate_left
               · rfl
               · obtain ⟨k0, k1⟩ := HF.out w' hS
                 go_simp
                 with_reducible rfl
               simp only [Act.put, List.setIfInBounds_toArray, List.set_cons_zero, List.set_cons_succ]))
          refine settled_nil (fun w2 hS => ?_)
          clear hcmp
          have HB := Lib.hid (hb.trans (hS.mono hb.size))
          clear hS hb
          go_wp2_with fail
          go_ret
          exact ⟨by rw [HNe.out]; try rfl, HB.out⟩
      · have hge : ¬ (i : Int) < (n1 : Int) := by omega
        have HPQ := Lib.hid (show decide (P = Q) = true from decide_eq_true (by
          have h1 := HEq.out
          have hin : i = n1 := by omega
          rw [hin, List.take_of_length_le (by have := E1.out; omega), List.take_of_length_le (by have := E2.out; omega)] at h1
          exact h1))
        have HB := Lib.hid hb
        clear hb
        go_wp2_with fail
        go_ret
        exact ⟨by rw [HPQ.out]; try rfl, HB.out⟩
  · have hne : ((n1 : Int) != (n2 : Int)) = true := by simp; omega
    have HPQ := Lib.hid (show decide (P = Q) = false from decide_eq_false (fun e => by
      have h1 := E1.out
      have h2 := E2.out
      rw [e] at h1
      omega))
    clear hl
    go_enter Try.func23, Try.ntmps23
    go_wp2_with fail
    go_ret
    exact ⟨by rw [HPQ.out]; try rfl, Below.refl _ _⟩
end Go.Proofs.Ytffianjbljgnaaa
