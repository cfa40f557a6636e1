/-
  spec.replay's right: is a call, on a map? Each of its four questions. Condition: at most a million keys.
-/
import Derived.Test.YtffianjbljgnaaaGreatReplay
import Derived.Laws.StructEq
namespace Go.Proofs.YtffianjbljgnaaaGreat
set_option linter.unusedVariables false
set_option linter.unusedSimpArgs false
open Go.RowKit

theorem bytes_beq (a b : Txt) : (ByteArray.mk a.toArray == ByteArray.mk b.toArray) = decide (a = b) := by
  show (a.toArray == b.toArray) = decide (a = b)
  by_cases h : a = b
  · subst h; simp
  · simp [h]
theorem bytes_bne (a b : Txt) : (ByteArray.mk a.toArray != ByteArray.mk b.toArray) = !decide (a = b) := by
  show (!(ByteArray.mk a.toArray == ByteArray.mk b.toArray)) = _
  rw [bytes_beq]
/-- Where a replay's question finds its replay, its call and its answer. -/
structure AskAt (w : World) (px cx ox rb : Nat) (m : Md) : Prop where
  p : w.cell? ⟨px, 0, none⟩ = some (.pointer (some ⟨rb, 0, none⟩))
  pl : px < w.heap.size
  c : Blk w cx (callCells m) 39
  o : Blk w ox (outCells m) 43
theorem AskAt.on {w w' : World} {px cx ox rb : Nat} {m : Md} (h : AskAt w px cx ox rb m) (hb : Below w.heap.size w w') : AskAt w' px cx ox rb m :=
  ⟨(hb.cell (p := ⟨px, 0, none⟩) h.pl).trans h.p, Nat.lt_of_lt_of_le h.pl hb.size, h.c.on hb, h.o.on hb⟩
def readB (M : List KV) (m : Md) : Bool := decide (m.found = (look M m.key).isSome) && decide (m.oval = (look M m.key).getD [])
set_option maxRecDepth 100000 in
set_option maxHeartbeats 2000000 in
theorem right1_any (w : World) (px cx ox rb sb wb : Nat) (m : Md) (M : List KV) (W : List Rec) (h : AskAt w px cx ox rb m) (hR : RepAt w rb sb wb M W) (hk : m.key.length ≤ maxLen) :
    Calls Tryz.prog 41 #[.pointer (some ⟨px, 0, none⟩), .pointer (some ⟨cx, 0, none⟩), .pointer (some ⟨ox, 0, none⟩)] w fun e w' => e = .returned (.bool (readB M m)) ∧ Below w.heap.size w w' := by
  have HF := Lib.hid (show ∀ w', Below w.heap.size w w' → (w'.cell? ⟨px, 0, none⟩ = some (.pointer (some ⟨rb, 0, none⟩)) ∧ w'.cell? ⟨rb, 0, none⟩ = some (.map (some sb)) ∧ w'.cell? ⟨cx, 2, none⟩ = some (.string ⟨m.key.toArray⟩) ∧ w'.cell? ⟨ox, 3, none⟩ = some (.bool m.found) ∧ w'.cell? ⟨ox, 4, none⟩ = some (.string ⟨m.oval.toArray⟩) ∧
      (Instr.lookup 55 (.map (some sb)) (.string ⟨m.key.toArray⟩) true).run Tryz.prog w' = .ok (.tuple #[.string ⟨((look M m.key).getD []).toArray⟩, .bool (look M m.key).isSome]) w') from
    fun w' hb => ⟨(h.on hb).p, by rw [(hR.blk.on hb).cell]; rfl, by rw [(h.c.on hb).cell]; rfl, by rw [(h.o.on hb).cell]; rfl, by rw [(h.o.on hb).cell]; rfl, (hR.store.on hb).looks_ok m.key hk⟩)
  have HV := Lib.hid (show readB M m = (decide (m.found = (look M m.key).isSome) && decide (m.oval = (look M m.key).getD [])) from rfl)
  clear h hR
  generalize (look M m.key).isSome = is at HF HV
  generalize (look M m.key).getD [] = v at HF HV
  go_enter Tryz.func41, Tryz.ntmps41
  go_upto_region 1 with fail
  refine wp_region_settle (Below w.heap.size w) (by kernel_rfl) (by kernel_rfl) (by kernel_rfl) (below_drew (Below.refl _ _)) ?_
  repeat (first
    | (refine settled_not ?_ ?_
       · rfl
       simp only [Act.put, List.setIfInBounds_toArray, List.set_cons_zero, List.set_cons_succ])
    | (refine settled_val (v := ?_) ?_ (fun w' hS => ?_) ?_
       rotate_left
       · rfl
       · obtain ⟨k0, k1, k2, k3, k4, k5⟩ := HF.out w' hS
         go_simp
         with_reducible rfl
       simp only [Act.put, List.setIfInBounds_toArray, List.set_cons_zero, List.set_cons_succ]))
  refine settled_nil (fun w2 hS => ?_)
  obtain ⟨k0, k1, k2, k3, k4, k5⟩ := HF.out w2 hS
  have HB := Lib.hid hS
  clear hS k0 k1 k2 k5
  by_cases h1 : m.found = is
  · have e1 : (m.found == is) = true := by simp [h1]
    by_cases h2 : m.oval = v
    · have e2 : ((⟨m.oval.toArray⟩ : ByteArray) == ⟨v.toArray⟩) = true := by rw [bytes_beq]; simp [h2]
      have HE := Lib.hid (show readB M m = true by rw [HV.out, decide_eq_true h1, decide_eq_true h2]; rfl)
      have H2 := Lib.hid h2
      clear h1 h2
      go_wp2_with fail
      go_ret
      exact ⟨by rw [HE.out]; simp [H2.out], HB.out⟩
    · have e2 : ((⟨m.oval.toArray⟩ : ByteArray) == ⟨v.toArray⟩) = false := by rw [bytes_beq]; simp [h2]
      have HE := Lib.hid (show readB M m = false by rw [HV.out, decide_eq_false h2]; simp)
      have H2 := Lib.hid h2
      clear h1 h2
      go_wp2_with fail
      go_ret
      exact ⟨by rw [HE.out]; simp [H2.out], HB.out⟩
  · have e1 : (m.found == is) = false := by simp [h1]
    have HE := Lib.hid (show readB M m = false by rw [HV.out, decide_eq_false h1]; rfl)
    clear h1
    go_wp2_with fail
    go_ret
    exact ⟨by rw [HE.out]; simp [e1], HB.out⟩
/-- What a question that writes ends with. -/
def AskEnd (rb sb wb : Nat) (M : List KV) (W : List Rec) (w : World) (e : Ending) (w' : World) : Prop := e = .returned (.bool true) ∧ RepAt w' rb sb wb M W ∧ Mod [sb, wb] w w'
set_option maxRecDepth 100000 in
set_option maxHeartbeats 2000000 in
theorem right3_any (w : World) (px cx ox rb sb wb : Nat) (m : Md) (M : List KV) (W : List Rec) (h : AskAt w px cx ox rb m) (hR : RepAt w rb sb wb M W) (hM : M.length ≤ 1000000) (hW : W.length ≤ 1000000) (hk : m.key.length ≤ maxLen) :
    Calls Tryz.prog 45 #[.pointer (some ⟨px, 0, none⟩), .pointer (some ⟨cx, 0, none⟩)] w (AskEnd rb sb wb (app M ⟨m.key, 0, false, m.val⟩) (setR W ⟨m.key, 0, false, m.val⟩) w) := by
  have HP := Lib.hid (rput_any w rb sb wb M W hR hM hW ⟨m.key, 0, false, m.val⟩ hk)
  obtain ⟨k0, _, hc, _⟩ := h
  have k1 : w.cell? ⟨cx, 2, none⟩ = some (.string ⟨m.key.toArray⟩) := by rw [hc.cell]; rfl
  have k2 : w.cell? ⟨cx, 4, none⟩ = some (.string ⟨m.val.toArray⟩) := by rw [hc.cell]; rfl
  clear hR hc
  go_enter Tryz.func45, Tryz.ntmps45
  go_wp2_with fail
  refine HP.out.mono ?_
  rintro e w1 ⟨rfl, hR1, hm⟩
  have HE := Lib.hid (show AskEnd rb sb wb (app M ⟨m.key, 0, false, m.val⟩) (setR W ⟨m.key, 0, false, m.val⟩) w (.returned (.bool true)) w1 from ⟨rfl, hR1, hm⟩)
  clear hR1 hm
  go_wp2_with fail
  go_ret
  exact HE.out
set_option maxRecDepth 100000 in
set_option maxHeartbeats 2000000 in
theorem right4_any (w : World) (px cx ox rb sb wb : Nat) (m : Md) (M : List KV) (W : List Rec) (h : AskAt w px cx ox rb m) (hR : RepAt w rb sb wb M W) (hM : M.length ≤ 1000000) (hW : W.length ≤ 1000000) (hk : m.key.length ≤ maxLen) :
    Calls Tryz.prog 47 #[.pointer (some ⟨px, 0, none⟩), .pointer (some ⟨cx, 0, none⟩)] w (AskEnd rb sb wb (app M ⟨m.key, 0, true, []⟩) (setR W ⟨m.key, 0, true, []⟩) w) := by
  have HP := Lib.hid (rput_any w rb sb wb M W hR hM hW ⟨m.key, 0, true, []⟩ hk)
  obtain ⟨k0, _, hc, _⟩ := h
  have k1 : w.cell? ⟨cx, 2, none⟩ = some (.string ⟨m.key.toArray⟩) := by rw [hc.cell]; rfl
  clear hR hc
  go_enter Tryz.func47, Tryz.ntmps47
  go_wp2_with fail
  refine HP.out.mono ?_
  rintro e w1 ⟨rfl, hR1, hm⟩
  have HE := Lib.hid (show AskEnd rb sb wb (app M ⟨m.key, 0, true, []⟩) (setR W ⟨m.key, 0, true, []⟩) w (.returned (.bool true)) w1 from ⟨rfl, hR1, hm⟩)
  clear hR1 hm
  go_wp2_with fail
  go_ret
  exact HE.out
theorem pairs_get (l : List KV) (i : Nat) (p : KV) (h : l[i]? = some p) : (pairsCells l)[i * 2]? = some (.string ⟨p.1.toArray⟩) ∧ (pairsCells l)[i * 2 + 1]? = some (.string ⟨p.2.toArray⟩) := by
  induction l generalizing i with
  | nil => simp at h
  | cons q qs ih =>
    cases i with
    | zero => cases h; exact ⟨rfl, rfl⟩
    | succ i =>
      have := ih i (by simpa using h)
      have e0 : ∀ j, (pairsCells (q :: qs))[j + 2]? = (pairsCells qs)[j]? := fun j => by
        show (pairCells q ++ pairsCells qs)[j + 2]? = _
        rw [List.getElem?_append_right (by show 2 ≤ _; omega)]; show (pairsCells qs)[j + 2 - 2]? = _; rw [Nat.add_sub_cancel]
      refine ⟨?_, ?_⟩
      · rw [show (i + 1) * 2 = i * 2 + 2 by omega, e0]; exact this.1
      · rw [show (i + 1) * 2 + 1 = i * 2 + 1 + 2 by omega, e0]; exact this.2
theorem pairs_row {w : World} {a : Option Addr} {n c : Nat} {l : List KV} (h : RowsAt w a n c 2 (pairsCells l)) (hl : n = l.length) {i : Nat} (hi : i < n) :
    ∃ (p : KV) (g o : Nat), l[i]? = some p ∧ p ∈ l ∧ a = some ⟨g, o, none⟩ ∧ g < w.heap.size ∧ w.cell? ⟨g, o + i * 2, none⟩ = some (.string ⟨p.1.toArray⟩) ∧ w.cell? ⟨g, o + i * 2 + 1, none⟩ = some (.string ⟨p.2.toArray⟩) := by
  obtain ⟨g, o, e, hg, hc⟩ := h.at_ (by omega)
  have hx : i < l.length := by omega
  obtain ⟨h0, h1⟩ := pairs_get l i l[i] (List.getElem?_eq_getElem hx)
  have c0 := hc _ _ h0
  have c1 := hc _ _ h1
  rw [← Nat.add_assoc] at c1
  exact ⟨l[i], g, o, List.getElem?_eq_getElem hx, List.getElem_mem hx, e, hg, c0, c1⟩
theorem bytes_tl (a b : Txt) : (ByteArray.toList ⟨a.toArray⟩ == ByteArray.toList ⟨b.toArray⟩) = (a == b) := by
  rw [← beq_toListBytes]
  show (a.toArray == b.toArray) = (a == b)
  simp
def pairV (p : KV) : Value := .agg #[.string ⟨p.1.toArray⟩, .string ⟨p.2.toArray⟩]
set_option maxHeartbeats 1000000 in
theorem run_neq_pair (x y : KV) (w : World) : (binOp .neq 76 (pairV x) (pairV y)).run Tryz.prog w = .ok (.bool (decide (x ≠ y))) w := by
  have u1 := Tryz.underlying9
  have hS : Tryz.prog.underlying 76 = some (.struct (Tryz.prog.fieldsOf 76)) := by kernel_rfl
  have hp : Tryz.prog.stoodInHeld 76 = false := by kernel_rfl
  unfold pairV
  rw [run_neq_struct, show (10000 : Nat) = 9999 + 1 from rfl, run_equalIn_agg w 9999 76 _ _ hS hp]
  simp only [Program.fieldsOf, Tryz.underlying76]
  have a1 := Tryz.isAgg9
  have z1 := Tryz.sizeOf9
  have bb := bytes_tl
  go_simp
  obtain ⟨xk, xv⟩ := x
  obtain ⟨yk, yv⟩ := y
  simp only [Prod.mk.injEq]
  by_cases h1 : xk = yk <;> by_cases h4 : xv = yv <;> simp [h1, h4]
set_option maxRecDepth 100000 in
set_option maxHeartbeats 4000000 in
theorem equalP_any (w : World) (a1 a2 : Option Addr) (n1 c1 n2 c2 : Nat) (P Q : List KV) (h1 : RowsAt w a1 n1 c1 2 (pairsCells P)) (h2 : RowsAt w a2 n2 c2 2 (pairsCells Q)) (e1 : n1 = P.length) (e2 : n2 = Q.length) (hn : n1 ≤ 9223372036854775807) :
    Calls Tryz.prog 43 #[.slice a1 n1 c1, .slice a2 n2 c2] w fun e w' => e = .returned (.bool (decide (P = Q))) ∧ Below w.heap.size w w' := by
  have H1 := Lib.hid h1
  have H2 := Lib.hid h2
  have E1 := Lib.hid e1
  have E2 := Lib.hid e2
  clear h1 h2 e1 e2
  by_cases hl : n1 = n2
  · subst hl
    have hne : (n1 != n1) = false := by simp
    go_enter Tryz.func43, Tryz.ntmps43
    go_wp2_with fail
    go_loopw [5, 13] (fun _ s13 wr => ∃ i : Nat, i ≤ n1 ∧ s13 = .int .i64 i ∧ P.take i = Q.take i ∧ Below w.heap.size w wr) (fun _ s13 _ => n1 - (intOf s13).toNat)
    case atStart => exact ⟨0, by omega, rfl, rfl, Below.refl _ _⟩
    case round =>
      obtain ⟨i, hi, rfl, heq, hb⟩ := hrel
      have HEq := Lib.hid heq
      clear heq
      by_cases hlt : i < n1
      · have hil : (i : Int) < (n1 : Int) := by omega
        obtain ⟨p, g, o, hp, _, rfl, hg, c0, c1'⟩ := pairs_row (H1.out.on hb) E1.out hlt
        obtain ⟨q, g', o', hq, _, rfl, hg', d0, d1⟩ := pairs_row (H2.out.on hb) E2.out hlt
        have HF := Lib.hid (show ∀ w', Below wr.heap.size wr w' → (w'.cell? ⟨g, o + i * 2, none⟩ = some (.string ⟨p.1.toArray⟩) ∧ w'.cell? ⟨g, o + i * 2 + 1, none⟩ = some (.string ⟨p.2.toArray⟩) ∧ w'.cell? ⟨g', o' + i * 2, none⟩ = some (.string ⟨q.1.toArray⟩) ∧ w'.cell? ⟨g', o' + i * 2 + 1, none⟩ = some (.string ⟨q.2.toArray⟩)) from
          fun w' h => ⟨(h.cell (p := ⟨g, o + i * 2, none⟩) hg).trans c0, (h.cell (p := ⟨g, o + i * 2 + 1, none⟩) hg).trans c1', (h.cell (p := ⟨g', o' + i * 2, none⟩) hg').trans d0, (h.cell (p := ⟨g', o' + i * 2 + 1, none⟩) hg').trans d1⟩)
        have HP := Lib.hid hp
        have HQ := Lib.hid hq
        clear hp hq c0 c1' d0 d1
        by_cases hpq : p = q
        · have hcmp : ∀ w, _ := fun w => run_neq_pair p q w
          rw [show decide (p ≠ q) = false from by simp [hpq]] at hcmp
          unfold pairV at hcmp
          have HNext := Lib.hid (show P.take (i + 1) = Q.take (i + 1) by rw [List.take_add_one, List.take_add_one, HP.out, HQ.out, HEq.out, hpq])
          clear hpq
          go_upto_region 6 with fail
          refine wp_region_settle (Below wr.heap.size wr) (by kernel_rfl) (by kernel_rfl) (by kernel_rfl) (below_drew (Below.refl _ _)) ?_
          repeat (first
            | (refine settled_not ?_ ?_
               · rfl
               simp only [Act.put, List.setIfInBounds_toArray, List.set_cons_zero, List.set_cons_succ])
            | (refine settled_val (v := ?_) ?_ (fun w' hS => ?_) ?_
               rotate_left
               · rfl
               · obtain ⟨k0, k1, k2, k3⟩ := HF.out w' hS
                 go_simp
                 with_reducible rfl
               simp only [Act.put, List.setIfInBounds_toArray, List.set_cons_zero, List.set_cons_succ]))
          refine settled_nil (fun w2 hS => ?_)
          clear hcmp
          go_wp2_with fail
          go_roundw
          case rel => exact ⟨i + 1, by omega, by go_num, HNext.out, hb.trans (hS.mono hb.size)⟩
          case measure => simp [intOf]; omega
        · have hcmp : ∀ w, _ := fun w => run_neq_pair p q w
          rw [show decide (p ≠ q) = true from by simp [hpq]] at hcmp
          unfold pairV at hcmp
          have HNe := Lib.hid (show decide (P = Q) = false from decide_eq_false (fun e => by
            have h1 := HP.out
            rw [e, HQ.out] at h1
            exact hpq (Option.some.inj h1).symm))
          clear hpq
          go_upto_region 6 with fail
          refine wp_region_settle (Below wr.heap.size wr) (by kernel_rfl) (by kernel_rfl) (by kernel_rfl) (below_drew (Below.refl _ _)) ?_
          repeat (first
            | (refine settled_not ?_ ?_
               · rfl
               simp only [Act.put, List.setIfInBounds_toArray, List.set_cons_zero, List.set_cons_succ])
            | (refine settled_val (v := ?_) ?_ (fun w' hS => ?_) ?_
               rotate_left
               · rfl
               · obtain ⟨k0, k1, k2, k3⟩ := HF.out w' hS
                 go_simp
                 with_reducible rfl
               simp only [Act.put, List.setIfInBounds_toArray, List.set_cons_zero, List.set_cons_succ]))
          refine settled_nil (fun w2 hS => ?_)
          clear hcmp
          have HB := Lib.hid (hb.trans (hS.mono hb.size))
          clear hS hb
          go_wp2_with fail
          go_ret
          exact ⟨by rw [HNe.out]; try rfl, HB.out⟩
      · have hge : ¬ (i : Int) < (n1 : Int) := by omega
        have HPQ := Lib.hid (show decide (P = Q) = true from decide_eq_true (by
          have h1 := HEq.out
          have hin : i = n1 := by omega
          rw [hin, List.take_of_length_le (by have := E1.out; omega), List.take_of_length_le (by have := E2.out; omega)] at h1
          exact h1))
        have HB := Lib.hid hb
        clear hb
        go_wp2_with fail
        go_ret
        exact ⟨by rw [HPQ.out]; try rfl, HB.out⟩
  · have hne : ((n1 : Int) != (n2 : Int)) = true := by simp; omega
    have HPQ := Lib.hid (show decide (P = Q) = false from decide_eq_false (fun e => by
      have h1 := E1.out
      have h2 := E2.out
      rw [e] at h1
      omega))
    clear hl
    go_enter Tryz.func43, Tryz.ntmps43
    go_wp2_with fail
    go_ret
    exact ⟨by rw [HPQ.out]; try rfl, Below.refl _ _⟩
end Go.Proofs.YtffianjbljgnaaaGreat
