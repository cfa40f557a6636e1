/-
  Texts folded into one: RfRight, RfEnd, RfSer.
-/
import Derived.Test.YtffianjbljgnaaaGreatRfCalls
import Derived.Deep.DeepCutAuto
import Derived.Test.YtffianjbljgnaaaGreatSerial

/-! ### RfRight -/
namespace Go.Proofs.YtffianjbljgnaaaGreat
set_option linter.unusedVariables false
set_option linter.unusedSimpArgs false
open Go.RowKit Go.Maps

set_option maxRecDepth 100000 in
set_option maxHeartbeats 4000000 in
theorem pairsR_any (w : World) (a1 a2 : Option Addr) (n1 c1 n2 c2 : Nat) (P Q : List KV) (h1 : RowsAt w a1 n1 c1 2 (pairsCells P)) (h2 : RowsAt w a2 n2 c2 2 (pairsCells Q)) (e1 : n1 = P.length) (e2 : n2 = Q.length) (hn : n1 ≤ 9223372036854775807) :
    Calls Tryz.prog 48 #[.slice a1 n1 c1, .slice a2 n2 c2] w fun e w' => e = .returned (.bool (decide (P = Q))) ∧ Below w.heap.size w w' := by
  have H1 := Lib.hid h1
  have H2 := Lib.hid h2
  have E1 := Lib.hid e1
  have E2 := Lib.hid e2
  clear h1 h2 e1 e2
  by_cases hl : n1 = n2
  · subst hl
    have hne : (n1 != n1) = false := by simp
    go_enter Tryz.func48, Tryz.ntmps48
    go_wp2_with fail
    go_loopw [5] (fun s13 wr => ∃ i : Nat, i ≤ n1 ∧ s13 = .int .i64 i ∧ P.take i = Q.take i ∧ Below w.heap.size w wr) (fun s13 _ => n1 - (intOf s13).toNat)
    case atStart => exact ⟨0, by omega, rfl, rfl, Below.refl _ _⟩
    case round =>
      obtain ⟨i, hi, rfl, heq, hb⟩ := hrel
      have HEq := Lib.hid heq
      clear heq
      by_cases hlt : i < n1
      · have hil : (i : Int) < (n1 : Int) := by omega
        obtain ⟨p, g, o, hp, _, rfl, hg, c0, c1'⟩ := pairs_row (H1.out.on hb) E1.out hlt
        obtain ⟨q, g', o', hq, _, rfl, hg', d0, d1⟩ := pairs_row (H2.out.on hb) E2.out hlt
        have HF := Lib.hid (show ∀ w', Below wr.heap.size wr w' → (w'.cell? ⟨g, o + i * 2, none⟩ = some (.string ⟨p.1.toArray⟩) ∧ w'.cell? ⟨g, o + i * 2 + 1, none⟩ = some (.string ⟨p.2.toArray⟩) ∧ w'.cell? ⟨g', o' + i * 2, none⟩ = some (.string ⟨q.1.toArray⟩) ∧ w'.cell? ⟨g', o' + i * 2 + 1, none⟩ = some (.string ⟨q.2.toArray⟩)) from
          fun w' h => ⟨(h.cell (p := ⟨g, o + i * 2, none⟩) hg).trans c0, (h.cell (p := ⟨g, o + i * 2 + 1, none⟩) hg).trans c1', (h.cell (p := ⟨g', o' + i * 2, none⟩) hg').trans d0, (h.cell (p := ⟨g', o' + i * 2 + 1, none⟩) hg').trans d1⟩)
        have HP := Lib.hid hp
        have HQ := Lib.hid hq
        clear hp hq c0 c1' d0 d1
        by_cases hpq : p = q
        · have hcmp : ∀ w, _ := fun w => run_neq_pair p q w
          rw [show decide (p ≠ q) = false from by simp [hpq]] at hcmp
          unfold pairV at hcmp
          have HNext := Lib.hid (show P.take (i + 1) = Q.take (i + 1) by rw [List.take_add_one, List.take_add_one, HP.out, HQ.out, HEq.out, hpq])
          clear hpq
          go_upto_region 6 with fail
          refine wp_region_settle (Below wr.heap.size wr) (by kernel_rfl) (by kernel_rfl) (by kernel_rfl) (below_drew (Below.refl _ _)) ?_
          repeat (first
            | (refine settled_not ?_ ?_
               · rfl
               simp only [Act.put, List.setIfInBounds_toArray, List.set_cons_zero, List.set_cons_succ])
            | (refine settled_val (v := ?_) ?_ (fun w' hS => ?_) ?_
               rotate_left
               · rfl
               · obtain ⟨k0, k1, k2, k3⟩ := HF.out w' hS
                 go_simp
                 with_reducible rfl
               simp only [Act.put, List.setIfInBounds_toArray, List.set_cons_zero, List.set_cons_succ]))
          refine settled_nil (fun w2 hS => ?_)
          clear hcmp
          go_wp2_with fail
          go_roundw
          case rel => exact ⟨i + 1, by omega, by go_num, HNext.out, hb.trans (hS.mono hb.size)⟩
          case measure => simp [intOf]; omega
        · have hcmp : ∀ w, _ := fun w => run_neq_pair p q w
          rw [show decide (p ≠ q) = true from by simp [hpq]] at hcmp
          unfold pairV at hcmp
          have HNe := Lib.hid (show decide (P = Q) = false from decide_eq_false (fun e => by
            have h1 := HP.out
            rw [e, HQ.out] at h1
            exact hpq (Option.some.inj h1).symm))
          clear hpq
          go_upto_region 6 with fail
          refine wp_region_settle (Below wr.heap.size wr) (by kernel_rfl) (by kernel_rfl) (by kernel_rfl) (below_drew (Below.refl _ _)) ?_
          repeat (first
            | (refine settled_not ?_ ?_
               · rfl
               simp only [Act.put, List.setIfInBounds_toArray, List.set_cons_zero, List.set_cons_succ])
            | (refine settled_val (v := ?_) ?_ (fun w' hS => ?_) ?_
               rotate_left
               · rfl
               · obtain ⟨k0, k1, k2, k3⟩ := HF.out w' hS
                 go_simp
                 with_reducible rfl
               simp only [Act.put, List.setIfInBounds_toArray, List.set_cons_zero, List.set_cons_succ]))
          refine settled_nil (fun w2 hS => ?_)
          clear hcmp
          have HB := Lib.hid (hb.trans (hS.mono hb.size))
          clear hS hb
          go_wp2_with fail
          go_ret
          exact ⟨by rw [HNe.out]; try rfl, HB.out⟩
      · have hge : ¬ (i : Int) < (n1 : Int) := by omega
        have HPQ := Lib.hid (show decide (P = Q) = true from decide_eq_true (by
          have h1 := HEq.out
          have hin : i = n1 := by omega
          rw [hin, List.take_of_length_le (by have := E1.out; omega), List.take_of_length_le (by have := E2.out; omega)] at h1
          exact h1))
        have HB := Lib.hid hb
        clear hb
        go_wp2_with fail
        go_ret
        exact ⟨by rw [HPQ.out]; try rfl, HB.out⟩
  · have hne : ((n1 : Int) != (n2 : Int)) = true := by simp; omega
    have HPQ := Lib.hid (show decide (P = Q) = false from decide_eq_false (fun e => by
      have h1 := E1.out
      have h2 := E2.out
      rw [e] at h1
      omega))
    clear hl
    go_enter Tryz.func48, Tryz.ntmps48
    go_wp2_with fail
    go_ret
    exact ⟨by rw [HPQ.out]; try rfl, Below.refl _ _⟩

theorem readB_of {M : List KV} (h : Asc M) (m : Md) (fb : Bool) (vb : Txt) (h1 : (lastV M m.key).isSome = fb) (h2 : (lastV M m.key).getD [] = vb) : readB M m = (decide (m.found = fb) && decide (m.oval = vb)) := by
  rw [lastV_look h] at h1 h2
  unfold readB
  rw [h1, h2]
set_option maxRecDepth 100000 in
set_option maxHeartbeats 16000000 in
theorem rightR_any (w : World) (a : Option Addr) (n c : Nat) (M : List KV) (h : RowsAt w a n c 2 (pairsCells M)) (hn : n = M.length) (hmax : n ≤ 100000) (hasc : Asc M) (q : MZ) (hq : MdIs w q) (hpn : q.1.pn ≤ 9223372036854775807) :
    Calls Tryz.prog 24 #[.slice a n c, .agg (mdCells q.1).toArray] w fun e w' => e = .returned (.bool (rightB M q)) ∧ Below w.heap.size w w' := by
  obtain ⟨⟨ts, n0, kind, cts, key, hi, val, dn, ots, on, err, found, oval, pa, pn, pc, frm, til⟩, P⟩ := q
  have HH := Lib.hid h
  have HN := Lib.hid hn
  have HAs := Lib.hid hasc
  have HPn := Lib.hid (show pn = P.length from hq.n)
  have HPr := Lib.hid (show RowsAt w pa pn pc 2 (pairsCells P) from hq.rows)
  have hpn2 : pn ≤ 9223372036854775807 := hpn
  obtain ⟨rb, hrb⟩ : ∃ b, rightB M (⟨ts, n0, kind, cts, key, hi, val, dn, ots, on, err, found, oval, pa, pn, pc, frm, til⟩, P) = b := ⟨_, rfl⟩
  rw [hrb]
  have HRb := Lib.hid (show rb = (if kind = 1 then readB M ⟨ts, n0, kind, cts, key, hi, val, dn, ots, on, err, found, oval, pa, pn, pc, frm, til⟩ else if kind = 2 then decide (P = sel M key hi) else true) from hrb.symm)
  have hX := md_box w ⟨ts, n0, kind, cts, key, hi, val, dn, ots, on, err, found, oval, pa, pn, pc, frm, til⟩
  have hbn := (Below.refl w.heap.size w).alloc (Nat.le_refl _) (.cells #[.int .u64 (ts : Nat), .int .i64 n0, .int .i64 kind, .int .u64 (cts : Nat), .string ⟨key.toArray⟩, .string ⟨hi.toArray⟩, .string ⟨val.toArray⟩, .bool dn, .int .u64 (ots : Nat), .int .i64 on, .int .i64 err, .bool found, .string ⟨oval.toArray⟩, .slice pa pn pc, .int .i64 frm, .int .i64 til] 45)
  change MdCellsAt (w.alloc (.cells #[.int .u64 (ts : Nat), .int .i64 n0, .int .i64 kind, .int .u64 (cts : Nat), .string ⟨key.toArray⟩, .string ⟨hi.toArray⟩, .string ⟨val.toArray⟩, .bool dn, .int .u64 (ots : Nat), .int .i64 on, .int .i64 err, .bool found, .string ⟨oval.toArray⟩, .slice pa pn pc, .int .i64 frm, .int .i64 til] 45)) _ _ _ at hX
  show Calls Tryz.prog 24 #[.slice a n c, .agg #[.int .u64 (ts : Nat), .int .i64 n0, .int .i64 kind, .int .u64 (cts : Nat), .string ⟨key.toArray⟩, .string ⟨hi.toArray⟩, .string ⟨val.toArray⟩, .bool dn, .int .u64 (ots : Nat), .int .i64 on, .int .i64 err, .bool found, .string ⟨oval.toArray⟩, .slice pa pn pc, .int .i64 frm, .int .i64 til]] w _
  clear h hn hasc hq hpn hrb
  go_enter Tryz.func24, Tryz.ntmps24
  go_upto_region 1 with fail
  have hXl : w.heap.size < (w.alloc (.cells #[.int .u64 (ts : Nat), .int .i64 n0, .int .i64 kind, .int .u64 (cts : Nat), .string ⟨key.toArray⟩, .string ⟨hi.toArray⟩, .string ⟨val.toArray⟩, .bool dn, .int .u64 (ots : Nat), .int .i64 on, .int .i64 err, .bool found, .string ⟨oval.toArray⟩, .slice pa pn pc, .int .i64 frm, .int .i64 til] 45)).heap.size := by rw [World.size_alloc]; omega
  obtain ⟨xb, hxb⟩ : ∃ x, w.heap.size = x := ⟨_, rfl⟩
  have HBn := Lib.hid hbn
  try simp only [hxb] at hX hXl ⊢
  generalize w.alloc (.cells #[.int .u64 (ts : Nat), .int .i64 n0, .int .i64 kind, .int .u64 (cts : Nat), .string ⟨key.toArray⟩, .string ⟨hi.toArray⟩, .string ⟨val.toArray⟩, .bool dn, .int .u64 (ots : Nat), .int .i64 on, .int .i64 err, .bool found, .string ⟨oval.toArray⟩, .slice pa pn pc, .int .i64 frm, .int .i64 til] 45) = w1 at *
  obtain ⟨_, _, d2, _, d4, d5, _, _, _, _, _, d11, d12, d13, _, _⟩ := hX
  simp only at d2 d4 d5 d11 d12 d13
  have HD := Lib.hid (show ∀ w', Below w1.heap.size w1 w' → (w'.cell? ⟨xb, 4, none⟩ = some (.string ⟨key.toArray⟩) ∧ w'.cell? ⟨xb, 5, none⟩ = some (.string ⟨hi.toArray⟩) ∧ w'.cell? ⟨xb, 11, none⟩ = some (.bool found) ∧ w'.cell? ⟨xb, 12, none⟩ = some (.string ⟨oval.toArray⟩) ∧ w'.cell? ⟨xb, 13, none⟩ = some (.slice pa pn pc)) from fun w' hb =>
    ⟨by rw [hb.cell (p := ⟨xb, 4, none⟩) hXl]; exact d4, by rw [hb.cell (p := ⟨xb, 5, none⟩) hXl]; exact d5, by rw [hb.cell (p := ⟨xb, 11, none⟩) hXl]; exact d11, by rw [hb.cell (p := ⟨xb, 12, none⟩) hXl]; exact d12, by rw [hb.cell (p := ⟨xb, 13, none⟩) hXl]; exact d13⟩)
  have HM1 := Lib.hid (HH.out.on HBn.out)
  have HP1 := Lib.hid (HPr.out.on HBn.out)
  clear hxb hbn d4 d5 d11 d12 d13 HH HPr
  by_cases h1 : kind = 1
  · subst h1
    have HRd := Lib.hid (show rb = readB M ⟨ts, n0, 1, cts, key, hi, val, dn, ots, on, err, found, oval, pa, pn, pc, frm, til⟩ from by rw [HRb.out, if_pos rfl])
    clear HRb
    go_wp2_with fail
    clear d2
    go_loopw [5, 6, 7] (fun s5 s6 s7 wr => ∃ i : Nat, i ≤ n ∧ s7 = .int .i64 i ∧ s5 = .bool (lastV (M.take i) key).isSome ∧ s6 = .string ⟨((lastV (M.take i) key).getD []).toArray⟩ ∧ Below w1.heap.size w1 wr) (fun _ _ s7 _ => n - (intOf s7).toNat)
    case atStart => exact ⟨0, by omega, rfl, rfl, rfl, Below.refl _ _⟩
    case round =>
      obtain ⟨i, hi', rfl, rfl, rfl, hb⟩ := hrel
      have HB := Lib.hid hb
      clear hb
      obtain ⟨fb, hfb⟩ : ∃ b, (lastV (M.take i) key).isSome = b := ⟨_, rfl⟩
      obtain ⟨vb, hvb⟩ : ∃ b, (lastV (M.take i) key).getD [] = b := ⟨_, rfl⟩
      by_cases hlt : i < n
      · have hil : (i : Int) < (n : Int) := by omega
        obtain ⟨p, g, o, hp, _, rfl, hg, c0, c1⟩ := pairs_row (HM1.out.on HB.out) HN.out hlt
        have HNx := Lib.hid (lastV_next M key i p hp)
        obtain ⟨pk, pv⟩ := p
        simp only at c0 c1 HNx
        rw [hfb, hvb]
        have HFb := Lib.hid hfb
        have HVb := Lib.hid hvb
        have HF := Lib.hid (show ∀ w', Below wr.heap.size wr w' → (w'.cell? ⟨g, o + i * 2, none⟩ = some (.string ⟨pk.toArray⟩) ∧ w'.cell? ⟨g, o + i * 2 + 1, none⟩ = some (.string ⟨pv.toArray⟩) ∧ w'.cell? ⟨xb, 4, none⟩ = some (.string ⟨key.toArray⟩)) from fun w' hb => ⟨by rw [hb.cell (p := ⟨g, o + i * 2, none⟩) hg]; exact c0, by rw [hb.cell (p := ⟨g, o + i * 2 + 1, none⟩) hg]; exact c1, (HD.out w' (HB.out.trans (hb.mono HB.out.size))).1⟩)
        clear hp hg c0 c1 hfb hvb
        by_cases hk : pk = key
        · have e1 : ((⟨pk.toArray⟩ : ByteArray) == ⟨key.toArray⟩) = true := by rw [bytes_beq]; simp [hk]
          have e2 : (pk == key) = true := by simp [hk]
          have HX := Lib.hid (show lastV (M.take (i + 1)) key = some pv by rw [HNx.out, if_pos hk])
          clear hk HNx
          go_upto_region 7 with fail
          refine wp_region_settle (Below wr.heap.size wr) (by kernel_rfl) (by kernel_rfl) (by kernel_rfl) (below_drew (Below.refl _ _)) ?_
          repeat (first
            | (refine settled_not ?_ ?_
               · rfl
               simp only [Act.put, List.setIfInBounds_toArray, List.set_cons_zero, List.set_cons_succ])
            | (refine settled_val (v := ?_) ?_ (fun w' hS => ?_) ?_
               rotate_left
               · rfl
               · obtain ⟨k0, k1, k2⟩ := HF.out w' hS
                 go_simp
                 with_reducible rfl
               simp only [Act.put, List.setIfInBounds_toArray, List.set_cons_zero, List.set_cons_succ]))
          refine settled_nil (fun w8 hS => ?_)
          obtain ⟨k0, k1, k2⟩ := HF.out w8 hS
          have HE := Lib.hid (HB.out.trans (hS.mono HB.out.size))
          clear hS
          go_wp2_with fail
          go_roundw
          case rel => exact ⟨i + 1, by omega, by go_num, by rw [HX.out]; rfl, by rw [HX.out]; rfl, HE.out⟩
          case measure => simp [intOf]; omega
        · have e1 : ((⟨pk.toArray⟩ : ByteArray) == ⟨key.toArray⟩) = false := by rw [bytes_beq]; simp [hk]
          have e2 : (pk == key) = false := by simp [hk]
          have HX := Lib.hid (show lastV (M.take (i + 1)) key = lastV (M.take i) key by rw [HNx.out, if_neg hk])
          clear hk HNx
          go_upto_region 7 with fail
          refine wp_region_settle (Below wr.heap.size wr) (by kernel_rfl) (by kernel_rfl) (by kernel_rfl) (below_drew (Below.refl _ _)) ?_
          repeat (first
            | (refine settled_not ?_ ?_
               · rfl
               simp only [Act.put, List.setIfInBounds_toArray, List.set_cons_zero, List.set_cons_succ])
            | (refine settled_val (v := ?_) ?_ (fun w' hS => ?_) ?_
               rotate_left
               · rfl
               · obtain ⟨k0, k1, k2⟩ := HF.out w' hS
                 go_simp
                 with_reducible rfl
               simp only [Act.put, List.setIfInBounds_toArray, List.set_cons_zero, List.set_cons_succ]))
          refine settled_nil (fun w8 hS => ?_)
          have HE := Lib.hid (HB.out.trans (hS.mono HB.out.size))
          clear hS
          go_wp2_with fail
          go_roundw
          case rel => exact ⟨i + 1, by omega, by go_num, by rw [HX.out, HFb.out], by rw [HX.out, HVb.out], HE.out⟩
          case measure => simp [intOf]; omega
      · have hil : ¬ (i : Int) < (n : Int) := by omega
        rw [List.take_of_length_le (by have := HN.out; omega)] at hfb hvb ⊢
        have HX := Lib.hid (show rb = (decide (found = fb) && decide (oval = vb)) by rw [HRd.out, readB_of HAs.out _ fb vb hfb hvb])
        rw [hfb, hvb]
        have HTop := Lib.hid (HBn.out.trans (HB.out.mono HBn.out.size))
        obtain ⟨k0, k1, k2, k3, k4⟩ := HD.out wr HB.out
        clear hfb hvb
        by_cases hv : oval = vb
        · have e1 : ((⟨oval.toArray⟩ : ByteArray) == ⟨vb.toArray⟩) = true := by rw [bytes_beq]; simp [hv]
          have e2 : (oval == vb) = true := by simp [hv]
          have HV := Lib.hid (show decide (oval = vb) = true from decide_eq_true hv)
          clear hv
          cases found <;> cases fb <;>
          (go_wp2_with fail
           go_ret
           exact ⟨by rw [HX.out, HV.out]; rfl, HTop.out⟩)
        · have e1 : ((⟨oval.toArray⟩ : ByteArray) == ⟨vb.toArray⟩) = false := by rw [bytes_beq]; simp [hv]
          have e2 : (oval == vb) = false := by simp [hv]
          have HV := Lib.hid (show decide (oval = vb) = false from decide_eq_false hv)
          clear hv
          cases found <;> cases fb <;>
          (go_wp2_with fail
           go_ret
           exact ⟨by rw [HX.out, HV.out]; rfl, HTop.out⟩)
  · have e1 : (kind == 1) = false := by simp [h1]
    by_cases h2 : kind = 2
    · subst h2
      have HRd := Lib.hid (show rb = decide (P = sel M key hi) from by rw [HRb.out, if_neg (by decide), if_pos rfl])
      have HSt := Lib.hid (show PutSt w1 w1 (.slice none 0 0) (sel (M.take 0) key hi) from PutSt.start w1)
      clear HRb h1 e1
      go_wp2_with fail
      clear d2
      go_loopw [8, 9] (fun s8 s9 wr => ∃ i : Nat, i ≤ n ∧ s9 = .int .i64 i ∧ PutSt w1 wr s8 (sel (M.take i) key hi)) (fun _ s9 _ => n - (intOf s9).toNat)
      case atStart => exact ⟨0, by omega, rfl, HSt.out⟩
      case round =>
        clear HSt
        obtain ⟨i, hi', rfl, hS⟩ := hrel
        obtain ⟨D, hD⟩ : ∃ D, sel (M.take i) key hi = D := ⟨_, rfl⟩
        rw [hD] at hS
        have HS := Lib.hid hS
        have HB := Lib.hid hS.below
        clear hS
        by_cases hlt : i < n
        · have hil : (i : Int) < (n : Int) := by omega
          have hDl : D.length ≤ 100000 := by rw [← hD]; have := sel_len M key hi i; omega
          obtain ⟨p, g, o, hp, _, rfl, hg, c0, c1⟩ := pairs_row (HM1.out.on HB.out) HN.out hlt
          have HNx := Lib.hid (show sel (M.take (i + 1)) key hi = D ++ if inside key hi p.1 then [p] else [] by rw [sel_next M key hi i p hp, hD])
          obtain ⟨pk, pv⟩ := p
          simp only at c0 c1 HNx
          have HF := Lib.hid (show ∀ w', Below wr.heap.size wr w' → (w'.cell? ⟨g, o + i * 2, none⟩ = some (.string ⟨pk.toArray⟩) ∧ w'.cell? ⟨xb, 4, none⟩ = some (.string ⟨key.toArray⟩) ∧ w'.cell? ⟨xb, 5, none⟩ = some (.string ⟨hi.toArray⟩)) from fun w' hb => ⟨by rw [hb.cell (p := ⟨g, o + i * 2, none⟩) hg]; exact c0, (HD.out w' (HB.out.trans (hb.mono HB.out.size))).1, (HD.out w' (HB.out.trans (hb.mono HB.out.size))).2.1⟩)
          have HG := Lib.hid (show ∀ w', Below wr.heap.size wr w' → (w'.cell? ⟨g, o + i * 2, none⟩ = some (.string ⟨pk.toArray⟩) ∧ w'.cell? ⟨g, o + i * 2 + 1, none⟩ = some (.string ⟨pv.toArray⟩)) from fun w' hb => ⟨by rw [hb.cell (p := ⟨g, o + i * 2, none⟩) hg]; exact c0, by rw [hb.cell (p := ⟨g, o + i * 2 + 1, none⟩) hg]; exact c1⟩)
          obtain ⟨bi, hbi⟩ : ∃ b, inside key hi pk = b := ⟨_, rfl⟩
          rw [hbi] at HNx
          have HBi := Lib.hid hbi
          clear hp hg c0 c1 hD hbi
          go_upto_region 16 with fail
          by_cases h1 : pk < key
          · have f1 : Op.bytesLess pk key = true := by rw [Go.Proofs.bytesLess_eq]; exact decide_eq_true h1
            have HIn := Lib.hid (show bi = false by rw [← HBi.out]; unfold inside; rw [decide_eq_false (fun hh => absurd h1 (List.not_lt.2 hh))]; rfl)
            clear h1
            refine wp_region_settle (Below wr.heap.size wr) (by kernel_rfl) (by kernel_rfl) (by kernel_rfl) (below_drew (Below.refl _ _)) ?_
            repeat (first
              | (refine settled_not ?_ ?_
                 · rfl
                 simp only [Act.put, List.setIfInBounds_toArray, List.set_cons_zero, List.set_cons_succ])
              | (refine settled_val (v := ?_) ?_ (fun w' hS => ?_) ?_
                 rotate_left
                 · rfl
                 · obtain ⟨k0, k1, k2⟩ := HF.out w' hS
                   go_simp
                   with_reducible rfl
                 simp only [Act.put, List.setIfInBounds_toArray, List.set_cons_zero, List.set_cons_succ]))
            refine settled_nil (fun w4 hb4 => ?_)
            have HS4 := Lib.hid (show PutSt w1 w4 u8 D from ⟨ownsRow_mod HS.out.own (Mod.of_below hb4 (S := [])) (by simp), HB.out.trans (hb4.mono HB.out.size)⟩)
            obtain ⟨c0, c1⟩ := HG.out w4 hb4
            clear hb4
            have HX := Lib.hid (show sel (M.take (i + 1)) key hi = D by rw [HNx.out, HIn.out]; simp)
            go_wp2_with fail
            go_roundw
            case rel => exact ⟨i + 1, by omega, by go_num, by rw [HX.out]; exact HS4.out⟩
            case measure => simp [intOf]; omega
          · have f1 : Op.bytesLess pk key = false := by rw [Go.Proofs.bytesLess_eq]; exact decide_eq_false h1
            have hle : decide (key ≤ pk) = true := decide_eq_true (List.not_lt.1 h1)
            cases hi with
            | nil =>
              have HIn := Lib.hid (show bi = true by rw [← HBi.out]; unfold inside; rw [hle]; rfl)
              clear hle h1
              refine wp_region_settle (Below wr.heap.size wr) (by kernel_rfl) (by kernel_rfl) (by kernel_rfl) (below_drew (Below.refl _ _)) ?_
              repeat (first
                | (refine settled_not ?_ ?_
                   · rfl
                   simp only [Act.put, List.setIfInBounds_toArray, List.set_cons_zero, List.set_cons_succ])
                | (refine settled_val (v := ?_) ?_ (fun w' hS => ?_) ?_
                   rotate_left
                   · rfl
                   · obtain ⟨k0, k1, k2⟩ := HF.out w' hS
                     go_simp
                     with_reducible rfl
                   simp only [Act.put, List.setIfInBounds_toArray, List.set_cons_zero, List.set_cons_succ]))
              refine settled_nil (fun w4 hb4 => ?_)
              have HS4 := Lib.hid (show PutSt w1 w4 u8 D from ⟨ownsRow_mod HS.out.own (Mod.of_below hb4 (S := [])) (by simp), HB.out.trans (hb4.mono HB.out.size)⟩)
              obtain ⟨c0, c1⟩ := HG.out w4 hb4
              clear hb4
              have HX := Lib.hid (show sel (M.take (i + 1)) key [] = D ++ [(pk, pv)] by rw [HNx.out, HIn.out]; simp)
              obtain ⟨v', w', hrun, hS'⟩ := HS4.out.add (by omega) (pk, pv)
              have HS' := Lib.hid hS'
              clear hS'
              go_wp2_with (at_builtin; (with_reducible refine wpList_append_run rfl _ _ _ rfl _ _ _ _ ?_ ?_ hrun ?_); rfl; rfl)
              go_roundw
              case rel => exact ⟨i + 1, by omega, by go_num, by rw [HX.out]; exact HS'.out⟩
              case measure => simp [intOf]; omega
            | cons x xs =>
              have f2 : (({ data := (x :: xs).toArray } : ByteArray) == { data := #[] }) = false := rfl
              by_cases h2 : pk < x :: xs
              · have f3 : Op.bytesLess pk (x :: xs) = true := by rw [Go.Proofs.bytesLess_eq]; exact decide_eq_true h2
                have HIn := Lib.hid (show bi = true by rw [← HBi.out]; unfold inside; rw [hle, decide_eq_true h2]; rfl)
                clear hle h1 h2
                refine wp_region_settle (Below wr.heap.size wr) (by kernel_rfl) (by kernel_rfl) (by kernel_rfl) (below_drew (Below.refl _ _)) ?_
                repeat (first
                  | (refine settled_not ?_ ?_
                     · rfl
                     simp only [Act.put, List.setIfInBounds_toArray, List.set_cons_zero, List.set_cons_succ])
                  | (refine settled_val (v := ?_) ?_ (fun w' hS => ?_) ?_
                     rotate_left
                     · rfl
                     · obtain ⟨k0, k1, k2⟩ := HF.out w' hS
                       go_simp
                       with_reducible rfl
                     simp only [Act.put, List.setIfInBounds_toArray, List.set_cons_zero, List.set_cons_succ]))
                refine settled_nil (fun w4 hb4 => ?_)
                have HS4 := Lib.hid (show PutSt w1 w4 u8 D from ⟨ownsRow_mod HS.out.own (Mod.of_below hb4 (S := [])) (by simp), HB.out.trans (hb4.mono HB.out.size)⟩)
                obtain ⟨c0, c1⟩ := HG.out w4 hb4
                clear hb4
                have HX := Lib.hid (show sel (M.take (i + 1)) key (x :: xs) = D ++ [(pk, pv)] by rw [HNx.out, HIn.out]; simp)
                obtain ⟨v', w', hrun, hS'⟩ := HS4.out.add (by omega) (pk, pv)
                have HS' := Lib.hid hS'
                clear hS'
                go_wp2_with (at_builtin; (with_reducible refine wpList_append_run rfl _ _ _ rfl _ _ _ _ ?_ ?_ hrun ?_); rfl; rfl)
                go_roundw
                case rel => exact ⟨i + 1, by omega, by go_num, by rw [HX.out]; exact HS'.out⟩
                case measure => simp [intOf]; omega
              · have f3 : Op.bytesLess pk (x :: xs) = false := by rw [Go.Proofs.bytesLess_eq]; exact decide_eq_false h2
                have HIn := Lib.hid (show bi = false by rw [← HBi.out]; unfold inside; rw [hle, decide_eq_false h2]; rfl)
                clear hle h1 h2
                refine wp_region_settle (Below wr.heap.size wr) (by kernel_rfl) (by kernel_rfl) (by kernel_rfl) (below_drew (Below.refl _ _)) ?_
                repeat (first
                  | (refine settled_not ?_ ?_
                     · rfl
                     simp only [Act.put, List.setIfInBounds_toArray, List.set_cons_zero, List.set_cons_succ])
                  | (refine settled_val (v := ?_) ?_ (fun w' hS => ?_) ?_
                     rotate_left
                     · rfl
                     · obtain ⟨k0, k1, k2⟩ := HF.out w' hS
                       go_simp
                       with_reducible rfl
                     simp only [Act.put, List.setIfInBounds_toArray, List.set_cons_zero, List.set_cons_succ]))
                refine settled_nil (fun w4 hb4 => ?_)
                have HS4 := Lib.hid (show PutSt w1 w4 u8 D from ⟨ownsRow_mod HS.out.own (Mod.of_below hb4 (S := [])) (by simp), HB.out.trans (hb4.mono HB.out.size)⟩)
                obtain ⟨c0, c1⟩ := HG.out w4 hb4
                clear hb4
                have HX := Lib.hid (show sel (M.take (i + 1)) key (x :: xs) = D by rw [HNx.out, HIn.out]; simp)
                go_wp2_with fail
                go_roundw
                case rel => exact ⟨i + 1, by omega, by go_num, by rw [HX.out]; exact HS4.out⟩
                case measure => simp [intOf]; omega
        · have hil : ¬ (i : Int) < (n : Int) := by omega
          rw [List.take_of_length_le (by have := HN.out; omega)] at hD
          obtain ⟨a3, c3, rfl⟩ := own_slice HS.out.own
          have HK := Lib.hid (pairsR_any wr pa a3 pn pc D.length c3 P D (HP1.out.on HB.out) (own_rows HS.out.own).1 HPn.out rfl (by omega))
          have HX := Lib.hid (show rb = decide (P = D) by rw [HRd.out, hD])
          have HTop := Lib.hid (HBn.out.trans (HB.out.mono HBn.out.size))
          obtain ⟨k0, k1, k2, k3, k4⟩ := HD.out wr HB.out
          obtain ⟨ln, hln⟩ : ∃ x, D.length = x := ⟨_, rfl⟩
          rw [hln] at HK ⊢
          clear hD hln
          go_wp2_with fail
          refine HK.out.mono ?_
          rintro e w5 ⟨rfl, hb5⟩
          have HE := Lib.hid (HTop.out.trans (hb5.mono HTop.out.size))
          clear hb5
          go_wp2_with fail
          go_ret
          rw [HX.out]
          exact ⟨by try rfl, HE.out⟩
    · have e2 : (kind == 2) = false := by simp [h2]
      have HX := Lib.hid (show rb = true from by rw [HRb.out, if_neg h1, if_neg h2])
      clear HRb h1 h2
      go_wp2_with fail
      go_ret
      rw [HX.out]
      exact ⟨by try rfl, HBn.out⟩
end Go.Proofs.YtffianjbljgnaaaGreat

/-! ### RfEnd -/
namespace Go.Proofs.YtffianjbljgnaaaGreat
set_option linter.unusedVariables false
set_option linter.unusedSimpArgs false
open Go.RowKit Go.Maps

/-- The operations of the last entry of some, as they lie. -/
def lastV8 (O : List EZ) : Value := match O.getLast? with | none => .slice none 0 0 | some q => .slice q.1.a q.1.n q.1.c
theorem lastV8_snoc (O : List EZ) (q : EZ) : lastV8 (O ++ [q]) = .slice q.1.a q.1.n q.1.c := by unfold lastV8; simp
theorem lastV8_is {w : World} {O : List EZ} (h : ∀ q ∈ O, EntIs w q.1 q.2) : ∃ (a : Option Addr) (n c : Nat), lastV8 O = .slice a n c ∧ RowsAt w a n c 4 (recsCells (lastOps (O.map (·.2)))) ∧ n = (lastOps (O.map (·.2))).length ∧ (O.length = 0 → n = 0) := by
  unfold lastV8 lastOps
  rw [List.getLast?_map]
  cases hg : O.getLast? with
  | none => exact ⟨none, 0, 0, rfl, RowsAt.nil _ _, rfl, fun _ => rfl⟩
  | some q =>
    have hm : q ∈ O := List.mem_of_getLast? hg
    have := h q hm
    exact ⟨_, _, _, rfl, this.rows, this.n, fun h0 => by rw [List.length_eq_zero_iff.1 h0] at hm; cases hm⟩
theorem EntsAt.rowE {w : World} {a : Option Addr} {n c : Nat} {z : List EZ} (h : EntsAt w a n c z) {i : Nat} (hi : i < n) :
    ∃ (q : EZ) (g o : Nat), z[i]? = some q ∧ q ∈ z ∧ a = some ⟨g, o, none⟩ ∧ g < w.heap.size ∧ w.cell? ⟨g, o + i * 3, none⟩ = some (.int .u64 (q.1.ts : Nat)) ∧ w.cell? ⟨g, o + i * 3 + 2, none⟩ = some (.slice q.1.a q.1.n q.1.c) := by
  obtain ⟨q, g, o, h1, h2, h3, h4, h5, _, h7⟩ := h.row hi
  exact ⟨q, g, o, h1, h2, h3, h4, h5, h7⟩
set_option maxRecDepth 100000 in
set_option maxHeartbeats 16000000 in
theorem endedR_any (w : World) (a : Option Addr) (n c : Nat) (z : List EZ) (h : EntsAt w a n c z) (hn : n ≤ 100000) (ts : Nat) (aw : Option Addr) (nw cw : Nat) (W : List Rec) (hW : RowsAt w aw nw cw 4 (recsCells W)) (eW : nw = W.length) (hwm : nw ≤ 100000) (hap : ApartW W) (hops : ∀ q ∈ z, q.2.ops.length ≤ 100000) :
    Calls Tryz.prog 27 #[.slice a n c, .int .u64 (ts : Nat), .slice aw nw cw] w fun e w' => e = .returned (.bool (endedB W (entsOf z ts))) ∧ Below w.heap.size w w' := by
  have HH := Lib.hid h
  have HW := Lib.hid hW
  have EW := Lib.hid eW
  have HLen := Lib.hid h.len
  have HIs := Lib.hid h.each
  have HOps := Lib.hid hops
  obtain ⟨rb, hrb⟩ : ∃ b, endedB W (entsOf z ts) = b := ⟨_, rfl⟩
  have HRb := Lib.hid (show rendedB W (ofZ z ts).length (lastOps ((ofZ z ts).map (·.2))) = rb from by
    rw [← hrb, ← rendedB_eq hap (entsOf z ts)]
    unfold entsOf
    rw [List.length_map])
  rw [hrb]
  clear h hW eW hap hops hrb
  go_enter Tryz.func27, Tryz.ntmps27
  go_wp2_with fail
  go_loopw [7, 8, 9] (fun s7 s8 s9 wr => ∃ i : Nat, i ≤ n ∧ s9 = .int .i64 i ∧ s7 = .int .i64 (((ofZ (z.take i) ts).length : Nat) : Int) ∧ s8 = lastV8 (ofZ (z.take i) ts) ∧ Below w.heap.size w wr) (fun _ _ s9 _ => n - (intOf s9).toNat)
  case atStart => exact ⟨0, by omega, rfl, rfl, rfl, Below.refl _ _⟩
  case round =>
    obtain ⟨i, hi, rfl, rfl, rfl, hb⟩ := hrel
    have HB := Lib.hid hb
    clear hb
    obtain ⟨O, hO⟩ : ∃ O, ofZ (z.take i) ts = O := ⟨_, rfl⟩
    rw [hO]
    obtain ⟨k, hk⟩ : ∃ k, O.length = k := ⟨_, rfl⟩
    obtain ⟨lv, hlv⟩ : ∃ v, lastV8 O = v := ⟨_, rfl⟩
    by_cases hlt : i < n
    · have hil : (i : Int) < (n : Int) := by omega
      have hk1 : k ≤ i := by rw [← hk, ← hO]; exact ofZ_le z ts i
      obtain ⟨q, g, o, hq, hqz, rfl, hg, c0, c2⟩ := (HH.out.on HB.out).rowE hlt
      have HNx := Lib.hid (show ofZ (z.take (i + 1)) ts = O ++ if q.1.ts = ts then [q] else [] by rw [ofZ_next z ts i q hq, hO])
      have HLv := Lib.hid hlv
      have HK := Lib.hid hk
      obtain ⟨⟨qt, qf, qa, qn, qc⟩, qx⟩ := q
      simp only at c0 c2 HNx
      rw [hk, hlv]
      clear hq hqz hg hO hk hlv
      by_cases ht : qt = ts
      · have e1 : ((qt : Int) == (ts : Int)) = true := by simp [ht]
        have HX := Lib.hid (show ofZ (z.take (i + 1)) ts = O ++ [((⟨qt, qf, qa, qn, qc⟩ : Ent), qx)] by rw [HNx.out, if_pos ht])
        have hwk : IntKind.i64.wrap ((k : Int) + 1) = (k : Int) + 1 := IntWalk.i64_in _ (by omega)
        clear ht HNx
        go_wp2_with fail
        go_roundw
        case rel => exact ⟨i + 1, by omega, by go_num, by rw [HX.out, List.length_append, HK.out]; simp, by rw [HX.out, lastV8_snoc], HB.out⟩
        case measure => simp [intOf]; omega
      · have e1 : ((qt : Int) == (ts : Int)) = false := by simp; omega
        have HX := Lib.hid (show ofZ (z.take (i + 1)) ts = O by rw [HNx.out, if_neg ht]; simp)
        clear ht HNx
        go_wp2_with fail
        go_roundw
        case rel => exact ⟨i + 1, by omega, by go_num, by rw [HX.out, HK.out], by rw [HX.out, HLv.out], HB.out⟩
        case measure => simp [intOf]; omega
    · have hil : ¬ (i : Int) < (n : Int) := by omega
      have hk1 : k ≤ 100000 := by rw [← hk, ← hO]; have := ofZ_le z ts i; omega
      rw [List.take_of_length_le (by have := HLen.out; omega)] at hO
      have hOz : ∀ q ∈ O, q ∈ z := fun q hq => by rw [← hO] at hq; unfold ofZ at hq; exact (List.mem_filter.1 hq).1
      obtain ⟨oa, on, oc, e8, hor, hol, ho0⟩ := lastV8_is (w := wr) (O := O) (fun q hq => (HIs.out q (hOz q hq)).on HB.out)
      obtain ⟨l, hl⟩ : ∃ l, lastOps (O.map (·.2)) = l := ⟨_, rfl⟩
      rw [hl] at hor hol
      have HR := Lib.hid (show rendedB W k l = rb from by rw [← HRb.out, hO, hk, hl])
      have hon : on ≤ 100000 := by
        rw [hol, ← hl]
        unfold lastOps
        rw [List.getLast?_map]
        cases hg : O.getLast? with
        | none => exact Nat.zero_le _
        | some q => exact HOps.out q (hOz q (List.mem_of_getLast? hg))
      rw [hk, e8]
      rw [hk] at ho0
      have HOr := Lib.hid hor
      have HOl := Lib.hid hol
      have HO0 := Lib.hid ho0
      have HW1 := Lib.hid (HW.out.on HB.out)
      clear hO hOz e8 hor hol hl hk hlv HRb ho0
      go_upto_region 9 with fail
      generalize wr = wo at *
      obtain ⟨bad, hbad⟩ : ∃ b, decide (1 < k ∨ (k = 0 ∧ 0 < nw) ∨ on ≠ nw ∨ (k = 1 ∧ nw = 0)) = b := ⟨_, rfl⟩
      have HBad := Lib.hid hbad
      clear hbad
      go_cut [59] (fun s59 wx => s59 = .bool bad ∧ wo = wx)
      case first =>
        by_cases h2 : 1 < k
        · have i2 : (k : Int) > 1 := by omega
          have HX := Lib.hid (show bad = true by rw [← HBad.out]; simp [h2])
          go_wp2_with fail
          go_meet
          exact ⟨by rw [HX.out], rfl⟩
        · by_cases h0 : k = 0
          · subst h0
            have h00 := HO0.out rfl
            subst h00
            by_cases hw0 : 0 < nw
            · have iw : (nw : Int) > 0 := by omega
              have HX := Lib.hid (show bad = true by rw [← HBad.out]; simp [hw0])
              go_wp2_with fail
              go_meet
              exact ⟨by rw [HX.out], rfl⟩
            · have iw : nw = 0 := by omega
              subst iw
              have HX := Lib.hid (show bad = false by rw [← HBad.out]; simp)
              go_wp2_with fail
              go_meet
              exact ⟨by rw [HX.out], rfl⟩
          · have h1 : k = 1 := by omega
            subst h1
            by_cases hw : on = nw
            · have iw : ((on : Int) != (nw : Int)) = false := by simp [hw]
              by_cases hw0 : nw = 0
              · have iw0 : ((nw : Int) == 0) = true := by simp [hw0]
                have HX := Lib.hid (show bad = true by rw [← HBad.out]; simp [hw0])
                clear hw hw0
                go_wp2_with fail
                go_meet
                exact ⟨by rw [HX.out], rfl⟩
              · have iw0 : ((nw : Int) == 0) = false := by simp; omega
                have HX := Lib.hid (show bad = false by rw [← HBad.out]; simp [hw0, hw])
                clear hw hw0
                go_wp2_with fail
                go_meet
                exact ⟨by rw [HX.out], rfl⟩
            · have iw : ((on : Int) != (nw : Int)) = true := by simp; omega
              have HX := Lib.hid (show bad = true by rw [← HBad.out]; simp [hw])
              clear hw
              go_wp2_with fail
              go_meet
              exact ⟨by rw [HX.out], rfl⟩
      obtain ⟨rfl, rfl⟩ := hcut
      have HCase := Lib.hid (show rb = if bad = true then false else rended1 W l from by
        rw [← HR.out, ← HBad.out]
        unfold rendedB
        have hc : (1 < k ∨ (k = 0 ∧ 0 < W.length) ∨ l.length ≠ W.length ∨ (k = 1 ∧ W.length = 0)) ↔ (1 < k ∨ (k = 0 ∧ 0 < nw) ∨ on ≠ nw ∨ (k = 1 ∧ nw = 0)) := by rw [EW.out, HOl.out]
        by_cases hh : (1 < k ∨ (k = 0 ∧ 0 < nw) ∨ on ≠ nw ∨ (k = 1 ∧ nw = 0))
        · rw [if_pos (hc.2 hh), decide_eq_true hh, if_pos rfl]
        · rw [if_neg (fun h => hh (hc.1 h)), decide_eq_false hh, if_neg (by decide)])
      clear HR HBad
      cases bad with
      | true =>
        have HX := Lib.hid (show rb = false from HCase.out)
        go_wp2_with fail
        go_ret
        rw [HX.out]
        exact ⟨by try rfl, HB.out⟩
      | false =>
      have HX := Lib.hid (show rb = rended1 W l from HCase.out)
      clear HCase
      go_wp2_with fail
      go_loopw [10, 11, 12] (fun s10 _ _ wr => ∃ j : Nat, j ≤ nw ∧ s10 = .int .i64 j ∧ rended1 W l = rended1 (W.drop j) l ∧ Below wo.heap.size wo wr) (fun s10 _ _ _ => nw - (intOf s10).toNat)
      case atStart => exact ⟨0, by omega, rfl, rfl, Below.refl _ _⟩
      case round =>
        obtain ⟨j, hj, rfl, hre, hb⟩ := hrel
        have HRe := Lib.hid hre
        have HBj := Lib.hid hb
        have HTop := Lib.hid (HB.out.trans (hb.mono HB.out.size))
        clear hre hb
        by_cases hjn : j < nw
        · have hjl : (j : Int) < (nw : Int) := by omega
          obtain ⟨x, gx, ox, hx, _, rfl, hgx, x0, x1, x2, x3⟩ := recs_row (HW1.out.on HBj.out) EW.out hjn
          have HSt := Lib.hid (rended1_step W l j x hx)
          have HFx := Lib.hid (show ∀ w', Below wr.heap.size wr w' → (w'.cell? ⟨gx, ox + j * 4, none⟩ = some (.string ⟨x.key.toArray⟩) ∧ w'.cell? ⟨gx, ox + j * 4 + 2, none⟩ = some (.bool x.del) ∧ w'.cell? ⟨gx, ox + j * 4 + 3, none⟩ = some (.string ⟨x.val.toArray⟩)) from fun w' hb => ⟨by rw [hb.cell (p := ⟨gx, ox + j * 4, none⟩) hgx]; exact x0, by rw [hb.cell (p := ⟨gx, ox + j * 4 + 2, none⟩) hgx]; exact x2, by rw [hb.cell (p := ⟨gx, ox + j * 4 + 3, none⟩) hgx]; exact x3⟩)
          clear hx hgx x0 x1 x2 x3
          go_wp2_with fail
          generalize wr = wi at *
          go_loopw [11, 12] (fun s11 s12 wr => ∃ k : Nat, k ≤ on ∧ s12 = .int .i64 k ∧ s11 = .int .i64 ((sameN x (l.take k) : Nat) : Int) ∧ matchB x (l.take k) = true ∧ Below wi.heap.size wi wr) (fun _ s12 _ => on - (intOf s12).toNat)
          case atStart => exact ⟨0, by omega, rfl, rfl, rfl, Below.refl _ _⟩
          case round =>
            obtain ⟨k, hk, rfl, rfl, hma, hb⟩ := hrel
            have HMa := Lib.hid hma
            have HBk := Lib.hid hb
            have HTk := Lib.hid (HTop.out.trans (hb.mono HTop.out.size))
            clear hma hb
            obtain ⟨sn, hsn⟩ : ∃ s, sameN x (l.take k) = s := ⟨_, rfl⟩
            rw [hsn]
            have hsk : sn ≤ k := by rw [← hsn]; exact sameN_le x l k
            by_cases hkn : k < on
            · have hkl : (k : Int) < (on : Int) := by omega
              obtain ⟨q, gq, oq, hq, _, rfl, hgq, q0, q1, q2, q3⟩ := recs_row (HOr.out.on (HBj.out.trans (HBk.out.mono HBj.out.size))) HOl.out hkn
              have HNs := Lib.hid (show sameN x (l.take (k + 1)) = sn + if q.key = x.key then 1 else 0 by rw [sameN_next x l k q hq, hsn])
              have HNm := Lib.hid (show matchB x (l.take (k + 1)) = (!decide (q.key = x.key) || (decide (q.del = x.del) && decide (q.val = x.val))) by rw [matchB_next x l k q hq, HMa.out, Bool.true_and])
              have HF := Lib.hid (show ∀ w', Below wr.heap.size wr w' → ((w'.cell? ⟨gq, oq + k * 4, none⟩ = some (.string ⟨q.key.toArray⟩) ∧ w'.cell? ⟨gq, oq + k * 4 + 2, none⟩ = some (.bool q.del) ∧ w'.cell? ⟨gq, oq + k * 4 + 3, none⟩ = some (.string ⟨q.val.toArray⟩)) ∧ (w'.cell? ⟨gx, ox + j * 4, none⟩ = some (.string ⟨x.key.toArray⟩) ∧ w'.cell? ⟨gx, ox + j * 4 + 2, none⟩ = some (.bool x.del) ∧ w'.cell? ⟨gx, ox + j * 4 + 3, none⟩ = some (.string ⟨x.val.toArray⟩))) from fun w' hb => ⟨⟨by rw [hb.cell (p := ⟨gq, oq + k * 4, none⟩) hgq]; exact q0, by rw [hb.cell (p := ⟨gq, oq + k * 4 + 2, none⟩) hgq]; exact q2, by rw [hb.cell (p := ⟨gq, oq + k * 4 + 3, none⟩) hgq]; exact q3⟩, HFx.out w' (HBk.out.trans (hb.mono HBk.out.size))⟩)
              obtain ⟨qk, ql, qd, qv⟩ := q
              obtain ⟨xk, xl, xd, xv⟩ := x
              simp only at HF HNs HNm
              have hwk : IntKind.i64.wrap ((sn : Int) + 1) = (sn : Int) + 1 := IntWalk.i64_in _ (by omega)
              clear hq hgq q0 q1 q2 q3 hsn HFx
              by_cases hke : qk = xk
              · have e1 : ((⟨qk.toArray⟩ : ByteArray) == ⟨xk.toArray⟩) = true := by rw [bytes_beq]; simp [hke]
                have e2 : (qk == xk) = true := by simp [hke]
                have HS1 := Lib.hid (show sameN ⟨xk, xl, xd, xv⟩ (l.take (k + 1)) = sn + 1 by rw [HNs.out, if_pos hke])
                have HM1 := Lib.hid (show matchB ⟨xk, xl, xd, xv⟩ (l.take (k + 1)) = (decide (qd = xd) && decide (qv = xv)) by rw [HNm.out, decide_eq_true hke]; rfl)
                clear hke HNs HNm
                go_upto_region 18 with fail
                refine wp_region_settle (Below wr.heap.size wr) (by kernel_rfl) (by kernel_rfl) (by kernel_rfl) (below_drew (Below.refl _ _)) ?_
                repeat (first
                  | (refine settled_not ?_ ?_
                     · rfl
                     simp only [Act.put, List.setIfInBounds_toArray, List.set_cons_zero, List.set_cons_succ])
                  | (refine settled_val (v := ?_) ?_ (fun w' hS => ?_) ?_
                     rotate_left
                     · rfl
                     · obtain ⟨⟨k0, k1, k2⟩, k3, k4, k5⟩ := HF.out w' hS
                       go_simp
                       with_reducible rfl
                     simp only [Act.put, List.setIfInBounds_toArray, List.set_cons_zero, List.set_cons_succ]))
                refine settled_nil (fun w8 hS => ?_)
                have HF8 := Lib.hid (fun w' (hb : Below w8.heap.size w8 w') => HF.out w' (hS.trans (hb.mono hS.size)))
                have HE8 := Lib.hid (HBk.out.trans (hS.mono HBk.out.size))
                have HT8 := Lib.hid (HTk.out.trans (hS.mono HTk.out.size))
                clear hS e1 e2 HF
                go_upto_region 19 with fail
                by_cases hve : qv = xv
                · have e1 : ((⟨qv.toArray⟩ : ByteArray) == ⟨xv.toArray⟩) = true := by rw [bytes_beq]; simp [hve]
                  have e2 : (qv == xv) = true := by simp [hve]
                  have e3 : ((⟨qv.toArray⟩ : ByteArray) != ⟨xv.toArray⟩) = false := by rw [bne, e1]; rfl
                  cases qd with
                  | true =>
                    cases xd with
                    | true =>
                      have HM2 := Lib.hid (show matchB ⟨xk, xl, true, xv⟩ (l.take (k + 1)) = true by rw [HM1.out, hve]; simp)
                      clear hve
                      refine wp_region_settle (Below w8.heap.size w8) (by kernel_rfl) (by kernel_rfl) (by kernel_rfl) (below_drew (Below.refl _ _)) ?_
                      repeat (first
                        | (refine settled_not ?_ ?_
                           · rfl
                           simp only [Act.put, List.setIfInBounds_toArray, List.set_cons_zero, List.set_cons_succ])
                        | (refine settled_val (v := ?_) ?_ (fun w' hS => ?_) ?_
                           rotate_left
                           · rfl
                           · obtain ⟨⟨k0, k1, k2⟩, k3, k4, k5⟩ := HF8.out w' hS
                             go_simp
                             with_reducible rfl
                           simp only [Act.put, List.setIfInBounds_toArray, List.set_cons_zero, List.set_cons_succ]))
                      refine settled_nil (fun w9 hS => ?_)
                      have HE9 := Lib.hid (HE8.out.trans (hS.mono HE8.out.size))
                      have HT9 := Lib.hid (HT8.out.trans (hS.mono HT8.out.size))
                      clear hS
                      go_wp2_with fail
                      go_roundw
                      case rel => exact ⟨k + 1, by omega, by go_num, by rw [HS1.out]; simp, HM2.out, HE9.out⟩
                      case measure => simp [intOf]; omega
                    | false =>
                      have HR9 := Lib.hid (show rb = false by
                        have hf : matchB ⟨xk, xl, false, xv⟩ l = false := matchB_false (i := k + 1) (by rw [HM1.out]; simp)
                        rw [HX.out, HRe.out, HSt.out, hf]
                        rfl)
                      clear hve
                      refine wp_region_settle (Below w8.heap.size w8) (by kernel_rfl) (by kernel_rfl) (by kernel_rfl) (below_drew (Below.refl _ _)) ?_
                      repeat (first
                        | (refine settled_not ?_ ?_
                           · rfl
                           simp only [Act.put, List.setIfInBounds_toArray, List.set_cons_zero, List.set_cons_succ])
                        | (refine settled_val (v := ?_) ?_ (fun w' hS => ?_) ?_
                           rotate_left
                           · rfl
                           · obtain ⟨⟨k0, k1, k2⟩, k3, k4, k5⟩ := HF8.out w' hS
                             go_simp
                             with_reducible rfl
                           simp only [Act.put, List.setIfInBounds_toArray, List.set_cons_zero, List.set_cons_succ]))
                      refine settled_nil (fun w9 hS => ?_)
                      have HE9 := Lib.hid (HE8.out.trans (hS.mono HE8.out.size))
                      have HT9 := Lib.hid (HT8.out.trans (hS.mono HT8.out.size))
                      clear hS
                      go_wp2_with fail
                      go_ret
                      rw [HR9.out]
                      exact ⟨by try rfl, HT9.out⟩
                  | false =>
                    cases xd with
                    | true =>
                      have HR9 := Lib.hid (show rb = false by
                        have hf : matchB ⟨xk, xl, true, xv⟩ l = false := matchB_false (i := k + 1) (by rw [HM1.out]; simp)
                        rw [HX.out, HRe.out, HSt.out, hf]
                        rfl)
                      clear hve
                      refine wp_region_settle (Below w8.heap.size w8) (by kernel_rfl) (by kernel_rfl) (by kernel_rfl) (below_drew (Below.refl _ _)) ?_
                      repeat (first
                        | (refine settled_not ?_ ?_
                           · rfl
                           simp only [Act.put, List.setIfInBounds_toArray, List.set_cons_zero, List.set_cons_succ])
                        | (refine settled_val (v := ?_) ?_ (fun w' hS => ?_) ?_
                           rotate_left
                           · rfl
                           · obtain ⟨⟨k0, k1, k2⟩, k3, k4, k5⟩ := HF8.out w' hS
                             go_simp
                             with_reducible rfl
                           simp only [Act.put, List.setIfInBounds_toArray, List.set_cons_zero, List.set_cons_succ]))
                      refine settled_nil (fun w9 hS => ?_)
                      have HE9 := Lib.hid (HE8.out.trans (hS.mono HE8.out.size))
                      have HT9 := Lib.hid (HT8.out.trans (hS.mono HT8.out.size))
                      clear hS
                      go_wp2_with fail
                      go_ret
                      rw [HR9.out]
                      exact ⟨by try rfl, HT9.out⟩
                    | false =>
                      have HM2 := Lib.hid (show matchB ⟨xk, xl, false, xv⟩ (l.take (k + 1)) = true by rw [HM1.out, hve]; simp)
                      clear hve
                      refine wp_region_settle (Below w8.heap.size w8) (by kernel_rfl) (by kernel_rfl) (by kernel_rfl) (below_drew (Below.refl _ _)) ?_
                      repeat (first
                        | (refine settled_not ?_ ?_
                           · rfl
                           simp only [Act.put, List.setIfInBounds_toArray, List.set_cons_zero, List.set_cons_succ])
                        | (refine settled_val (v := ?_) ?_ (fun w' hS => ?_) ?_
                           rotate_left
                           · rfl
                           · obtain ⟨⟨k0, k1, k2⟩, k3, k4, k5⟩ := HF8.out w' hS
                             go_simp
                             with_reducible rfl
                           simp only [Act.put, List.setIfInBounds_toArray, List.set_cons_zero, List.set_cons_succ]))
                      refine settled_nil (fun w9 hS => ?_)
                      have HE9 := Lib.hid (HE8.out.trans (hS.mono HE8.out.size))
                      have HT9 := Lib.hid (HT8.out.trans (hS.mono HT8.out.size))
                      clear hS
                      go_wp2_with fail
                      go_roundw
                      case rel => exact ⟨k + 1, by omega, by go_num, by rw [HS1.out]; simp, HM2.out, HE9.out⟩
                      case measure => simp [intOf]; omega
                · have e1 : ((⟨qv.toArray⟩ : ByteArray) == ⟨xv.toArray⟩) = false := by rw [bytes_beq]; simp [hve]
                  have e2 : (qv == xv) = false := by simp [hve]
                  have e3 : ((⟨qv.toArray⟩ : ByteArray) != ⟨xv.toArray⟩) = true := by rw [bne, e1]; rfl
                  cases qd with
                  | true =>
                    cases xd with
                    | true =>
                      have HR9 := Lib.hid (show rb = false by
                        have hf : matchB ⟨xk, xl, true, xv⟩ l = false := matchB_false (i := k + 1) (by rw [HM1.out]; simp [hve])
                        rw [HX.out, HRe.out, HSt.out, hf]
                        rfl)
                      clear hve
                      refine wp_region_settle (Below w8.heap.size w8) (by kernel_rfl) (by kernel_rfl) (by kernel_rfl) (below_drew (Below.refl _ _)) ?_
                      repeat (first
                        | (refine settled_not ?_ ?_
                           · rfl
                           simp only [Act.put, List.setIfInBounds_toArray, List.set_cons_zero, List.set_cons_succ])
                        | (refine settled_val (v := ?_) ?_ (fun w' hS => ?_) ?_
                           rotate_left
                           · rfl
                           · obtain ⟨⟨k0, k1, k2⟩, k3, k4, k5⟩ := HF8.out w' hS
                             go_simp
                             with_reducible rfl
                           simp only [Act.put, List.setIfInBounds_toArray, List.set_cons_zero, List.set_cons_succ]))
                      refine settled_nil (fun w9 hS => ?_)
                      have HE9 := Lib.hid (HE8.out.trans (hS.mono HE8.out.size))
                      have HT9 := Lib.hid (HT8.out.trans (hS.mono HT8.out.size))
                      clear hS
                      go_wp2_with fail
                      go_ret
                      rw [HR9.out]
                      exact ⟨by try rfl, HT9.out⟩
                    | false =>
                      have HR9 := Lib.hid (show rb = false by
                        have hf : matchB ⟨xk, xl, false, xv⟩ l = false := matchB_false (i := k + 1) (by rw [HM1.out]; simp [hve])
                        rw [HX.out, HRe.out, HSt.out, hf]
                        rfl)
                      clear hve
                      refine wp_region_settle (Below w8.heap.size w8) (by kernel_rfl) (by kernel_rfl) (by kernel_rfl) (below_drew (Below.refl _ _)) ?_
                      repeat (first
                        | (refine settled_not ?_ ?_
                           · rfl
                           simp only [Act.put, List.setIfInBounds_toArray, List.set_cons_zero, List.set_cons_succ])
                        | (refine settled_val (v := ?_) ?_ (fun w' hS => ?_) ?_
                           rotate_left
                           · rfl
                           · obtain ⟨⟨k0, k1, k2⟩, k3, k4, k5⟩ := HF8.out w' hS
                             go_simp
                             with_reducible rfl
                           simp only [Act.put, List.setIfInBounds_toArray, List.set_cons_zero, List.set_cons_succ]))
                      refine settled_nil (fun w9 hS => ?_)
                      have HE9 := Lib.hid (HE8.out.trans (hS.mono HE8.out.size))
                      have HT9 := Lib.hid (HT8.out.trans (hS.mono HT8.out.size))
                      clear hS
                      go_wp2_with fail
                      go_ret
                      rw [HR9.out]
                      exact ⟨by try rfl, HT9.out⟩
                  | false =>
                    cases xd with
                    | true =>
                      have HR9 := Lib.hid (show rb = false by
                        have hf : matchB ⟨xk, xl, true, xv⟩ l = false := matchB_false (i := k + 1) (by rw [HM1.out]; simp [hve])
                        rw [HX.out, HRe.out, HSt.out, hf]
                        rfl)
                      clear hve
                      refine wp_region_settle (Below w8.heap.size w8) (by kernel_rfl) (by kernel_rfl) (by kernel_rfl) (below_drew (Below.refl _ _)) ?_
                      repeat (first
                        | (refine settled_not ?_ ?_
                           · rfl
                           simp only [Act.put, List.setIfInBounds_toArray, List.set_cons_zero, List.set_cons_succ])
                        | (refine settled_val (v := ?_) ?_ (fun w' hS => ?_) ?_
                           rotate_left
                           · rfl
                           · obtain ⟨⟨k0, k1, k2⟩, k3, k4, k5⟩ := HF8.out w' hS
                             go_simp
                             with_reducible rfl
                           simp only [Act.put, List.setIfInBounds_toArray, List.set_cons_zero, List.set_cons_succ]))
                      refine settled_nil (fun w9 hS => ?_)
                      have HE9 := Lib.hid (HE8.out.trans (hS.mono HE8.out.size))
                      have HT9 := Lib.hid (HT8.out.trans (hS.mono HT8.out.size))
                      clear hS
                      go_wp2_with fail
                      go_ret
                      rw [HR9.out]
                      exact ⟨by try rfl, HT9.out⟩
                    | false =>
                      have HR9 := Lib.hid (show rb = false by
                        have hf : matchB ⟨xk, xl, false, xv⟩ l = false := matchB_false (i := k + 1) (by rw [HM1.out]; simp [hve])
                        rw [HX.out, HRe.out, HSt.out, hf]
                        rfl)
                      clear hve
                      refine wp_region_settle (Below w8.heap.size w8) (by kernel_rfl) (by kernel_rfl) (by kernel_rfl) (below_drew (Below.refl _ _)) ?_
                      repeat (first
                        | (refine settled_not ?_ ?_
                           · rfl
                           simp only [Act.put, List.setIfInBounds_toArray, List.set_cons_zero, List.set_cons_succ])
                        | (refine settled_val (v := ?_) ?_ (fun w' hS => ?_) ?_
                           rotate_left
                           · rfl
                           · obtain ⟨⟨k0, k1, k2⟩, k3, k4, k5⟩ := HF8.out w' hS
                             go_simp
                             with_reducible rfl
                           simp only [Act.put, List.setIfInBounds_toArray, List.set_cons_zero, List.set_cons_succ]))
                      refine settled_nil (fun w9 hS => ?_)
                      have HE9 := Lib.hid (HE8.out.trans (hS.mono HE8.out.size))
                      have HT9 := Lib.hid (HT8.out.trans (hS.mono HT8.out.size))
                      clear hS
                      go_wp2_with fail
                      go_ret
                      rw [HR9.out]
                      exact ⟨by try rfl, HT9.out⟩
              · have e1 : ((⟨qk.toArray⟩ : ByteArray) == ⟨xk.toArray⟩) = false := by rw [bytes_beq]; simp [hke]
                have e2 : (qk == xk) = false := by simp [hke]
                have HS1 := Lib.hid (show sameN ⟨xk, xl, xd, xv⟩ (l.take (k + 1)) = sn by rw [HNs.out, if_neg hke]; rfl)
                have HM1 := Lib.hid (show matchB ⟨xk, xl, xd, xv⟩ (l.take (k + 1)) = true by rw [HNm.out, decide_eq_false hke]; rfl)
                clear hke HNs HNm
                go_upto_region 18 with fail
                refine wp_region_settle (Below wr.heap.size wr) (by kernel_rfl) (by kernel_rfl) (by kernel_rfl) (below_drew (Below.refl _ _)) ?_
                repeat (first
                  | (refine settled_not ?_ ?_
                     · rfl
                     simp only [Act.put, List.setIfInBounds_toArray, List.set_cons_zero, List.set_cons_succ])
                  | (refine settled_val (v := ?_) ?_ (fun w' hS => ?_) ?_
                     rotate_left
                     · rfl
                     · obtain ⟨⟨k0, k1, k2⟩, k3, k4, k5⟩ := HF.out w' hS
                       go_simp
                       with_reducible rfl
                     simp only [Act.put, List.setIfInBounds_toArray, List.set_cons_zero, List.set_cons_succ]))
                refine settled_nil (fun w8 hS => ?_)
                have HE8 := Lib.hid (HBk.out.trans (hS.mono HBk.out.size))
                clear hS
                go_wp2_with fail
                go_roundw
                case rel => exact ⟨k + 1, by omega, by go_num, by rw [HS1.out], HM1.out, HE8.out⟩
                case measure => simp [intOf]; omega
            · have hkl : ¬ (k : Int) < (on : Int) := by omega
              have hmx := HMa.out
              rw [List.take_of_length_le (by have := HOl.out; omega)] at hmx hsn
              by_cases h1 : sn = 1
              · have e1 : ((sn : Int) != 1) = false := by simp [h1]
                have HRn := Lib.hid (show rended1 W l = rended1 (W.drop (j + 1)) l by rw [HRe.out, HSt.out, hmx, hsn, decide_eq_true h1]; rfl)
                have HEk := Lib.hid (HBj.out.trans (HBk.out.mono HBj.out.size))
                clear h1 hmx hsn
                go_wp2_with fail
                go_roundw
                case rel => exact ⟨j + 1, by omega, by go_num, HRn.out, HEk.out⟩
                case measure => simp [intOf]; omega
              · have e1 : ((sn : Int) != 1) = true := by simp; omega
                have HR9 := Lib.hid (show rb = false by rw [HX.out, HRe.out, HSt.out, hmx, hsn, decide_eq_false h1]; rfl)
                clear h1 hmx hsn
                go_wp2_with fail
                go_ret
                rw [HR9.out]
                exact ⟨by try rfl, HTk.out⟩
        · have hjl : ¬ (j : Int) < (nw : Int) := by omega
          have HR9 := Lib.hid (show rb = true by
            rw [HX.out, HRe.out, List.drop_eq_nil_of_le (by have := EW.out; omega)]
            rfl)
          go_wp2_with fail
          go_ret
          rw [HR9.out]
          exact ⟨by try rfl, HTop.out⟩
end Go.Proofs.YtffianjbljgnaaaGreat

/-! ### RfSer -/
namespace Go.Proofs.YtffianjbljgnaaaGreat
set_option linter.unusedVariables false
set_option linter.unusedSimpArgs false
open Go.RowKit Go.Maps

theorem okM_ask (tss : List Nat) (m : Md) (h : okM tss m = true) : m.kind = 5 := by
  unfold okM ackM at h
  by_cases hk : m.kind = 5
  · exact hk
  · rw [decide_eq_false hk] at h
    simp at h
theorem commL_ask (tss : List Nat) (z : List MZ) (ts : Nat) (h : ts ∈ commL tss z) : ∃ q ∈ z, askC ts q.1 = true := by
  have : ∀ (z : List MZ) (L : List Nat), ts ∈ z.foldl (fun L q => if okM tss q.1 then insA q.1.ts L else L) L → ts ∈ L ∨ ∃ q ∈ z, askC ts q.1 = true := by
    intro z
    induction z with
    | nil => intro L h; exact .inl h
    | cons q t ih =>
      intro L h
      rw [List.foldl_cons] at h
      rcases ih _ h with h1 | ⟨p, hp, hh⟩
      · by_cases hok : okM tss q.1 = true
        · rw [if_pos hok] at h1
          rcases (insA_mem _ _ _).1 h1 with h2 | h2
          · refine .inr ⟨q, by simp, ?_⟩
            unfold askC
            rw [decide_eq_true h2.symm, decide_eq_true (okM_ask tss q.1 hok)]
            rfl
          · exact .inl h2
        · rw [if_neg hok] at h1
          exact .inl h1
      · exact .inr ⟨p, List.mem_cons_of_mem _ hp, hh⟩
  rcases this z [] h with h1 | h1
  · cases h1
  · exact h1
theorem serialL_at (zm : List MZ) (z : List EZ) (M : List KV) (L : List Nat) (i ts : Nat) (h : L[i]? = some ts) : serialL zm z M (L.drop i) = match runC zm M [] (callsL ts zm) with
    | (some i, _, _) => (i : Int)
    | (none, M2, W2) => if endedB W2 (entsOf z ts) then serialL zm z M2 (L.drop (i + 1)) else firstAt (askC ts) 0 zm := by
  obtain ⟨h1, rfl⟩ := List.getElem?_eq_some_iff.1 h
  rw [List.drop_eq_getElem_cons h1]
  rfl
theorem runC_at (zm : List MZ) (M : List KV) (W : List Rec) (cs : List Nat) (j ix : Nat) (q : MZ) (h : cs[j]? = some ix) (hq : zm[ix]? = some q) : runC zm M W (cs.drop j) = if rightB M q then runC zm (rightM M q) (rightW W q) (cs.drop (j + 1)) else (some ix, M, W) := by
  obtain ⟨h1, rfl⟩ := List.getElem?_eq_some_iff.1 h
  rw [List.drop_eq_getElem_cons h1]
  show (match zm[cs[j]]? with | none => (none, M, W) | some q => if rightB M q then runC zm (rightM M q) (rightW W q) (cs.drop (j + 1)) else (some cs[j], M, W)) = _
  rw [hq]
theorem firstAt_anyR (f : Md → Bool) (z : List MZ) (i : Nat) : decide (0 ≤ firstAt f i z) = z.any fun q => f q.1 := by
  induction z generalizing i with
  | nil => rfl
  | cons q t ih =>
    unfold firstAt
    rw [List.any_cons]
    cases f q.1 with
    | true =>
      rw [if_pos rfl]
      exact decide_eq_true (by omega)
    | false =>
      rw [if_neg (by decide), ih]
      rfl
/-- A map as a row of pairs, somewhere below the world's end. -/
structure PairsAt (w : World) (v : Value) (M : List KV) : Prop where
  rows : ∃ (a : Option Addr) (c : Nat), v = .slice a M.length c ∧ RowsAt w a M.length c 2 (pairsCells M)
  lt : ∀ g, v.ownBlock = some g → g < w.heap.size
theorem PairsAt.nil (w : World) : PairsAt w (.slice none 0 0) [] := ⟨⟨none, 0, rfl, RowsAt.nil _ _⟩, fun g e => by cases e⟩
theorem PairsAt.on {w w' : World} {v : Value} {M : List KV} (h : PairsAt w v M) (hb : Below w.heap.size w w') : PairsAt w' v M := by
  obtain ⟨a, c, e, hr⟩ := h.rows
  exact ⟨⟨a, c, e, hr.on hb⟩, fun g e => Nat.lt_of_lt_of_le (h.lt g e) hb.size⟩
theorem PairsAt.mod {w w' : World} {v u : Value} {M : List KV} (h : PairsAt w v M) (hm : Mod u.ownBlock.toList w w') (hoff : ∀ g, u.ownBlock = some g → v.ownBlock ≠ some g) : PairsAt w' v M := by
  obtain ⟨a, c, rfl, hr⟩ := h.rows
  refine ⟨⟨a, c, rfl, hr.mod hm (fun g o e hg => ?_)⟩, fun g e => Nat.lt_of_lt_of_le (h.lt g e) hm.size⟩
  subst e
  exact hoff g (by simpa using hg) rfl
/-- What was written, in a row of its own, apart from the map's. -/
structure WAt (B : Nat) (w : World) (v : Value) (vm : Value) (W : List Rec) : Prop where
  own : w.ownsRow B 68 4 v W.length (recsCells W)
  off : ∀ g, v.ownBlock = some g → vm.ownBlock ≠ some g
set_option maxRecDepth 100000 in
set_option maxHeartbeats 16000000 in
theorem serialR_any (w : World) (a : Option Addr) (n c : Nat) (z : List EZ) (h : EntsAt w a n c z) (hn : n ≤ 900) (hops : ∀ q ∈ z, q.2.ops.length ≤ 1000)
    (am : Option Addr) (nm cm : Nat) (zm : List MZ) (hm : MadeAt w am nm cm zm) (hnm : nm ≤ 100) (hok : MadeOk zm) :
    Calls Tryz.prog 10 #[.slice a n c, .slice am nm cm] w fun e w' => e = .returned (.int .i64 (serialL zm z [] (commL (z.map (·.1.ts)) zm))) ∧ Below w.heap.size w w' := by
  have HH := Lib.hid h
  have HMM := Lib.hid hm
  have HO := Lib.hid hops
  have HK := Lib.hid hok
  have HCm := Lib.hid (commR_any w am nm cm zm hm (by omega) a n c z h (by omega))
  have hLn : (commL (z.map (·.1.ts)) zm).length ≤ nm := by rw [← hm.len]; exact commL_le _ _
  have hLt : ∀ x ∈ commL (z.map (·.1.ts)) zm, x < 18446744073709551616 := fun x hx => commL_lt _ _ (fun q hq => (hm.each q hq).ts) x hx
  have HAsk := Lib.hid (fun ts (h : ts ∈ commL (z.map (·.1.ts)) zm) => commL_ask _ _ ts h)
  obtain ⟨L, hL⟩ : ∃ L, commL (z.map (·.1.ts)) zm = L := ⟨_, rfl⟩
  rw [hL] at HCm hLn hLt HAsk ⊢
  have HLt := Lib.hid hLt
  obtain ⟨sv, hsv⟩ : ∃ v, serialL zm z [] L = v := ⟨_, rfl⟩
  have HSv := Lib.hid hsv
  rw [hsv]
  clear h hm hops hok hL hLt hsv
  go_enter Tryz.func10, Tryz.ntmps10
  go_wp2_with fail
  refine HCm.out.mono ?_
  rintro e w1 ⟨aL, cL, rfl, hrowL, holdL, hb1⟩
  have HRowL := Lib.hid hrowL
  have HB1 := Lib.hid hb1
  have HM0 := Lib.hid (PairsAt.nil w1)
  obtain ⟨nL, hnL⟩ : ∃ x, L.length = x := ⟨_, rfl⟩
  rw [hnL] at HRowL hLn ⊢
  have HNL := Lib.hid hnL
  clear hrowL holdL hb1 HCm hnL
  go_wp2_with fail
  go_loopw [6, 7, 8, 9, 10, 11, 12] (fun s6 s7 _ _ _ _ _ wr => ∃ (i : Nat) (M : List KV), i ≤ nL ∧ s7 = .int .i64 i ∧ PairsAt wr s6 M ∧ Asc M ∧ M.length ≤ i * 100 ∧ sv = serialL zm z M (L.drop i) ∧ Below w1.heap.size w1 wr) (fun _ s7 _ _ _ _ _ _ => nL - (intOf s7).toNat)
  case atStart => exact ⟨0, [], by omega, rfl, HM0.out, List.Pairwise.nil, by simp, HSv.out.symm, Below.refl _ _⟩
  case round =>
    clear HM0 HSv
    obtain ⟨i, M, hi, rfl, hMA, hasc, hMl, hser, hb⟩ := hrel
    have HMA := Lib.hid hMA
    have HAsc := Lib.hid hasc
    have HB := Lib.hid hb
    have HTop := Lib.hid (HB1.out.trans (hb.mono HB1.out.size))
    have hMl2 : M.length ≤ 10000 := Nat.le_trans hMl (Nat.le_trans (Nat.mul_le_mul_right 100 (show i ≤ 100 by omega)) (by omega))
    have HMl := Lib.hid hMl
    by_cases hlt : i < nL
    · have hil : (i : Int) < (nL : Int) := by omega
      obtain ⟨ts, htsL⟩ : ∃ ts, L[i]? = some ts := ⟨_, List.getElem?_eq_getElem (by have := HNL.out; omega)⟩
      have hts : ts < 18446744073709551616 := HLt.out ts (List.mem_of_getElem? htsL)
      have HAs := Lib.hid (HAsk.out ts (List.mem_of_getElem? htsL))
      have HSer := Lib.hid (hser.trans (serialL_at zm z M L i ts htsL))
      obtain ⟨gL, oL, e9, hgL, hcL⟩ := (HRowL.out.on HB.out).at_ (by omega)
      have d0 := hcL i _ (u64s_nth L i ts htsL)
      subst e9
      have HD := Lib.hid (show ∀ w', Below wr.heap.size wr w' → w'.cell? ⟨gL, oL + i, none⟩ = some (.int .u64 (ts : Nat)) from fun w' hb => by rw [hb.cell (p := ⟨gL, oL + i, none⟩) hgL]; exact d0)
      have HCl := Lib.hid (callsR_any wr am nm cm zm (HMM.out.on HTop.out) (by omega) ts)
      have HCn := Lib.hid (show (callsL ts zm).length ≤ nm from by
        have := callsP_length ts zm zm.length
        rw [callsP_all ts zm zm.length rfl] at this
        have h3 := HMM.out.len
        omega)
      have HCi := Lib.hid (show ∀ x ∈ callsL ts zm, x < nm from fun x hx => by
        rw [← callsP_all ts zm zm.length rfl] at hx
        have := callsP_mem ts zm zm.length x hx
        have h3 := HMM.out.len
        omega)
      obtain ⟨cs, hcs⟩ : ∃ x, callsL ts zm = x := ⟨_, rfl⟩
      rw [hcs] at HCl HCn HCi HSer
      clear hMA hasc hb hser htsL hcL hcs hMl
      go_wp2_with fail
      clear d0
      refine HCl.out.mono ?_
      rintro e w6 ⟨aC, cC, rfl, hrowC, holdC, hb6⟩
      have HRowC := Lib.hid hrowC
      have HMA6 := Lib.hid (HMA.out.on hb6)
      have HD6 := Lib.hid (fun w' (hb : Below w6.heap.size w6 w') => HD.out w' (hb6.trans (hb.mono hb6.size)))
      have HB6 := Lib.hid (HB.out.trans (hb6.mono HB.out.size))
      have HTop6 := Lib.hid (HTop.out.trans (hb6.mono HTop.out.size))
      have hcn := HCn.out
      obtain ⟨nC, hnC⟩ : ∃ x, cs.length = x := ⟨_, rfl⟩
      rw [hnC] at HRowC hcn ⊢
      have HNC := Lib.hid hnC
      have HW0 := Lib.hid (show WAt w6.heap.size w6 (.slice none 0 0) u6 [] from ⟨⟨rfl, .inl ⟨rfl, rfl⟩⟩, fun g e => by cases e⟩)
      clear hrowC holdC hb6 HCl HD HB HTop hnC HCn
      go_wp2_with fail
      generalize wr = wo at *
      go_loopw [4, 6, 8, 10, 11] (fun _ s6 s8 s10 _ wr => ∃ (j : Nat) (M2 : List KV) (W2 : List Rec), j ≤ nC ∧ s10 = .int .i64 j ∧ PairsAt wr s6 M2 ∧ WAt w6.heap.size wr s8 s6 W2 ∧ Asc M2 ∧ ApartW W2 ∧ M2.length ≤ M.length + j ∧ W2.length ≤ j ∧ runC zm M [] cs = runC zm M2 W2 (cs.drop j) ∧ Below w6.heap.size w6 wr) (fun _ _ _ s10 _ _ => nC - (intOf s10).toNat)
      case atStart => exact ⟨0, M, [], by omega, rfl, HMA6.out, HW0.out, HAsc.out, List.nodup_nil, by omega, by simp, rfl, Below.refl _ _⟩
      case round =>
        clear HMA6 HW0
        obtain ⟨j, M2, W2, hj, rfl, hMA2, hWA2, hasc2, hap2, hM2, hW2, hrun, hbj⟩ := hrel
        have HMA2 := Lib.hid hMA2
        have HWA2 := Lib.hid hWA2
        have HAsc2 := Lib.hid hasc2
        have HAp2 := Lib.hid hap2
        have HBj := Lib.hid hbj
        have HTj := Lib.hid (HTop6.out.trans (hbj.mono HTop6.out.size))
        by_cases hltj : j < nC
        · have hjl : (j : Int) < (nC : Int) := by omega
          obtain ⟨ix, hix⟩ : ∃ ix, cs[j]? = some ix := ⟨_, List.getElem?_eq_getElem (by have := HNC.out; omega)⟩
          obtain ⟨gC, oC, e9, hgC, hcC⟩ := (HRowC.out.on hbj).at_ (by omega)
          have d1 := hcC j _ (i64s_nth cs j ix hix)
          subst e9
          have HDc := Lib.hid (show ∀ w', Below wr.heap.size wr w' → w'.cell? ⟨gC, oC + j, none⟩ = some (.int .i64 (ix : Nat)) from fun w' hb => by rw [hb.cell (p := ⟨gC, oC + j, none⟩) hgC]; exact d1)
          have hixn : ix < nm := HCi.out ix (List.mem_of_getElem? hix)
          have hixl : (ix : Int) < (nm : Int) := by omega
          obtain ⟨q, gm, om, hq, hqz, ea, hgm, hcm⟩ := (HMM.out.on HTj.out).row hixn
          have HQ := Lib.hid (HMM.out.each q hqz)
          have hpn := HK.out.pn q hqz
          have HRun := Lib.hid (hrun.trans (runC_at zm M2 W2 cs j ix q hix hq))
          have HC := Lib.hid hcm
          have HBox := Lib.hid (md_box wr q.1)
          have hbn := (Below.refl wr.heap.size wr).alloc (Nat.le_refl _) (.cells (mdCells q.1).toArray 45)
          have HBn := Lib.hid hbn
          have HXl0 := Lib.hid (show wr.heap.size < (wr.alloc (.cells (mdCells q.1).toArray 45)).heap.size by rw [World.size_alloc]; omega)
          subst ea
          clear hMA2 hWA2 hasc2 hap2 hrun hbj hix hcC hq hqz hcm hbn
          go_upto_region 12 with (first | ((with_reducible refine wpList_loadM rfl _ rfl _ _ _ HC.out ?_ ?_); rfl) | ((with_reducible refine wpList_storeM rfl _ _ rfl _ q.1 ?_ ?_ ?_); rfl; rfl))
          try go_frame
          clear d1
          obtain ⟨xb, hxb⟩ : ∃ x, wr.heap.size = x := ⟨_, rfl⟩
          rw [hxb] at HBox HXl0
          simp only [hxb]
          have HXe := Lib.hid hxb
          generalize wr.alloc (.cells (mdCells q.1).toArray 45) = w7 at *
          have HX := Lib.hid (show MdCellsAt w7 xb 0 q.1 from HBox.out)
          have HXl := Lib.hid (show xb < w7.heap.size from HXl0.out)
          have HMA7 := Lib.hid (HMA2.out.on HBn.out)
          have HWA7 := Lib.hid (show WAt w6.heap.size w7 u8 u6 W2 from ⟨ownsRow_mod HWA2.out.own (Mod.of_below HBn.out (S := [])) (by simp), HWA2.out.off⟩)
          have HB7 := Lib.hid (HBj.out.trans (HBn.out.mono HBj.out.size))
          obtain ⟨pm, pc, hpm, hrowM⟩ := HMA7.out.rows
          have hpl := HMA7.out.lt
          have HQ7 := Lib.hid (HQ.out.on (HTj.out.trans (HBn.out.mono HTj.out.size)))
          have HRt := Lib.hid (rightR_any w7 pm M2.length pc M2 hrowM rfl (by omega) HAsc2.out q HQ7.out hpn)
          subst hpm
          have HRowM := Lib.hid hrowM
          have HPl := Lib.hid hpl
          obtain ⟨nM, hnM⟩ : ∃ x, M2.length = x := ⟨_, rfl⟩
          rw [hnM] at HRt HRowM hM2 HWA7 HPl ⊢
          have HNM := Lib.hid hnM
          clear HBox HC hxb HXl0 HMA2 HWA2 hrowM hpl hnM HMA7
          go_wp2_with ((with_reducible refine wpList_loadM rfl _ rfl _ _ _ HX.out ?_ ?_); rfl)
          refine HRt.out.mono ?_
          rintro e w8 ⟨rfl, hb8⟩
          have HX8 := Lib.hid (HX.out.on HXl.out hb8)
          have HXl8 := Lib.hid (Nat.lt_of_lt_of_le HXl.out hb8.size)
          have HRow8 := Lib.hid (HRowM.out.on hb8)
          have HPl8 := Lib.hid (fun g e => Nat.lt_of_lt_of_le (HPl.out g e) hb8.size)
          have HWA8 := Lib.hid (show WAt w6.heap.size w8 u8 (.slice pm nM pc) W2 from ⟨ownsRow_mod HWA7.out.own (Mod.of_below hb8 (S := [])) (by simp), HWA7.out.off⟩)
          have HB8 := Lib.hid (HB7.out.trans (hb8.mono HB7.out.size))
          have HT8 := Lib.hid (HTop6.out.trans (HB8.out.mono HTop6.out.size))
          have HDc8 := Lib.hid (HDc.out w8 (HBn.out.trans (hb8.mono HBn.out.size)))
          clear hb8 HRt HX HXl HRowM HPl HWA7 HB7 HDc
          cases hrB : rightB M2 q with
          | false =>
            have HR2 := Lib.hid (show sv = (ix : Int) by rw [HSer.out, HRun.out, hrB]; rfl)
            have d1 := HDc8.out
            clear hrB HDc8
            go_wp2_with fail
            go_ret
            rw [HR2.out]
            exact ⟨by try rfl, HT8.out⟩
          | true =>
            have HR2 := Lib.hid (show runC zm M [] cs = runC zm (rightM M2 q) (rightW W2 q) (cs.drop (j + 1)) by rw [HRun.out, hrB]; rfl)
            have HAscR := Lib.hid (rightM_asc HAsc2.out q)
            have HApR := Lib.hid (HAp2.out.right q)
            have HL1 := Lib.hid (show (rightM M2 q).length ≤ M.length + (j + 1) by have := rightM_length HAsc2.out q; have := HNM.out; omega)
            have HL2 := Lib.hid (show (rightW W2 q).length ≤ j + 1 by have := rightW_length W2 q; omega)
            obtain ⟨qm, qP⟩ := q
            obtain ⟨mts, mn, kind, cts, key, hi2, val, dn, ots, on, err, found, oval, pa, pn, pcc, frm, til⟩ := qm
            obtain ⟨_, _, d2, _, d4, _, d6, _, _, _, _, _, _, _, _, _⟩ := HX8.out
            simp only at d2 d4 d6
            clear hrB HDc8 HRun
            by_cases h3 : kind = 3
            · subst h3
              have HeM := Lib.hid (show rightM M2 (⟨mts, mn, 3, cts, key, hi2, val, dn, ots, on, err, found, oval, pa, pn, pcc, frm, til⟩, qP) = rput M2 key val false from by
                rw [show rput M2 key val false = app M2 ⟨key, 0, false, val⟩ from rput_app HAsc2.out ⟨key, 0, false, val⟩]; rfl)
              have HeW := Lib.hid (show rightW W2 (⟨mts, mn, 3, cts, key, hi2, val, dn, ots, on, err, found, oval, pa, pn, pcc, frm, til⟩, qP) = setR W2 ⟨key, 0, false, val⟩ from rfl)
              have HPut := Lib.hid (putR_any w8 pm nM pc M2 HRow8.out HNM.out.symm (by omega) key val false)
              rw [← HeM.out] at HPut
              obtain ⟨MR, hMR⟩ : ∃ x, rightM M2 (⟨mts, mn, 3, cts, key, hi2, val, dn, ots, on, err, found, oval, pa, pn, pcc, frm, til⟩, qP) = x := ⟨_, rfl⟩
              obtain ⟨WR, hWR⟩ : ∃ x, rightW W2 (⟨mts, mn, 3, cts, key, hi2, val, dn, ots, on, err, found, oval, pa, pn, pcc, frm, til⟩, qP) = x := ⟨_, rfl⟩
              rw [hMR] at HPut HR2 HAscR HL1
              rw [hWR] at HR2 HApR HL2 HeW
              clear hMR hWR HeM
              go_upto_region 16 with fail
              clear d2
              go_wp2_with fail
              refine HPut.out.mono ?_
              rintro e w9 ⟨pm2, pc2, rfl, hrow9, hpl9, hb9⟩
              have HMA9 := Lib.hid (show PairsAt w9 (.slice pm2 MR.length pc2) MR from ⟨⟨pm2, pc2, rfl, hrow9⟩, fun g e => (hpl9 g e).2⟩)
              have HOff := Lib.hid (show ∀ g, u8.ownBlock = some g → (Value.slice pm2 MR.length pc2).ownBlock ≠ some g from fun g hg e => by
                have h1 := (HWA8.out.own.lt g hg).2
                have h2 := (hpl9 g e).1
                omega)
              have HX9 := Lib.hid (HX8.out.on HXl8.out hb9)
              have HOw9 := Lib.hid (ownsRow_mod HWA8.out.own (Mod.of_below hb9 (S := [])) (by simp))
              have HB9 := Lib.hid (HB8.out.trans (hb9.mono HB8.out.size))
              have HWr := Lib.hid (show Calls Tryz.prog 26 #[u8, .agg #[.string ⟨key.toArray⟩, .int .u64 0, .bool false, .string ⟨val.toArray⟩]] w9 (WroteEnd w6.heap.size u8 (setR W2 ⟨key, 0, false, val⟩) w9) from wroteR_any w9 w6.heap.size u8 W2 HOw9.out HB9.out.size (by omega) key 0 false val)
              rw [← HeW.out] at HWr
              obtain ⟨_, _, d2, _, d4, _, d6, _, _, _, _, _, _, _, _, _⟩ := HX9.out
              simp only at d2 d4 d6
              clear d2 hrow9 hpl9 hb9 HeW HPut
              obtain ⟨nR, hnR⟩ : ∃ x, MR.length = x := ⟨_, rfl⟩
              have HNR := Lib.hid hnR
              rw [hnR] at HMA9 HOff ⊢
              clear hnR
              go_wp2_with fail
              refine HWr.out.mono ?_
              rintro e w10 ⟨v10, rfl, hown10, hmod10, hblk10⟩
              have HEnd := Lib.hid (show PairsAt w10 (.slice pm2 nR pc2) MR ∧ WAt w6.heap.size w10 v10 (.slice pm2 nR pc2) WR ∧ Below w6.heap.size w6 w10 from ⟨HMA9.out.mod hmod10 HOff.out, ⟨hown10, fun g hg e => by
                rcases hblk10 g hg with h | h
                · exact HOff.out g h e
                · have := HMA9.out.lt g e; omega⟩, HB9.out.trans (hmod10.below (fun x hx => (HOw9.out.lt x (by simpa using hx)).1) HB9.out.size)⟩)
              clear hown10 hmod10 hblk10 d4 d6
              go_wp2_with fail
              go_roundw
              case rel => exact ⟨j + 1, MR, WR, by omega, by go_num, HEnd.out.1, HEnd.out.2.1, HAscR.out, HApR.out, HL1.out, HL2.out, HR2.out, HEnd.out.2.2⟩
              case measure => simp [intOf]; omega
            · have e3 : (kind == 3) = false := by simp [h3]
              by_cases h4 : kind = 4
              · subst h4
                have HeM := Lib.hid (show rightM M2 (⟨mts, mn, 4, cts, key, hi2, val, dn, ots, on, err, found, oval, pa, pn, pcc, frm, til⟩, qP) = rput M2 key [] true from by
                  rw [show rput M2 key [] true = app M2 ⟨key, 0, true, []⟩ from rput_app HAsc2.out ⟨key, 0, true, []⟩]; rfl)
                have HeW := Lib.hid (show rightW W2 (⟨mts, mn, 4, cts, key, hi2, val, dn, ots, on, err, found, oval, pa, pn, pcc, frm, til⟩, qP) = setR W2 ⟨key, 0, true, []⟩ from rfl)
                have HPut := Lib.hid (show Calls Tryz.prog 25 #[.slice pm nM pc, .string ⟨key.toArray⟩, .string ⟨#[]⟩, .bool true] w8 (PutREnd (rput M2 key [] true) w8) from putR_any w8 pm nM pc M2 HRow8.out HNM.out.symm (by omega) key [] true)
                rw [← HeM.out] at HPut
                clear h3 e3
                obtain ⟨MR, hMR⟩ : ∃ x, rightM M2 (⟨mts, mn, 4, cts, key, hi2, val, dn, ots, on, err, found, oval, pa, pn, pcc, frm, til⟩, qP) = x := ⟨_, rfl⟩
                obtain ⟨WR, hWR⟩ : ∃ x, rightW W2 (⟨mts, mn, 4, cts, key, hi2, val, dn, ots, on, err, found, oval, pa, pn, pcc, frm, til⟩, qP) = x := ⟨_, rfl⟩
                rw [hMR] at HPut HR2 HAscR HL1
                rw [hWR] at HR2 HApR HL2 HeW
                clear hMR hWR HeM
                go_upto_region 19 with fail
                clear d2
                go_wp2_with fail
                refine HPut.out.mono ?_
                rintro e w9 ⟨pm2, pc2, rfl, hrow9, hpl9, hb9⟩
                have HMA9 := Lib.hid (show PairsAt w9 (.slice pm2 MR.length pc2) MR from ⟨⟨pm2, pc2, rfl, hrow9⟩, fun g e => (hpl9 g e).2⟩)
                have HOff := Lib.hid (show ∀ g, u8.ownBlock = some g → (Value.slice pm2 MR.length pc2).ownBlock ≠ some g from fun g hg e => by
                  have h1 := (HWA8.out.own.lt g hg).2
                  have h2 := (hpl9 g e).1
                  omega)
                have HX9 := Lib.hid (HX8.out.on HXl8.out hb9)
                have HOw9 := Lib.hid (ownsRow_mod HWA8.out.own (Mod.of_below hb9 (S := [])) (by simp))
                have HB9 := Lib.hid (HB8.out.trans (hb9.mono HB8.out.size))
                have HWr := Lib.hid (show Calls Tryz.prog 26 #[u8, .agg #[.string ⟨key.toArray⟩, .int .u64 0, .bool true, .string ⟨#[]⟩]] w9 (WroteEnd w6.heap.size u8 (setR W2 ⟨key, 0, true, []⟩) w9) from wroteR_any w9 w6.heap.size u8 W2 HOw9.out HB9.out.size (by omega) key 0 true [])
                rw [← HeW.out] at HWr
                obtain ⟨_, _, d2, _, d4, _, d6, _, _, _, _, _, _, _, _, _⟩ := HX9.out
                simp only at d2 d4 d6
                clear d2 hrow9 hpl9 hb9 HeW HPut
                obtain ⟨nR, hnR⟩ : ∃ x, MR.length = x := ⟨_, rfl⟩
                have HNR := Lib.hid hnR
                rw [hnR] at HMA9 HOff ⊢
                clear hnR
                go_wp2_with fail
                refine HWr.out.mono ?_
                rintro e w10 ⟨v10, rfl, hown10, hmod10, hblk10⟩
                have HEnd := Lib.hid (show PairsAt w10 (.slice pm2 nR pc2) MR ∧ WAt w6.heap.size w10 v10 (.slice pm2 nR pc2) WR ∧ Below w6.heap.size w6 w10 from ⟨HMA9.out.mod hmod10 HOff.out, ⟨hown10, fun g hg e => by
                  rcases hblk10 g hg with h | h
                  · exact HOff.out g h e
                  · have := HMA9.out.lt g e; omega⟩, HB9.out.trans (hmod10.below (fun x hx => (HOw9.out.lt x (by simpa using hx)).1) HB9.out.size)⟩)
                clear hown10 hmod10 hblk10 d4 d6
                go_wp2_with fail
                go_roundw
                case rel => exact ⟨j + 1, MR, WR, by omega, by go_num, HEnd.out.1, HEnd.out.2.1, HAscR.out, HApR.out, HL1.out, HL2.out, HR2.out, HEnd.out.2.2⟩
                case measure => simp [intOf]; omega
              · have e4 : (kind == 4) = false := by simp [h4]
                have HeM := Lib.hid (show rightM M2 (⟨mts, mn, kind, cts, key, hi2, val, dn, ots, on, err, found, oval, pa, pn, pcc, frm, til⟩, qP) = M2 from by unfold rightM; rw [if_neg h3, if_neg h4])
                have HeW := Lib.hid (show rightW W2 (⟨mts, mn, kind, cts, key, hi2, val, dn, ots, on, err, found, oval, pa, pn, pcc, frm, til⟩, qP) = W2 from by unfold rightW; rw [if_neg h3, if_neg h4])
                rw [HeM.out] at HR2 HAscR HL1
                rw [HeW.out] at HR2 HApR HL2
                have HMA8 := Lib.hid (show PairsAt w8 (.slice pm nM pc) M2 from ⟨⟨pm, pc, by rw [HNM.out], by rw [HNM.out]; exact HRow8.out⟩, HPl8.out⟩)
                clear h3 h4 HeM HeW
                go_wp2_with fail
                go_roundw
                case rel => exact ⟨j + 1, M2, W2, by omega, by go_num, HMA8.out, HWA8.out, HAscR.out, HApR.out, HL1.out, HL2.out, HR2.out, HB8.out⟩
                case measure => simp [intOf]; omega
        · have hjl : ¬ (j : Int) < (nC : Int) := by omega
          have HR2 := Lib.hid (show sv = if endedB W2 (entsOf z ts) then serialL zm z M2 (L.drop (i + 1)) else firstAt (askC ts) 0 zm by
            rw [HSer.out, hrun, List.drop_eq_nil_of_le (by have := HNC.out; omega)]; rfl)
          obtain ⟨aw, cw, rfl⟩ := own_slice hWA2.own
          have HEn := Lib.hid (endedR_any wr a n c z (HH.out.on HTj.out) (by omega) ts aw W2.length cw W2 (own_rows hWA2.own).1 rfl (by omega) hap2 (fun q hq => by have := HO.out q hq; omega))
          have d1 := HD6.out wr hbj
          have HMl2 := Lib.hid (show M2.length ≤ (i + 1) * 100 by rw [Nat.succ_mul]; have := HMl.out; omega)
          obtain ⟨eb, heb⟩ : ∃ b, endedB W2 (entsOf z ts) = b := ⟨_, rfl⟩
          rw [heb] at HR2 HEn
          obtain ⟨nW, hnW⟩ : ∃ x, W2.length = x := ⟨_, rfl⟩
          rw [hnW] at HEn
          simp only [hnW]
          clear hMA2 hWA2 hasc2 hap2 hrun hbj heb hnW HWA2 HAp2
          go_upto_region 21 with fail
          generalize wr = wi at *
          go_wp2_with fail
          clear d1
          refine HEn.out.mono ?_
          rintro e w11 ⟨rfl, hb11⟩
          have HB11 := Lib.hid (HBj.out.trans (hb11.mono HBj.out.size))
          have HMA11 := Lib.hid (HMA2.out.on hb11)
          have HTop11 := Lib.hid (HTop6.out.trans (HB11.out.mono HTop6.out.size))
          have HD11 := Lib.hid (fun w' (hb : Below w11.heap.size w11 w') => HD6.out w' (HB11.out.trans (hb.mono HB11.out.size)))
          have HRel := Lib.hid (show Below w1.heap.size w1 w11 from HB6.out.trans (HB11.out.mono HB6.out.size))
          clear hb11 HEn HMA2
          cases eb with
          | true =>
            have HR3 := Lib.hid (show sv = serialL zm z M2 (L.drop (i + 1)) from HR2.out)
            go_wp2_with fail
            go_roundw
            case rel => exact ⟨i + 1, M2, by omega, by go_num, HMA11.out, HAsc2.out, HMl2.out, HR3.out, HRel.out⟩
            case measure => simp [intOf]; omega
          | false =>
            have HR3 := Lib.hid (show sv = firstAt (askC ts) 0 zm from HR2.out)
            go_wp2_with fail
            go_loopw [4, 12] (fun _ s12 wr => ∃ k : Nat, k ≤ nm ∧ s12 = .int .i64 k ∧ sv = firstAt (askC ts) k (zm.drop k) ∧ Below w11.heap.size w11 wr) (fun _ s12 _ => nm - (intOf s12).toNat)
            case atStart => exact ⟨0, by omega, rfl, HR3.out, Below.refl _ _⟩
            case round =>
              obtain ⟨k, hk, rfl, hfi, hbk⟩ := hrel
              have HBk := Lib.hid hbk
              have HTk := Lib.hid (HTop11.out.trans (hbk.mono HTop11.out.size))
              by_cases hkn : k < nm
              · have hkl : (k : Int) < (nm : Int) := by omega
                obtain ⟨q, gm, om, hq, hqz, ea, hgm, hcm⟩ := (HMM.out.on HTk.out).row hkn
                have HFi := Lib.hid (hfi.trans (firstAt_drop (askC ts) zm k q hq))
                obtain ⟨c0, _, c2, _⟩ := hcm
                obtain ⟨qt, hqt⟩ : ∃ x, q.1.ts = x := ⟨_, rfl⟩
                obtain ⟨qk, hqk⟩ : ∃ x, q.1.kind = x := ⟨_, rfl⟩
                rw [hqt] at c0
                rw [hqk] at c2
                have HA := Lib.hid (show askC ts q.1 = (decide (qt = ts) && decide (qk = 5)) by unfold askC; rw [hqt, hqk])
                subst ea
                have HF := Lib.hid (show ∀ w', Below wr.heap.size wr w' → (w'.cell? ⟨gm, om + k * 16, none⟩ = some (.int .u64 (qt : Nat)) ∧ w'.cell? ⟨gm, om + k * 16 + 2, none⟩ = some (.int .i64 qk) ∧ w'.cell? ⟨gL, oL + i, none⟩ = some (.int .u64 (ts : Nat))) from fun w' hb => ⟨by rw [hb.cell (p := ⟨gm, om + k * 16, none⟩) hgm]; exact c0, by rw [hb.cell (p := ⟨gm, om + k * 16 + 2, none⟩) hgm]; exact c2, HD11.out w' (HBk.out.trans (hb.mono HBk.out.size))⟩)
                clear hfi hbk hq hqz hgm c0 c2 hqt hqk
                by_cases ht : qt = ts
                · have e1 : ((qt : Int) == (ts : Int)) = true := by simp [ht]
                  by_cases h5 : qk = 5
                  · have e2 : (qk == 5) = true := by simp [h5]
                    have HX := Lib.hid (show sv = (k : Int) by rw [HFi.out, HA.out]; simp [ht, h5])
                    clear ht h5
                    go_upto_region 25 with fail
                    refine wp_region_settle (Below wr.heap.size wr) (by kernel_rfl) (by kernel_rfl) (by kernel_rfl) (below_drew (Below.refl _ _)) ?_
                    repeat (first
                      | (refine settled_not ?_ ?_
                         · rfl
                         simp only [Act.put, List.setIfInBounds_toArray, List.set_cons_zero, List.set_cons_succ])
                      | (refine settled_val (v := ?_) ?_ (fun w' hS => ?_) ?_
                         rotate_left
                         · rfl
                         · obtain ⟨k0, k1, k2⟩ := HF.out w' hS
                           go_simp
                           with_reducible rfl
                         simp only [Act.put, List.setIfInBounds_toArray, List.set_cons_zero, List.set_cons_succ]))
                    refine settled_nil (fun w12 hS => ?_)
                    have HE := Lib.hid (HTk.out.trans (hS.mono HTk.out.size))
                    clear hS
                    go_wp2_with fail
                    go_ret
                    rw [HX.out]
                    exact ⟨by try rfl, HE.out⟩
                  · have e2 : (qk == 5) = false := by simp [h5]
                    have HX := Lib.hid (show sv = firstAt (askC ts) (k + 1) (zm.drop (k + 1)) by rw [HFi.out, HA.out]; simp [h5])
                    clear ht h5
                    go_upto_region 25 with fail
                    refine wp_region_settle (Below wr.heap.size wr) (by kernel_rfl) (by kernel_rfl) (by kernel_rfl) (below_drew (Below.refl _ _)) ?_
                    repeat (first
                      | (refine settled_not ?_ ?_
                         · rfl
                         simp only [Act.put, List.setIfInBounds_toArray, List.set_cons_zero, List.set_cons_succ])
                      | (refine settled_val (v := ?_) ?_ (fun w' hS => ?_) ?_
                         rotate_left
                         · rfl
                         · obtain ⟨k0, k1, k2⟩ := HF.out w' hS
                           go_simp
                           with_reducible rfl
                         simp only [Act.put, List.setIfInBounds_toArray, List.set_cons_zero, List.set_cons_succ]))
                    refine settled_nil (fun w12 hS => ?_)
                    have HE := Lib.hid (HBk.out.trans (hS.mono HBk.out.size))
                    clear hS
                    go_wp2_with fail
                    go_roundw
                    case rel => exact ⟨k + 1, by omega, by go_num, HX.out, HE.out⟩
                    case measure => simp [intOf]; omega
                · have e1 : ((qt : Int) == (ts : Int)) = false := by simp; omega
                  have HX := Lib.hid (show sv = firstAt (askC ts) (k + 1) (zm.drop (k + 1)) by rw [HFi.out, HA.out]; simp [ht])
                  clear ht
                  go_upto_region 25 with fail
                  refine wp_region_settle (Below wr.heap.size wr) (by kernel_rfl) (by kernel_rfl) (by kernel_rfl) (below_drew (Below.refl _ _)) ?_
                  repeat (first
                    | (refine settled_not ?_ ?_
                       · rfl
                       simp only [Act.put, List.setIfInBounds_toArray, List.set_cons_zero, List.set_cons_succ])
                    | (refine settled_val (v := ?_) ?_ (fun w' hS => ?_) ?_
                       rotate_left
                       · rfl
                       · obtain ⟨k0, k1, k2⟩ := HF.out w' hS
                         go_simp
                         with_reducible rfl
                       simp only [Act.put, List.setIfInBounds_toArray, List.set_cons_zero, List.set_cons_succ]))
                  refine settled_nil (fun w12 hS => ?_)
                  have HE := Lib.hid (HBk.out.trans (hS.mono HBk.out.size))
                  clear hS
                  go_wp2_with fail
                  go_roundw
                  case rel => exact ⟨k + 1, by omega, by go_num, HX.out, HE.out⟩
                  case measure => simp [intOf]; omega
              · exfalso
                rw [List.drop_eq_nil_of_le (by have := HMM.out.len; omega)] at hfi
                have h1 := HR3.out
                rw [hfi] at h1
                have h2 := firstAt_anyR (askC ts) zm 0
                rw [← h1] at h2
                have h3 : (zm.any fun q => askC ts q.1) = true := by
                  obtain ⟨q, hq, hh⟩ := HAs.out
                  exact List.any_eq_true.2 ⟨q, hq, hh⟩
                rw [h3] at h2
                exact absurd h2 (show ¬ decide ((0 : Int) ≤ -1) = true by decide)
    · have hil : ¬ (i : Int) < (nL : Int) := by omega
      have HX := Lib.hid (show sv = -1 by rw [hser, List.drop_eq_nil_of_le (by have := HNL.out; omega)]; rfl)
      clear hMA hasc hb hser
      go_wp2_with fail
      go_ret
      rw [HX.out]
      exact ⟨by try rfl, HTop.out⟩
end Go.Proofs.YtffianjbljgnaaaGreat
