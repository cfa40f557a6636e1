/-
  Texts folded into one: Apply, Eqs, MapsP, RefPl, RefPr, Ins3, RfPut, RfAppl, PickP, RfAft, Plan, Walk27M.
-/
import Derived.Test.YtffianjbljgnaaaRight3
import Derived.Test.YtffianjbljgnaaaSerial
import Derived.Test.YtffianjbljgnaaaWork27
import Derived.Test.YtffianjbljgnaaaEntsA
import Derived.Test.YtffianjbljgnaaaSymD
import Derived.Test.YtffianjbljgnaaaSyeD
import Derived.Test.YtffianjbljgnaaaSettleF
/-! ### Apply -/
namespace Go.Proofs.Ytffianjbljgnaaa
set_option linter.unusedVariables false
set_option linter.unusedSimpArgs false
open Go.RowKit Go.Maps

/-- A map of pairs that are listed. -/
def storeOf (M : List KV) : List KV := M.foldl (fun S p => put S p.1 p.2) []
theorem storeOf_asc (l : List KV) : ∀ S, Asc S → Asc (l.foldl (fun S p => put S p.1 p.2) S) ∧ (l.foldl (fun S p => put S p.1 p.2) S).length ≤ S.length + l.length := by
  induction l with
  | nil => intro S h; exact ⟨h, Nat.le_refl _⟩
  | cons p t ih =>
    intro S h
    have := ih _ (put_asc h p.1 p.2)
    have e := put_length h p.1 p.2
    rw [List.foldl_cons, List.length_cons]
    refine ⟨this.1, ?_⟩
    have := this.2
    split at e <;> omega
theorem put_last (S : List KV) (k v : Txt) (h : ∀ p ∈ S, p.1 < k) : put S k v = S ++ [(k, v)] := by
  induction S with
  | nil => rfl
  | cons p t ih =>
    unfold put
    rw [if_pos (h p (by simp)), ih (fun q hq => h q (List.mem_cons_of_mem _ hq))]; rfl
theorem storeOf_self {M : List KV} (h : Asc M) : storeOf M = M := by
  have : ∀ (l S : List KV), Asc (S ++ l) → l.foldl (fun S p => put S p.1 p.2) S = S ++ l := by
    intro l
    induction l with
    | nil => intro S _; simp
    | cons p t ih =>
      intro S h
      rw [List.foldl_cons, put_last S p.1 p.2 (fun q hq => (List.pairwise_append.1 h).2.2 q hq p (by simp)), ih]
      · simp
      · simpa using h
  exact this M [] (by simpa using h)
def applyL (M : List KV) (l : List Rec) : List KV := l.foldl app (storeOf M)
set_option maxRecDepth 100000 in
set_option maxHeartbeats 4000000 in
theorem apply_any (w : World) (am : Option Addr) (nm cm : Nat) (M : List KV) (hM : RowsAt w am nm cm 2 (pairsCells M)) (eM : nm = M.length) (hnm : nm ≤ 1000) (oM : ∀ p ∈ M, p.1.length ≤ maxLen)
    (e : Ent) (x : Entry) (hE : EntIs w e x) (hx : x.ops.length ≤ 1000) :
    Calls Try.prog 16 #[.slice am nm cm, .agg #[.int .u64 (e.ts : Nat), .int .u64 (e.first : Nat), .slice e.a e.n e.c]] w (PairsEnd (applyL M x.ops) w) := by
  have hb0 := (Below.refl w.heap.size w).alloc (Nat.le_refl _) (.cells #[.int .u64 (e.ts : Nat), .int .u64 (e.first : Nat), .slice e.a e.n e.c] 40)
  have hEb : Blk (w.alloc (.cells #[.int .u64 (e.ts : Nat), .int .u64 (e.first : Nat), .slice e.a e.n e.c] 40)) w.heap.size (entCells e) 40 := Blk.new w (entCells e) _
  have hM0 := VMap.made_run (w := w.alloc (.cells #[.int .u64 (e.ts : Nat), .int .u64 (e.first : Nat), .slice e.a e.n e.c] 40)) (k := 9) (e := 9) (t := 72) Try.underlying72
  have hS0 := StoreAt.made (w.alloc (.cells #[.int .u64 (e.ts : Nat), .int .u64 (e.first : Nat), .slice e.a e.n e.c] 40))
  rw [World.size_alloc] at hS0 hM0
  have hbm : Below w.heap.size w ((w.alloc (.cells #[.int .u64 (e.ts : Nat), .int .u64 (e.first : Nat), .slice e.a e.n e.c] 40)).alloc (.map #[] 0)) := hb0.alloc hb0.size _
  have HEb := Lib.hid (hEb.alloc (.map #[] 0))
  have HM := Lib.hid hM
  have HE := Lib.hid hE
  have HO := Lib.hid oM
  have HS0 := Lib.hid hS0
  have HB0 := Lib.hid hbm
  have hsz : ((w.alloc (.cells #[.int .u64 (e.ts : Nat), .int .u64 (e.first : Nat), .slice e.a e.n e.c] 40)).alloc (.map #[] 0)).heap.size = w.heap.size + 2 := by simp
  have HSz := Lib.hid hsz
  clear hM hE oM hb0 hEb hS0 hbm hsz
  go_enter Try.func16, Try.ntmps16
  go_upto_region 2 with fail
  generalize (w.alloc (.cells #[.int .u64 (e.ts : Nat), .int .u64 (e.first : Nat), .slice e.a e.n e.c] 40)).alloc (.map #[] 0) = w1 at *
  clear hM0
  go_wp2_with fail
  go_loopw [7, 13] (fun _ s13 wr => ∃ (i : Nat) (S : List KV), i ≤ nm ∧ s13 = .int .i64 i ∧ (M.take i).foldl (fun S p => put S p.1 p.2) [] = S ∧ S.length ≤ i ∧ StoreAt wr (w.heap.size + 1) S ∧ Mod [w.heap.size + 1] w1 wr) (fun _ s13 _ => nm - (intOf s13).toNat)
  case atStart => exact ⟨0, [], by omega, rfl, rfl, by simp, HS0.out, Mod.refl _ _⟩
  case round =>
    obtain ⟨i, S, hi, rfl, hSe, hlen, hS, hm⟩ := hrel
    have hbw : Below w.heap.size w wr := HB0.out.trans (hm.below (fun x hx => by simp at hx; omega) HB0.out.size)
    by_cases hlt : i < nm
    · have hil : (i : Int) < (nm : Int) := by omega
      obtain ⟨p, g, o, hp, hpz, rfl, hg, c0, c1⟩ := pairs_row (HM.out.on hbw) eM hlt
      have hBn := (Below.refl wr.heap.size wr).alloc (Nat.le_refl _) (.cells #[.string ⟨p.1.toArray⟩, .string ⟨p.2.toArray⟩] 47)
      obtain ⟨w', hrun, hS', hm'⟩ := (hS.on hBn).puts (by omega) p.1 p.2 (HO.out p hpz)
      have HS' := Lib.hid hS'
      have HM' := Lib.hid ((hm.thenBelow hBn).trans hm')
      have HNext := Lib.hid (show (M.take (i + 1)).foldl (fun S p => put S p.1 p.2) [] = put S p.1 p.2 by rw [List.take_add_one, hp, List.foldl_append, hSe]; rfl)
      have HLen := Lib.hid (show (put S p.1 p.2).length ≤ i + 1 by rw [put_length hS.asc]; split <;> omega)
      clear hS hS' hm hm' hBn hp hpz hSe hbw
      go_wp2_with fail
      go_roundw
      case rel => exact ⟨i + 1, _, by omega, by go_num, HNext.out, HLen.out, HS'.out, HM'.out⟩
      case measure => simp [intOf]; omega
    · have hge : ¬ (i : Int) < (nm : Int) := by omega
      have hin : i = M.length := by omega
      have HSe := Lib.hid (show storeOf M = S by rw [← hSe, hin, List.take_of_length_le (Nat.le_refl _)]; rfl)
      have hEb := HEb.out.mod hm (by simp)
      have z2 : wr.cell? ⟨w.heap.size, 2, none⟩ = some (.slice e.a e.n e.c) := by rw [hEb.cell]; rfl
      have HS := Lib.hid hS
      have HMo := Lib.hid hm
      have HBw := Lib.hid hbw
      generalize wr = wo at *
      clear hSe hEb hS hm hbw
      go_wp2_with fail
      clear z2
      go_loopw [9, 26] (fun _ s26 wx => ∃ (j : Nat) (M2 : List KV), j ≤ e.n ∧ s26 = .int .i64 j ∧ (x.ops.take j).foldl app S = M2 ∧ M2.length ≤ i + j ∧ StoreAt wx (w.heap.size + 1) M2 ∧ Mod [w.heap.size + 1] wo wx) (fun _ s26 _ => e.n - (intOf s26).toNat)
      case atStart => exact ⟨0, S, by omega, rfl, rfl, by omega, HS.out, Mod.refl _ _⟩
      case round =>
        obtain ⟨j, M2, hj, rfl, hM2, hlen2, hS3, hm3⟩ := hrel
        have hbw : Below w.heap.size w wr := HBw.out.trans (hm3.below (fun x hx => by simp at hx; omega) HBw.out.size)
        have hen : e.n ≤ 1000 := by rw [HE.out.n]; exact hx
        by_cases hltj : j < e.n
        · have hjl : (j : Int) < (e.n : Int) := by omega
          obtain ⟨r, g2, o2, hr, hrl, ha2, hg2, d0, d1, d2, d3⟩ := recs_row (HE.out.rows.on hbw) HE.out.n hltj
          have hD := do_any (wr.alloc (.cells #[.string ⟨r.key.toArray⟩, .int .u64 (r.lsn : Nat), .bool r.del, .string ⟨r.val.toArray⟩] 58)) (w.heap.size + 1) M2 (hS3.on ((Below.refl wr.heap.size wr).alloc (Nat.le_refl _) _)) (by omega) r ((HE.out.ok.ops r hrl).1)
          have HD := Lib.hid hD
          have HM3 := Lib.hid (hm3.thenBelow ((Below.refl wr.heap.size wr).alloc (Nat.le_refl _) (.cells #[.string ⟨r.key.toArray⟩, .int .u64 (r.lsn : Nat), .bool r.del, .string ⟨r.val.toArray⟩] 58)))
          have HNext := Lib.hid (show (x.ops.take (j + 1)).foldl app S = app M2 r by rw [List.take_add_one, hr, List.foldl_append, hM2]; rfl)
          have HLen := Lib.hid (show (app M2 r).length ≤ i + (j + 1) by have := app_length hS3.asc r; omega)
          clear hD hm3 hS3 hr hrl hM2 hbw
          rw [ha2]
          go_wp2_with fail
          refine HD.out.mono ?_
          rintro e w2 ⟨rfl, hS4, hm4⟩
          go_wp2_with fail
          go_roundw
          case rel => exact ⟨j + 1, _, by omega, by go_num, HNext.out, HLen.out, hS4, HM3.out.trans hm4⟩
          case measure => simp [intOf]; omega
        · have hje : ¬ (j : Int) < (e.n : Int) := by omega
          have hjj : j = x.ops.length := by have := HE.out.n; omega
          have HMM := Lib.hid (show M2 = applyL M x.ops by
            unfold applyL
            rw [HSe.out, ← hM2, hjj, List.take_of_length_le (Nat.le_refl _)])
          have HP := Lib.hid (pairs_any wr (w.heap.size + 1) M2 [] [] hS3 (by omega))
          have HBW := Lib.hid hbw
          clear hM2 hS3 hm3 hbw
          go_wp2_with fail
          refine HP.out.mono ?_
          rintro e w2 ⟨a2, c2, rfl, hrows, hold2, hb2⟩
          rw [sel_all, HMM.out] at hrows
          have HE2 := Lib.hid (show PairsEnd (applyL M x.ops) w (.returned (.slice a2 (sel M2 [] []).length c2)) w2 from ⟨a2, c2, by rw [sel_all, HMM.out], hrows, fun g o e => Nat.le_trans HBW.out.size (hold2 g o e), HBW.out.trans (hb2.mono HBW.out.size)⟩)
          clear hrows hold2 hb2
          go_wp2_with fail
          go_ret
          exact HE2.out
end Go.Proofs.Ytffianjbljgnaaa

/-! ### Eqs -/
namespace Go.Proofs.Ytffianjbljgnaaa
set_option linter.unusedVariables false
set_option linter.unusedSimpArgs false
open Go.RowKit

set_option maxRecDepth 100000 in
set_option maxHeartbeats 4000000 in
theorem pairsEq_any (w : World) (a1 a2 : Option Addr) (n1 c1 n2 c2 : Nat) (P Q : List KV) (h1 : RowsAt w a1 n1 c1 2 (pairsCells P)) (h2 : RowsAt w a2 n2 c2 2 (pairsCells Q)) (e1 : n1 = P.length) (e2 : n2 = Q.length) (hn : n1 ≤ 10000000) :
    Calls Try.prog 9 #[.slice a1 n1 c1, .slice a2 n2 c2] w fun e w' => e = .returned (.bool (decide (P = Q))) ∧ Below w.heap.size w w' := by
  have H1 := Lib.hid h1
  have H2 := Lib.hid h2
  have E1 := Lib.hid e1
  have E2 := Lib.hid e2
  clear h1 h2 e1 e2
  by_cases hl : n1 = n2
  · subst hl
    have hne : (n1 != n1) = false := by simp
    go_enter Try.func9, Try.ntmps9
    go_wp2_with fail
    go_loopw [5] (fun s13 wr => ∃ i : Nat, i ≤ n1 ∧ s13 = .int .i64 i ∧ P.take i = Q.take i ∧ Below w.heap.size w wr) (fun s13 _ => n1 - (intOf s13).toNat)
    case atStart => exact ⟨0, by omega, rfl, rfl, Below.refl _ _⟩
    case round =>
      obtain ⟨i, hi, rfl, heq, hb⟩ := hrel
      have HEq := Lib.hid heq
      clear heq
      by_cases hlt : i < n1
      · have hil : (i : Int) < (n1 : Int) := by omega
        obtain ⟨p, g, o, hp, _, rfl, hg, c0, c1'⟩ := pairs_row (H1.out.on hb) E1.out hlt
        obtain ⟨q, g', o', hq, _, rfl, hg', d0, d1⟩ := pairs_row (H2.out.on hb) E2.out hlt
        have HF := Lib.hid (show ∀ w', Below wr.heap.size wr w' → (w'.cell? ⟨g, o + i * 2, none⟩ = some (.string ⟨p.1.toArray⟩) ∧ w'.cell? ⟨g, o + i * 2 + 1, none⟩ = some (.string ⟨p.2.toArray⟩) ∧ w'.cell? ⟨g', o' + i * 2, none⟩ = some (.string ⟨q.1.toArray⟩) ∧ w'.cell? ⟨g', o' + i * 2 + 1, none⟩ = some (.string ⟨q.2.toArray⟩)) from
          fun w' h => ⟨(h.cell (p := ⟨g, o + i * 2, none⟩) hg).trans c0, (h.cell (p := ⟨g, o + i * 2 + 1, none⟩) hg).trans c1', (h.cell (p := ⟨g', o' + i * 2, none⟩) hg').trans d0, (h.cell (p := ⟨g', o' + i * 2 + 1, none⟩) hg').trans d1⟩)
        have HP := Lib.hid hp
        have HQ := Lib.hid hq
        clear hp hq c0 c1' d0 d1
        by_cases hpq : p = q
        · have hcmp : ∀ w, _ := fun w => run_neq_pair p q w
          rw [show decide (p ≠ q) = false from by simp [hpq]] at hcmp
          unfold pairV at hcmp
          have HNext := Lib.hid (show P.take (i + 1) = Q.take (i + 1) by rw [List.take_add_one, List.take_add_one, HP.out, HQ.out, HEq.out, hpq])
          clear hpq
          go_upto_region 6 with fail
          refine wp_region_settle (Below wr.heap.size wr) (by kernel_rfl) (by kernel_rfl) (by kernel_rfl) (below_drew (Below.refl _ _)) ?_
          repeat (first
            | (refine settled_not ?_ ?_
               · rfl
               simp only [Act.put, List.setIfInBounds_toArray, List.set_cons_zero, List.set_cons_succ])
            | (refine settled_val (v := ?_) ?_ (fun w' hS => ?_) ?_
               rotate_left
               · rfl
               · obtain ⟨k0, k1, k2, k3⟩ := HF.out w' hS
                 go_simp
                 with_reducible rfl
               simp only [Act.put, List.setIfInBounds_toArray, List.set_cons_zero, List.set_cons_succ]))
          refine settled_nil (fun w2 hS => ?_)
          clear hcmp
          go_wp2_with fail
          go_roundw
          case rel => exact ⟨i + 1, by omega, by go_num, HNext.out, hb.trans (hS.mono hb.size)⟩
          case measure => simp [intOf]; omega
        · have hcmp : ∀ w, _ := fun w => run_neq_pair p q w
          rw [show decide (p ≠ q) = true from by simp [hpq]] at hcmp
          unfold pairV at hcmp
          have HNe := Lib.hid (show decide (P = Q) = false from decide_eq_false (fun e => by
            have h1 := HP.out
            rw [e, HQ.out] at h1
            exact hpq (Option.some.inj h1).symm))
          clear hpq
          go_upto_region 6 with fail
          refine wp_region_settle (Below wr.heap.size wr) (by kernel_rfl) (by kernel_rfl) (by kernel_rfl) (below_drew (Below.refl _ _)) ?_
          repeat (first
            | (refine settled_not ?_ ?_
               · rfl
               simp only [Act.put, List.setIfInBounds_toArray, List.set_cons_zero, List.set_cons_succ])
            | (refine settled_val (v := ?_) ?_ (fun w' hS => ?_) ?_
               rotate_left
               · rfl
               · obtain ⟨k0, k1, k2, k3⟩ := HF.out w' hS
                 go_simp
                 with_reducible rfl
               simp only [Act.put, List.setIfInBounds_toArray, List.set_cons_zero, List.set_cons_succ]))
          refine settled_nil (fun w2 hS => ?_)
          clear hcmp
          have HB := Lib.hid (hb.trans (hS.mono hb.size))
          clear hS hb
          go_wp2_with fail
          go_ret
          exact ⟨by rw [HNe.out]; try rfl, HB.out⟩
      · have hge : ¬ (i : Int) < (n1 : Int) := by omega
        have HPQ := Lib.hid (show decide (P = Q) = true from decide_eq_true (by
          have h1 := HEq.out
          have hin : i = n1 := by omega
          rw [hin, List.take_of_length_le (by have := E1.out; omega), List.take_of_length_le (by have := E2.out; omega)] at h1
          exact h1))
        have HB := Lib.hid hb
        clear hb
        go_wp2_with fail
        go_ret
        exact ⟨by rw [HPQ.out]; try rfl, HB.out⟩
  · have hne : ((n1 : Int) != (n2 : Int)) = true := by simp; omega
    have HPQ := Lib.hid (show decide (P = Q) = false from decide_eq_false (fun e => by
      have h1 := E1.out
      have h2 := E2.out
      rw [e] at h1
      omega))
    clear hl
    go_enter Try.func9, Try.ntmps9
    go_wp2_with fail
    go_ret
    exact ⟨by rw [HPQ.out]; try rfl, Below.refl _ _⟩
theorem nums_row {w : World} {a : Option Addr} {n c : Nat} {l : List Nat} (h : RowsAt w a n c 1 (u64s l)) (hl : n = l.length) {i : Nat} (hi : i < n) :
    ∃ (p : Nat) (g o : Nat), l[i]? = some p ∧ p ∈ l ∧ a = some ⟨g, o, none⟩ ∧ g < w.heap.size ∧ w.cell? ⟨g, o + i, none⟩ = some (.int .u64 (p : Nat)) := by
  obtain ⟨g, o, e, hg, hc⟩ := h.at_ (by omega)
  have hx : i < l.length := by omega
  exact ⟨l[i], g, o, List.getElem?_eq_getElem hx, List.getElem_mem hx, e, hg, hc _ _ (u64s_nth l i l[i] (List.getElem?_eq_getElem hx))⟩
set_option maxRecDepth 100000 in
set_option maxHeartbeats 4000000 in
theorem numbers_any (w : World) (a1 a2 : Option Addr) (n1 c1 n2 c2 : Nat) (P Q : List Nat) (h1 : RowsAt w a1 n1 c1 1 (u64s P)) (h2 : RowsAt w a2 n2 c2 1 (u64s Q)) (e1 : n1 = P.length) (e2 : n2 = Q.length) (hn : n1 ≤ 10000000) :
    Calls Try.prog 23 #[.slice a1 n1 c1, .slice a2 n2 c2] w fun e w' => e = .returned (.bool (decide (P = Q))) ∧ Below w.heap.size w w' := by
  have H1 := Lib.hid h1
  have H2 := Lib.hid h2
  have E1 := Lib.hid e1
  have E2 := Lib.hid e2
  clear h1 h2 e1 e2
  by_cases hl : n1 = n2
  · subst hl
    have hne : (n1 != n1) = false := by simp
    go_enter Try.func23, Try.ntmps23
    go_wp2_with fail
    go_loopw [5] (fun s13 wr => ∃ i : Nat, i ≤ n1 ∧ s13 = .int .i64 i ∧ P.take i = Q.take i ∧ Below w.heap.size w wr) (fun s13 _ => n1 - (intOf s13).toNat)
    case atStart => exact ⟨0, by omega, rfl, rfl, Below.refl _ _⟩
    case round =>
      obtain ⟨i, hi, rfl, heq, hb⟩ := hrel
      have HEq := Lib.hid heq
      clear heq
      by_cases hlt : i < n1
      · have hil : (i : Int) < (n1 : Int) := by omega
        obtain ⟨p, g, o, hp, _, rfl, hg, c0⟩ := nums_row (H1.out.on hb) E1.out hlt
        obtain ⟨q, g', o', hq, _, rfl, hg', d0⟩ := nums_row (H2.out.on hb) E2.out hlt
        have HF := Lib.hid (show ∀ w', Below wr.heap.size wr w' → (w'.cell? ⟨g, o + i, none⟩ = some (.int .u64 (p : Nat)) ∧ w'.cell? ⟨g', o' + i, none⟩ = some (.int .u64 (q : Nat))) from
          fun w' h => ⟨(h.cell (p := ⟨g, o + i, none⟩) hg).trans c0, (h.cell (p := ⟨g', o' + i, none⟩) hg').trans d0⟩)
        have HP := Lib.hid hp
        have HQ := Lib.hid hq
        clear hp hq c0 d0
        by_cases hpq : p = q
        · have hcmp : ((p : Int) != (q : Int)) = false := by simp [hpq]
          have HNext := Lib.hid (show P.take (i + 1) = Q.take (i + 1) by rw [List.take_add_one, List.take_add_one, HP.out, HQ.out, HEq.out, hpq])
          clear hpq
          go_upto_region 6 with fail
          refine wp_region_settle (Below wr.heap.size wr) (by kernel_rfl) (by kernel_rfl) (by kernel_rfl) (below_drew (Below.refl _ _)) ?_
          repeat (first
            | (refine settled_not ?_ ?_
               · rfl
               simp only [Act.put, List.setIfInBounds_toArray, List.set_cons_zero, List.set_cons_succ])
            | (refine settled_val (v := ?_) ?_ (fun w' hS => ?_) ?_
               rotate_left
               · rfl
               · obtain ⟨k0, k1⟩ := HF.out w' hS
                 go_simp
                 with_reducible rfl
               simp only [Act.put, List.setIfInBounds_toArray, List.set_cons_zero, List.set_cons_succ]))
          refine settled_nil (fun w2 hS => ?_)
          clear hcmp
          go_wp2_with fail
          go_roundw
          case rel => exact ⟨i + 1, by omega, by go_num, HNext.out, hb.trans (hS.mono hb.size)⟩
          case measure => simp [intOf]; omega
        · have hcmp : ((p : Int) != (q : Int)) = true := by simp; omega
          have HNe := Lib.hid (show decide (P = Q) = false from decide_eq_false (fun e => by
            have h1 := HP.out
            rw [e, HQ.out] at h1
            exact hpq (Option.some.inj h1).symm))
          clear hpq
          go_upto_region 6 with fail
          refine wp_region_settle (Below wr.heap.size wr) (by kernel_rfl) (by kernel_rfl) (by kernel_rfl) (below_drew (Below.refl _ _)) ?_
          repeat (first
            | (refine settled_not ?_ ?_
               · rfl
               simp only [Act.put, List.setIfInBounds_toArray, List.set_cons_zero, List.set_cons_succ])
            | (refine settled_val (v := ?_) ?_ (fun w' hS => ?_) ?_
               rotate_left
               · rfl
               · obtain ⟨k0, k1⟩ := HF.out w' hS
                 go_simp
                 with_reducible rfl
               simp only [Act.put, List.setIfInBounds_toArray, List.set_cons_zero, List.set_cons_succ]))
          refine settled_nil (fun w2 hS => ?_)
          clear hcmp
          have HB := Lib.hid (hb.trans (hS.mono hb.size))
          clear hS hb
          go_wp2_with fail
          go_ret
          exact ⟨by rw [HNe.out]; try rfl, HB.out⟩
      · have hge : ¬ (i : Int) < (n1 : Int) := by omega
        have HPQ := Lib.hid (show decide (P = Q) = true from decide_eq_true (by
          have h1 := HEq.out
          have hin : i = n1 := by omega
          rw [hin, List.take_of_length_le (by have := E1.out; omega), List.take_of_length_le (by have := E2.out; omega)] at h1
          exact h1))
        have HB := Lib.hid hb
        clear hb
        go_wp2_with fail
        go_ret
        exact ⟨by rw [HPQ.out]; try rfl, HB.out⟩
  · have hne : ((n1 : Int) != (n2 : Int)) = true := by simp; omega
    have HPQ := Lib.hid (show decide (P = Q) = false from decide_eq_false (fun e => by
      have h1 := E1.out
      have h2 := E2.out
      rw [e] at h1
      omega))
    clear hl
    go_enter Try.func23, Try.ntmps23
    go_wp2_with fail
    go_ret
    exact ⟨by rw [HPQ.out]; try rfl, Below.refl _ _⟩
end Go.Proofs.Ytffianjbljgnaaa

/-! ### MapsP -/
namespace Go.Proofs.Ytffianjbljgnaaa
set_option linter.unusedVariables false
set_option linter.unusedSimpArgs false
open Go.RowKit Go.Sort Go.Shelf Go.Proofs

theorem app_memK {M : List KV} {r : Rec} {p : KV} (h : p ∈ app M r) : p ∈ M ∨ p.1 = r.key := by
  unfold app at h
  split at h
  · exact .inl (List.mem_filter.1 h).1
  · rcases put_mem _ _ _ _ h with rfl | h
    · exact .inr rfl
    · exact .inl h
theorem ops_memK {l : List Rec} {M : List KV} {p : KV} (h : p ∈ l.foldl app M) : p ∈ M ∨ ∃ r ∈ l, p.1 = r.key := by
  induction l generalizing M with
  | nil => exact .inl h
  | cons r t ih =>
    rcases ih h with h | ⟨r', h1, h2⟩
    · rcases app_memK h with h | h
      · exact .inl h
      · exact .inr ⟨r, by simp, h⟩
    · exact .inr ⟨r', List.mem_cons_of_mem _ h1, h2⟩
theorem runL_memK {l : List Entry} {M : List KV} {p : KV} (h : p ∈ runL M l) : p ∈ M ∨ ∃ x ∈ l, ∃ r ∈ x.ops, p.1 = r.key := by
  induction l generalizing M with
  | nil => exact .inl h
  | cons x t ih =>
    have h' : p ∈ runL (x.ops.foldl app M) t := h
    rcases ih h' with h | ⟨y, h1, r, h2, h3⟩
    · rcases ops_memK h with h | ⟨r, h1, h2⟩
      · exact .inl h
      · exact .inr ⟨x, by simp, r, h1, h2⟩
    · exact .inr ⟨y, List.mem_cons_of_mem _ h1, r, h2, h3⟩
theorem runL_asc {l : List Entry} : ∀ {M : List KV}, Asc M → Asc (runL M l) := by
  induction l with
  | nil => intro M h; exact h
  | cons x t ih => intro M h; exact ih (ops_asc h x.ops)
theorem runL_length {l : List Entry} {m : Nat} (hm : ∀ x ∈ l, x.ops.length ≤ m) : ∀ {M : List KV}, Asc M → (runL M l).length ≤ M.length + l.length * m := by
  induction l with
  | nil => intro M h; show M.length ≤ _; omega
  | cons x t ih =>
    intro M h
    have h1 := ih (fun y hy => hm y (List.mem_cons_of_mem _ hy)) (ops_asc h x.ops)
    have h2 := ops_length h x.ops
    have h3 := hm x (by simp)
    have h4 : (runL M (x :: t)).length = (runL (x.ops.foldl app M) t).length := rfl
    rw [h4, List.length_cons, Nat.succ_mul]
    omega
theorem asc_nil : Asc ([] : List KV) := List.Pairwise.nil
theorem rise_mem {l : List Entry} {x : Entry} : x ∈ rise l ↔ x ∈ l := (isort_perm _ l).mem_iff
theorem rise_length (l : List Entry) : (rise l).length = l.length := isort_length _ _
theorem after_asc (l : List Entry) : Asc (afterL l) := runL_asc asc_nil
theorem after_length {l : List Entry} {m : Nat} (hm : ∀ x ∈ l, x.ops.length ≤ m) : (afterL l).length ≤ l.length * m := by
  have := runL_length (l := rise l) (m := m) (fun x hx => hm x (rise_mem.1 hx)) asc_nil
  rw [rise_length] at this
  unfold afterL
  simpa using this
theorem after_key {l : List Entry} (h : ∀ x ∈ l, ∀ r ∈ x.ops, r.ok) : ∀ p ∈ afterL l, p.1.length ≤ maxLen := fun p hp => by
  rcases runL_memK hp with h0 | ⟨x, hx, r, hr, e⟩
  · simp at h0
  · rw [e]
    exact (h x (rise_mem.1 hx) r hr).1
theorem applyL_self {M : List KV} (h : Asc M) (l : List Rec) : applyL M l = l.foldl app M := by
  unfold applyL
  rw [storeOf_self h]
theorem cutOps_ok {R : List Rec} (h : ∀ r ∈ R, r.ok) (n : Nat) : ∀ r ∈ cutRecs n R, r.ok := fun r hr => by
  unfold cutRecs at hr
  obtain ⟨q, hq, rfl⟩ := List.mem_map.1 hr
  exact cutRec_ok (h q (List.mem_of_mem_take hq))
end Go.Proofs.Ytffianjbljgnaaa

/-! ### RefPl -/
namespace Go.Proofs.Ytffianjbljgnaaa
set_option linter.unusedVariables false
set_option linter.unusedSimpArgs false
open Go.RowKit Go.Maps

/-- A pair is put in a map, as the document says it. -/
def rput : List KV → Txt → Txt → Bool → List KV
  | [], k, v, done => if done then [] else [(k, v)]
  | p :: t, k, v, done => if p.1 = k then rput t k v done else if done = false ∧ k < p.1 then (k, v) :: p :: rput t k v true else p :: rput t k v done
theorem rput_done (M : List KV) (k v : Txt) : rput M k v true = drop M k := by
  induction M with
  | nil => rfl
  | cons p t ih =>
    unfold rput drop
    rw [List.filter_cons]
    by_cases h : p.1 = k
    · rw [if_pos h, if_neg (by simp [h]), ih]; rfl
    · rw [if_neg h, if_neg (by simp), if_pos (by simp [h]), ih]; rfl
theorem drop_above {M : List KV} {k : Txt} (h : ∀ p ∈ M, k < p.1) : drop M k = M := by
  unfold drop
  refine List.filter_eq_self.2 fun p hp => ?_
  have := txt_ne (h p hp)
  simp only [decide_eq_true_eq]
  exact fun e => this e.symm
theorem rput_above {M : List KV} {k : Txt} (h : ∀ p ∈ M, k < p.1) (v : Txt) : rput M k v false = (k, v) :: M := by
  cases M with
  | nil => rfl
  | cons p t =>
    have hp := h p (by simp)
    unfold rput
    rw [if_neg (fun e => txt_ne hp e.symm), if_pos ⟨rfl, hp⟩, rput_done, drop_above fun q hq => h q (List.mem_cons_of_mem _ hq)]
theorem rput_put {M : List KV} (h : Asc M) (k v : Txt) : rput M k v false = put M k v := by
  induction M with
  | nil => rfl
  | cons p t ih =>
    obtain ⟨h1, h2⟩ := List.pairwise_cons.1 h
    unfold rput put
    by_cases c1 : p.1 = k
    · rw [if_pos c1, if_neg (fun e => txt_ne e c1), if_pos c1, rput_above]
      intro q hq
      rw [← c1]; exact h1 q hq
    · rw [if_neg c1]
      by_cases c2 : p.1 < k
      · rw [if_pos c2, if_neg (fun e => txt_lt_irrefl k (txt_lt_trans e.2 c2)), ih h2]
      · have c3 := txt_lt_of c2 c1
        rw [if_neg c2, if_neg c1, if_pos ⟨rfl, c3⟩, rput_done, drop_above fun q hq => txt_lt_trans c3 (h1 q hq)]
theorem rput_app {M : List KV} (h : Asc M) (r : Rec) : rput M r.key r.val r.del = app M r := by
  unfold app
  cases r.del with
  | true => rw [rput_done]; rfl
  | false => rw [rput_put h]; rfl

/-- A list without doubles in another one that is no longer is all of it. -/
theorem perm_of_nodup {β : Type} [DecidableEq β] : ∀ (l1 l2 : List β), l1.Nodup → (∀ x ∈ l1, x ∈ l2) → l2.length ≤ l1.length → l2.Perm l1 := by
  intro l1
  induction l1 with
  | nil =>
    intro l2 _ _ h
    have : l2 = [] := List.length_eq_zero_iff.1 (by simpa using h)
    rw [this]
  | cons a t ih =>
    intro l2 hn hs hl
    obtain ⟨h1, h2⟩ := List.nodup_cons.1 hn
    have ha := hs a (by simp)
    have hp := List.perm_cons_erase ha
    refine hp.trans ((List.perm_cons a).2 (ih _ h2 (fun x hx => ?_) ?_))
    · have hx2 := hs x (List.mem_cons_of_mem _ hx)
      exact (List.mem_erase_of_ne (fun e => h1 (by rw [← e]; exact hx))).2 hx2
    · have := hp.length_eq
      simp only [List.length_cons] at this hl
      omega
/-- No key twice. -/
def ApartW (W : List Rec) : Prop := (W.map (·.key)).Nodup
theorem setR_keys (W : List Rec) (r : Rec) : (setR W r).map (·.key) = if r.key ∈ W.map (·.key) then W.map (·.key) else W.map (·.key) ++ [r.key] := by
  induction W with
  | nil => rfl
  | cons q t ih =>
    unfold setR
    by_cases h : q.key = r.key
    · rw [if_pos h, if_pos (by simp [h]), List.map_cons, List.map_cons, h]
    · rw [if_neg h, List.map_cons, ih]
      have h' : ¬ r.key = q.key := fun e => h e.symm
      by_cases c : r.key ∈ t.map (·.key)
      · rw [if_pos c, if_pos (by rw [List.map_cons]; exact List.mem_cons_of_mem _ c), List.map_cons]
      · rw [if_neg c, if_neg (by rw [List.map_cons]; simpa [h'] using c), List.map_cons, List.cons_append]
theorem ApartW.set {W : List Rec} (h : ApartW W) (r : Rec) : ApartW (setR W r) := by
  unfold ApartW at *
  rw [setR_keys]
  split
  · exact h
  · rename_i c
    refine List.nodup_append.2 ⟨h, by simp, ?_⟩
    intro a ha b hb
    simp only [List.mem_singleton] at hb
    subst hb
    exact fun e => c (by rw [← e]; exact ha)
theorem ApartW.right {W : List Rec} (h : ApartW W) (q : MZ) : ApartW (rightW W q) := by
  unfold rightW
  split
  · exact h.set _
  · split
    · exact h.set _
    · exact h
theorem ApartW.find {W : List Rec} (h : ApartW W) {x : Rec} (hx : x ∈ W) : findR W x.key = some x := by
  unfold ApartW at h
  induction W with
  | nil => cases hx
  | cons q t ih =>
    rw [List.map_cons] at h
    obtain ⟨h1, h2⟩ := List.nodup_cons.1 h
    unfold findR
    rcases List.mem_cons.1 hx with rfl | hx
    · rw [if_pos rfl]
    · rw [if_neg (fun e => h1 (by rw [← e]; exact List.mem_map_of_mem hx)), ih h2 hx]
theorem findR_some {W : List Rec} {k : Txt} {x : Rec} (h : findR W k = some x) : x ∈ W ∧ x.key = k := by
  induction W with
  | nil => cases h
  | cons q t ih =>
    unfold findR at h
    split at h
    · rename_i e
      cases h
      exact ⟨by simp, e.symm⟩
    · obtain ⟨h1, h2⟩ := ih h
      exact ⟨List.mem_cons_of_mem _ h1, h2⟩
/-- The document's look at one key of what was written. -/
def sameN (x : Rec) (l : List Rec) : Nat := (l.filter fun o => decide (o.key = x.key)).length
def matchB (x : Rec) (l : List Rec) : Bool := l.all fun o => !decide (o.key = x.key) || (decide (o.del = x.del) && decide (o.val = x.val))
def rended1 (W : List Rec) (l : List Rec) : Bool := W.all fun x => matchB x l && decide (sameN x l = 1)
theorem okOps_iff (W : List Rec) : ∀ (l : List Rec) (S : List Txt), okOps W S l = true ↔ ((l.map (·.key)).Nodup ∧ (∀ o ∈ l, o.key ∉ S)) ∧ ∀ o ∈ l, ∃ x, findR W o.key = some x ∧ x.del = o.del ∧ x.val = o.val := by
  intro l
  induction l with
  | nil => intro S; exact ⟨fun _ => ⟨⟨List.nodup_nil, by simp⟩, by simp⟩, fun _ => rfl⟩
  | cons r t ih =>
    intro S
    unfold okOps
    rw [Bool.and_eq_true, ih]
    have e : okOp W S r = true ↔ r.key ∉ S ∧ ∃ x, findR W r.key = some x ∧ x.del = r.del ∧ x.val = r.val := by
      unfold okOp
      cases findR W r.key with
      | none => simp
      | some x => simp
    rw [e, List.map_cons, List.nodup_cons]
    constructor
    · rintro ⟨⟨a1, a2⟩, ⟨b1, b2⟩, b3⟩
      refine ⟨⟨⟨fun hm => ?_, b1⟩, fun o ho => ?_⟩, fun o ho => ?_⟩
      · obtain ⟨o, ho, he⟩ := List.mem_map.1 hm
        exact b2 o ho (by rw [he]; simp)
      · rcases List.mem_cons.1 ho with rfl | ho
        · exact a1
        · exact fun hs => b2 o ho (List.mem_cons_of_mem _ hs)
      · rcases List.mem_cons.1 ho with rfl | ho
        · exact a2
        · exact b3 o ho
    · rintro ⟨⟨⟨a1, a2⟩, a3⟩, a4⟩
      refine ⟨⟨a3 r (by simp), a4 r (by simp)⟩, ⟨a2, fun o ho hs => ?_⟩, fun o ho => a4 o (List.mem_cons_of_mem _ ho)⟩
      rcases List.mem_cons.1 hs with hs | hs
      · exact a1 (by rw [← hs]; exact List.mem_map_of_mem ho)
      · exact a3 o (List.mem_cons_of_mem _ ho) hs
theorem sameN_count (x : Rec) (l : List Rec) : sameN x l = (l.map (·.key)).count x.key := by
  unfold sameN
  rw [List.count_eq_countP, List.countP_map, List.countP_eq_length_filter]
  congr 2
  funext o
  show decide (o.key = x.key) = (o.key == x.key)
  by_cases h : o.key = x.key <;> simp [h]
theorem rended1_eq {W : List Rec} (h : ApartW W) {l : List Rec} (hl : l.length = W.length) : rended1 W l = okOps W [] l := by
  rw [Bool.eq_iff_iff, okOps_iff]
  have hlen : (l.map (·.key)).length = (W.map (·.key)).length := by simp [hl]
  constructor
  · intro hr
    have hr := List.all_eq_true.1 hr
    have h1 : ∀ k ∈ W.map (·.key), k ∈ l.map (·.key) := fun k hk => by
      obtain ⟨x, hx, rfl⟩ := List.mem_map.1 hk
      have := hr x hx
      rw [Bool.and_eq_true] at this
      have h2 := of_decide_eq_true this.2
      rw [sameN_count] at h2
      exact List.count_pos_iff.1 (by rw [h2]; exact Nat.one_pos)
    have hp := perm_of_nodup _ _ h h1 (by omega)
    refine ⟨⟨hp.nodup_iff.2 h, by simp⟩, fun o ho => ?_⟩
    have hk := hp.mem_iff.1 (List.mem_map_of_mem (f := (·.key)) ho)
    obtain ⟨x, hx, he⟩ := List.mem_map.1 hk
    refine ⟨x, by rw [← he]; exact h.find hx, ?_⟩
    have := hr x hx
    rw [Bool.and_eq_true] at this
    have h3 := List.all_eq_true.1 this.1 o ho
    have he' : o.key = x.key := he.symm
    rw [decide_eq_true he'] at h3
    simp only [Bool.not_true, Bool.false_or, Bool.and_eq_true, decide_eq_true_eq] at h3
    exact ⟨h3.1.symm, h3.2.symm⟩
  · rintro ⟨⟨hn, _⟩, hm⟩
    have h1 : ∀ k ∈ l.map (·.key), k ∈ W.map (·.key) := fun k hk => by
      obtain ⟨o, ho, rfl⟩ := List.mem_map.1 hk
      obtain ⟨x, hx, _⟩ := hm o ho
      obtain ⟨h2, h3⟩ := findR_some hx
      rw [← h3]
      exact List.mem_map_of_mem h2
    have hp := perm_of_nodup _ _ hn h1 (by omega)
    refine List.all_eq_true.2 fun x hx => ?_
    rw [Bool.and_eq_true]
    refine ⟨List.all_eq_true.2 fun o ho => ?_, decide_eq_true ?_⟩
    · by_cases he : o.key = x.key
      · obtain ⟨y, hy, h2, h3⟩ := hm o ho
        rw [he, h.find hx] at hy
        cases hy
        simp [he, h2, h3]
      · simp [he]
    · rw [sameN_count, hn.count, if_pos (hp.mem_iff.1 (List.mem_map_of_mem hx))]
/-- What the document asks at a transaction's end: how many entries, the operations of the last one. -/
def rendedB (W : List Rec) (n : Nat) (l : List Rec) : Bool := if 1 < n ∨ (n = 0 ∧ 0 < W.length) ∨ l.length ≠ W.length ∨ (n = 1 ∧ W.length = 0) then false else rended1 W l
def lastOps (L : List Entry) : List Rec := match L.getLast? with | none => [] | some x => x.ops
theorem rendedB_eq {W : List Rec} (h : ApartW W) (L : List Entry) : rendedB W L.length (lastOps L) = endedB W L := by
  match L with
  | [] =>
    show rendedB W 0 [] = decide (W.length = 0)
    unfold rendedB
    by_cases h0 : W.length = 0
    · rw [if_neg (by simp only [List.length_nil]; omega), List.length_eq_zero_iff.1 h0]; rfl
    · rw [if_pos (by omega), decide_eq_false h0]
  | [x] =>
    show rendedB W 1 x.ops = (!decide (W.length = 0) && (decide (x.ops.length = W.length) && okOps W [] x.ops))
    unfold rendedB
    by_cases h0 : W.length = 0
    · rw [if_pos (by omega), decide_eq_true h0]; rfl
    · by_cases h1 : x.ops.length = W.length
      · rw [if_neg (by omega), rended1_eq h h1, decide_eq_false h0, decide_eq_true h1]; rfl
      · rw [if_pos (by omega), decide_eq_false h0, decide_eq_false h1]; rfl
  | x :: y :: t =>
    show rendedB W (x :: y :: t).length _ = false
    unfold rendedB
    rw [if_pos (by simp only [List.length_cons]; omega)]
end Go.Proofs.Ytffianjbljgnaaa

/-! ### RefPr -/
namespace Go.Proofs.Ytffianjbljgnaaa
set_option linter.unusedVariables false
set_option linter.unusedSimpArgs false
open Go.RowKit Go.Maps

def lastF (k : Txt) (o : Option Txt) (p : KV) : Option Txt := if p.1 = k then some p.2 else o
/-- The value of a key, as the document looks for it. -/
def lastV (M : List KV) (k : Txt) : Option Txt := M.foldl (lastF k) none
theorem lastF_none {M : List KV} {k : Txt} (h : ∀ p ∈ M, p.1 ≠ k) (o : Option Txt) : M.foldl (lastF k) o = o := by
  induction M generalizing o with
  | nil => rfl
  | cons p t ih =>
    rw [List.foldl_cons]
    have : lastF k o p = o := by unfold lastF; rw [if_neg (h p (by simp))]
    rw [this]
    exact ih (fun q hq => h q (List.mem_cons_of_mem _ hq)) o
theorem lastV_look {M : List KV} (h : Asc M) (k : Txt) : lastV M k = look M k := by
  have : ∀ (M : List KV) (o : Option Txt), Asc M → M.foldl (lastF k) o = (match look M k with | some v => some v | none => o) := by
    intro M
    induction M with
    | nil => intro o _; rfl
    | cons p t ih =>
      intro o h
      obtain ⟨h1, h2⟩ := List.pairwise_cons.1 h
      rw [List.foldl_cons]
      unfold look
      by_cases c : k = p.1
      · rw [if_pos c]
        have e : lastF k o p = some p.2 := by unfold lastF; rw [if_pos c.symm]
        rw [e, lastF_none (fun q hq e => by have := txt_ne (h1 q hq); rw [e, c] at this; exact this rfl)]
      · rw [if_neg c]
        have e : lastF k o p = o := by unfold lastF; rw [if_neg (fun e => c e.symm)]
        rw [e]
        exact ih o h2
  have h0 := this M none h
  unfold lastV
  rw [h0]
  cases look M k <;> rfl
theorem lastV_next (M : List KV) (k : Txt) (i : Nat) (p : KV) (h : M[i]? = some p) : lastV (M.take (i + 1)) k = if p.1 = k then some p.2 else lastV (M.take i) k := by
  unfold lastV
  rw [List.take_add_one, h]
  simp [List.foldl_append, lastF]
theorem filter_next {α : Type} (f : α → Bool) (M : List α) (i : Nat) (p : α) (h : M[i]? = some p) : (M.take (i + 1)).filter f = (M.take i).filter f ++ if f p then [p] else [] := by
  rw [List.take_add_one, h, List.filter_append]
  congr 1
  show List.filter f [p] = _
  rw [List.filter_cons]
  split <;> simp
theorem all_next {α : Type} (f : α → Bool) (M : List α) (i : Nat) (p : α) (h : M[i]? = some p) : (M.take (i + 1)).all f = ((M.take i).all f && f p) := by
  rw [List.take_add_one, h, List.all_append]
  simp
theorem any_nextR {α : Type} (f : α → Bool) (M : List α) (i : Nat) (p : α) (h : M[i]? = some p) : (M.take (i + 1)).any f = ((M.take i).any f || f p) := by
  rw [List.take_add_one, h, List.any_append]
  simp
theorem sel_next (M : List KV) (lo hi : Txt) (i : Nat) (p : KV) (h : M[i]? = some p) : sel (M.take (i + 1)) lo hi = sel (M.take i) lo hi ++ if inside lo hi p.1 then [p] else [] := filter_next _ M i p h
theorem sel_len (M : List KV) (lo hi : Txt) (i : Nat) : (sel (M.take i) lo hi).length ≤ i := by
  unfold sel
  have := List.length_filter_le (fun p : KV => inside lo hi p.1) (M.take i)
  rw [List.length_take] at this
  omega
theorem matchB_next (x : Rec) (l : List Rec) (i : Nat) (o : Rec) (h : l[i]? = some o) : matchB x (l.take (i + 1)) = (matchB x (l.take i) && (!decide (o.key = x.key) || (decide (o.del = x.del) && decide (o.val = x.val)))) := all_next _ l i o h
theorem sameN_next (x : Rec) (l : List Rec) (i : Nat) (o : Rec) (h : l[i]? = some o) : sameN x (l.take (i + 1)) = sameN x (l.take i) + if o.key = x.key then 1 else 0 := by
  unfold sameN
  rw [filter_next _ l i o h, List.length_append]
  by_cases c : o.key = x.key <;> simp [c]
theorem sameN_le (x : Rec) (l : List Rec) (i : Nat) : sameN x (l.take i) ≤ i := by
  unfold sameN
  have := List.length_filter_le (fun o : Rec => decide (o.key = x.key)) (l.take i)
  rw [List.length_take] at this
  omega
theorem matchB_false {x : Rec} {l : List Rec} {i : Nat} (h : matchB x (l.take i) = false) : matchB x l = false := by
  unfold matchB at *
  rw [List.all_eq_false] at *
  obtain ⟨o, ho, hf⟩ := h
  exact ⟨o, List.mem_of_mem_take ho, hf⟩
theorem rended1_step (W l : List Rec) (i : Nat) (x : Rec) (h : W[i]? = some x) : rended1 (W.drop i) l = ((matchB x l && decide (sameN x l = 1)) && rended1 (W.drop (i + 1)) l) := by
  obtain ⟨h1, rfl⟩ := List.getElem?_eq_some_iff.1 h
  rw [List.drop_eq_getElem_cons h1]
  unfold rended1
  rw [List.all_cons]
theorem ofZ_next (z : List EZ) (ts i : Nat) (q : EZ) (h : z[i]? = some q) : ofZ (z.take (i + 1)) ts = ofZ (z.take i) ts ++ if q.1.ts = ts then [q] else [] := by
  unfold ofZ
  rw [filter_next _ z i q h]
  by_cases c : q.1.ts = ts <;> simp [c]
theorem ofZ_le (z : List EZ) (ts i : Nat) : (ofZ (z.take i) ts).length ≤ i := by
  unfold ofZ
  have := List.length_filter_le (fun q : EZ => decide (q.1.ts = ts)) (z.take i)
  rw [List.length_take] at this
  omega
end Go.Proofs.Ytffianjbljgnaaa

/-! ### Ins3 -/
namespace Go.Proofs.Ytffianjbljgnaaa
set_option linter.unusedVariables false
set_option linter.unusedSimpArgs false
open Go.RowKit

/-- An append of nothing. -/
theorem append_nough (t e ty : TypeId) (ht : Try.prog.underlying t = some (.slice e)) (hinf : ∃ i, Try.prog.info? e = some i) (w : World) (p : Option Addr) (n cap : Nat) (x : Option Addr) (c : Nat) (hn : n ≤ cap) (hp : p = none → n = 0 ∧ cap = 0) :
    (Builtin.append_ #[t, t] ty #[.slice p n cap, .slice x 0 c]).run Try.prog w = .ok (.slice p n cap) w := by
  obtain ⟨i, hi⟩ := hinf
  cases p with
  | none =>
    obtain ⟨rfl, rfl⟩ := hp rfl
    cases x <;> simp [Builtin.append_, run_underlying ht, sizeOf, typeInfo, hi, Builtin.lenOf, Builtin.firstCells, storeCells, loadCells, loadCellsFrom]
  | some p =>
    cases x <;> simp [Builtin.append_, run_underlying ht, sizeOf, typeInfo, hi, Builtin.lenOf, Builtin.firstCells, storeCells, loadCells, loadCellsFrom, hn]
theorem ownsRow_le {w : World} {B B' : Nat} {e : TypeId} {size : Nat} {v : Value} {n : Nat} {cells : List Value} (h : w.ownsRow B e size v n cells) (hb : B' ≤ B) : w.ownsRow B' e size v n cells := by
  refine ⟨h.1, ?_⟩
  rcases h.2 with h2 | ⟨g, cap, cur, e1, hg, h2⟩
  · exact .inl h2
  · exact .inr ⟨g, cap, cur, e1, by omega, h2⟩
/-- An append of whatever many, of none too. -/
theorem own_more (t e ty : TypeId) (z : Value) (size bytes : Nat) (ht : Try.prog.underlying t = some (.slice e)) (hinf : (Try.prog.info? e).map (fun i => (i.zero, i.size, i.bytes)) = some (some z, size, bytes)) (hzs : z.cells.size = size) (hsz : 0 < size) (hby : bytes ≤ 1000)
    {w : World} {B : Nat} {v : Value} {n : Nat} {cells : List Value} (h : w.ownsRow B e size v n cells) (hl : n ≤ 1000000) (hB : B ≤ w.heap.size)
    (x : Option Addr) (m c : Nat) (news : List Value) (hm : m ≤ 1000000) (hnl : news.length = m * size) (hnews : 0 < m → ∃ a, x = some a ∧ ∀ j u, news[j]? = some u → w.cell? (a.add j) = some u) (hone : ∀ u ∈ news, u.oneCell' = true) :
    ∃ v' w', (Builtin.append_ #[t, t] ty #[v, .slice x m c]).run Try.prog w = .ok v' w' ∧ w'.ownsRow B e size v' (n + m) (cells ++ news) ∧ Mod v.ownBlock.toList w w' ∧ ∀ x, v'.ownBlock = some x → v.ownBlock = some x ∨ w.heap.size ≤ x := by
  by_cases h0 : m = 0
  · subst h0
    have : news = [] := List.eq_nil_of_length_eq_zero (by omega)
    subst this
    have hc : ∃ p k, v = .slice p n k ∧ n ≤ k ∧ (p = none → n = 0 ∧ k = 0) := by
      rcases h.2 with ⟨rfl, rfl⟩ | ⟨g, cap, cur, rfl, hg, hh, hcp, hmx, hcs, htk⟩
      · exact ⟨none, 0, rfl, Nat.le_refl _, fun _ => ⟨rfl, rfl⟩⟩
      · exact ⟨_, _, rfl, hcp, fun e => by cases e⟩
    obtain ⟨p, k, rfl, hk, hp⟩ := hc
    refine ⟨_, w, append_nough _ _ _ ht (by obtain ⟨i, hi, _⟩ := info_parts hinf; exact ⟨i, hi⟩) w p n k x c hk hp, ?_, Mod.refl _ _, fun x hx => .inl hx⟩
    rw [List.append_nil]
    exact h
  · obtain ⟨a, hx, hnw⟩ := hnews (by omega)
    subst hx
    exact own_append t e ty z size bytes ht hinf hzs hsz hby h hl hB a m c news hm (by omega) hnl hnw hone
theorem own_form {w : World} {B : Nat} {e : TypeId} {size : Nat} {v : Value} {n : Nat} {cells : List Value} (h : w.ownsRow B e size v n cells) :
    (v = .slice none 0 0 ∧ n = 0) ∨ ∃ g c, v = .slice (some ⟨g, 0, none⟩) n c ∧ B ≤ g ∧ g < w.heap.size ∧ n ≤ c := by
  rcases h.2 with ⟨rfl, rfl⟩ | ⟨g, cap, cur, rfl, hg, hh, hcp, hmx, hcs, htk⟩
  · exact .inl ⟨rfl, rfl⟩
  · exact .inr ⟨g, cap, rfl, hg, (Array.getElem?_eq_some_iff.1 hh).1, hcp⟩
/-- One more value at place k of a row, by three appends: the cells ahead, the value (out of a block of its own), the cells behind. -/
theorem ins3 (t e ty : TypeId) (z : Value) (bytes : Nat) (ht : Try.prog.underlying t = some (.slice e)) (hinf : (Try.prog.info? e).map (fun i => (i.zero, i.size, i.bytes)) = some (some z, 1, bytes)) (hzs : z.cells.size = 1) (hby : bytes ≤ 1000)
    {w : World} {B : Nat} {p : Option Addr} {n c : Nat} {cells : List Value} (h : w.ownsRow B e 1 (.slice p n c) n cells) (hn : n ≤ 100000) (hB : B ≤ w.heap.size) (hone : ∀ u ∈ cells, u.oneCell' = true) (k : Nat) (hk : k ≤ n) (u : Value) (hu : u.oneCell' = true) :
    n ≤ c ∧ ∃ (a1 : Option Addr) (c1 : Nat) (w1 : World), (Builtin.append_ #[t, t] ty #[.slice none 0 0, .slice p k c]).run Try.prog w = .ok (.slice a1 k c1) w1 ∧ Below w.heap.size w w1 ∧
      ∃ (a2 : Option Addr) (c2 : Nat) (w2 : World), (Builtin.append_ #[t, t] ty #[.slice a1 k c1, .slice (some ⟨w1.heap.size, 0, none⟩) 1 1]).run Try.prog (w1.alloc (.cells #[u] e)) = .ok (.slice a2 (k + 1) c2) w2 ∧ Below w.heap.size w w2 ∧
      ∀ p2 cc, (k < n → ∃ g, p = some ⟨g, 0, none⟩ ∧ p2 = some ⟨g, k, none⟩) → ∃ (a3 : Option Addr) (c3 : Nat) (w3 : World), (Builtin.append_ #[t, t] ty #[.slice a2 (k + 1) c2, .slice p2 (n - k) cc]).run Try.prog w2 = .ok (.slice a3 (n + 1) c3) w3 ∧
        w3.ownsRow B e 1 (.slice a3 (n + 1) c3) (n + 1) (cells.take k ++ u :: cells.drop k) ∧ Below w.heap.size w w3 := by
  have hlen : cells.length = n := by have := h.1; omega
  have hform : n ≤ c ∧ (0 < n → ∃ g, p = some ⟨g, 0, none⟩ ∧ g < w.heap.size ∧ ∀ j v, cells[j]? = some v → w.cell? ⟨g, j, none⟩ = some v) := by
    rcases h.2 with ⟨h3, h0⟩ | ⟨g, cap, cur, h3, hg, hh, hc1, hc2, hs, htk⟩
    · simp only [Value.slice.injEq] at h3
      obtain ⟨rfl, _, rfl⟩ := h3
      subst h0
      exact ⟨Nat.le_refl _, fun h => absurd h (Nat.lt_irrefl 0)⟩
    · simp only [Value.slice.injEq, true_and] at h3
      obtain ⟨rfl, rfl⟩ := h3
      refine ⟨hc1, fun _ => ⟨g, rfl, (Array.getElem?_eq_some_iff.1 hh).1, fun j v hj => ?_⟩⟩
      have hb : Blk w g (cells ++ cur.toList.drop (n * 1)) e := by unfold Blk; rw [hh, ← htk, List.take_append_drop]
      rw [hb.cell, List.getElem?_append_left (List.getElem?_eq_some_iff.1 hj).1]; exact hj
  refine ⟨hform.1, ?_⟩
  have ltk : (cells.take k).length = k := by rw [List.length_take]; omega
  have ldr : (cells.drop k).length = n - k := by rw [List.length_drop]; omega
  obtain ⟨v1, w1, hrun1, hown1, hm1, hf1⟩ := own_more t e ty z 1 bytes ht hinf hzs (by omega) hby (World.ownsRow_nil w w.heap.size e 1) (by omega) (Nat.le_refl _) p k c (cells.take k) (by omega) (by omega) (fun h0 => by
      obtain ⟨g, e1, hg, hc⟩ := hform.2 (by omega)
      exact ⟨_, e1, fun j v hj => by
        rw [addr_add', Nat.zero_add]
        refine hc j v ?_
        rw [List.getElem?_take] at hj
        split at hj
        · exact hj
        · cases hj⟩) (fun v hv => hone v (List.mem_of_mem_take hv))
  have hb1 : Below w.heap.size w w1 := hm1.below (fun y hy => by simp [Value.ownBlock] at hy) (Nat.le_refl _)
  rw [Nat.zero_add, List.nil_append] at hown1
  obtain ⟨a1, c1, rfl⟩ := own_slice hown1
  refine ⟨a1, c1, w1, hrun1, hb1, ?_⟩
  have hs1 := hb1.size
  obtain ⟨v2, w2, hrun2, hown2, hm2, hf2⟩ := own_more t e ty z 1 bytes ht hinf hzs (by omega) hby (hown1.alloc (.cells #[u] e)) (by omega) (by rw [World.size_alloc]; omega) (some ⟨w1.heap.size, 0, none⟩) 1 1 [u] (by omega) rfl (fun _ => ⟨_, rfl, fun j v hj => by
      rw [addr_add', Nat.zero_add, World.cell?_alloc_new]
      simpa using hj⟩) (fun v hv => by simp only [List.mem_singleton] at hv; subst hv; exact hu)
  have hb1a : Below w.heap.size w (w1.alloc (.cells #[u] e)) := hb1.trans (((Below.refl _ _).alloc (Nat.le_refl _) _).mono hs1)
  have hb2 : Below w.heap.size w w2 := hb1a.trans (hm2.below (fun y hy => (hown1.lt y (by simpa using hy)).1) (by rw [World.size_alloc]; omega))
  obtain ⟨a2, c2, rfl⟩ := own_slice hown2
  refine ⟨a2, c2, w2, hrun2, hb2, fun p2 cc hp2 => ?_⟩
  have hs2 := hb2.size
  obtain ⟨v3, w3, hrun3, hown3, hm3, hf3⟩ := own_more t e ty z 1 bytes ht hinf hzs (by omega) hby hown2 (by omega) hs2 p2 (n - k) cc (cells.drop k) (by omega) (by omega) (fun h0 => by
      obtain ⟨g, e1, hg, hc⟩ := hform.2 (by omega)
      obtain ⟨g', e2, e3⟩ := hp2 (by omega)
      rw [e1] at e2
      simp only [Option.some.injEq, Addr.mk.injEq, and_true] at e2
      subst e2
      exact ⟨_, e3, fun j v hj => by
        rw [addr_add', hb2.cell (p := ⟨g, k + j, none⟩) hg]
        refine hc _ v ?_
        rw [List.getElem?_drop] at hj
        exact hj⟩) (fun v hv => hone v (List.mem_of_mem_drop hv))
  have e9 : k + 1 + (n - k) = n + 1 := by omega
  rw [e9, List.append_assoc] at hown3
  obtain ⟨a3, c3, rfl⟩ := own_slice hown3
  exact ⟨a3, c3, w3, hrun3, ownsRow_le hown3 hB, hb2.trans (hm3.below (fun y hy => (hown2.lt y (by simpa using hy)).1) hs2)⟩
end Go.Proofs.Ytffianjbljgnaaa

/-! ### RfPut -/
namespace Go.Proofs.Ytffianjbljgnaaa
set_option linter.unusedVariables false
set_option linter.unusedSimpArgs false
open Go.RowKit Go.Maps

theorem rput_step (M : List KV) (k v : Txt) (done : Bool) (i : Nat) (p : KV) (h : M[i]? = some p) : rput (M.drop i) k v done = if p.1 = k then rput (M.drop (i + 1)) k v done else if done = false ∧ k < p.1 then (k, v) :: p :: rput (M.drop (i + 1)) k v true else p :: rput (M.drop (i + 1)) k v done := by
  obtain ⟨h1, rfl⟩ := List.getElem?_eq_some_iff.1 h
  rw [List.drop_eq_getElem_cons h1]
  rfl
/-- What put hands back: a row of its own. -/
def PutREnd (P : List KV) (w : World) (e : Ending) (w' : World) : Prop :=
  ∃ (a : Option Addr) (c : Nat), e = .returned (.slice a P.length c) ∧ RowsAt w' a P.length c 2 (pairsCells P) ∧ (∀ g, (Value.slice a P.length c).ownBlock = some g → w.heap.size ≤ g ∧ g < w'.heap.size) ∧ Below w.heap.size w w'
/-- What the loop of put has gathered. -/
structure PutSt (w0 w : World) (v : Value) (D : List KV) : Prop where
  own : w.ownsRow w0.heap.size 47 2 v D.length (pairsCells D)
  below : Below w0.heap.size w0 w
theorem PutSt.start (w : World) : PutSt w w (.slice none 0 0) [] := ⟨⟨rfl, .inl ⟨rfl, rfl⟩⟩, Below.refl _ _⟩
theorem PutSt.add {w0 w : World} {v : Value} {D : List KV} (h : PutSt w0 w v D) (hD : D.length ≤ 900000) (p : KV) :
    ∃ v' w', (Builtin.append_ #[33, 33] 33 #[v, .slice (some ⟨w.heap.size, 0, none⟩) 1 1]).run Try.prog (w.alloc (.cells #[.string ⟨p.1.toArray⟩, .string ⟨p.2.toArray⟩] 47)) = .ok v' w' ∧ PutSt w0 w' v' (D ++ [p]) := by
  have hbn := (Below.refl w.heap.size w).alloc (Nat.le_refl _) (.cells #[.string ⟨p.1.toArray⟩, .string ⟨p.2.toArray⟩] 47)
  obtain ⟨v', w', hrun, hown', hmod, hblk⟩ := own_append 33 47 33 _ 2 32 Try.underlying33 info_pair rfl (by decide) (by decide) (h.own.alloc (.cells #[.string ⟨p.1.toArray⟩, .string ⟨p.2.toArray⟩] 47))
    (by omega) (by have := h.below.size; simp; omega) ⟨w.heap.size, 0, none⟩ 1 1 (pairCells p) (by omega) (by omega) rfl
    (fun i u hi => by rw [addr_add', Nat.zero_add, World.cell?_alloc_new]; simpa [pairCells] using hi)
    (by intro u hu; simp only [pairCells, List.mem_cons, List.not_mem_nil, or_false] at hu; rcases hu with rfl | rfl <;> rfl)
  refine ⟨v', w', hrun, ?_, ?_⟩
  · rw [List.length_append, pairs_append]
    simpa [pairsCells] using hown'
  · exact h.below.trans (((Mod.of_below hbn).trans hmod).below (fun x hx => (h.own.lt x (by simpa using hx)).1) h.below.size)
set_option maxRecDepth 100000 in
set_option maxHeartbeats 8000000 in
theorem putR_any (w : World) (a : Option Addr) (n c : Nat) (M : List KV) (h : RowsAt w a n c 2 (pairsCells M)) (hn : n = M.length) (hmax : n ≤ 100000) (k v : Txt) (del : Bool) :
    Calls Try.prog 38 #[.slice a n c, .string ⟨k.toArray⟩, .string ⟨v.toArray⟩, .bool del] w (PutREnd (rput M k v del) w) := by
  have HH := Lib.hid h
  have HN := Lib.hid hn
  have HSt := Lib.hid (PutSt.start w)
  clear h hn
  go_enter Try.func38, Try.ntmps38
  go_wp2_with fail
  go_loopw [9, 10, 11] (fun s9 s10 s11 wr => ∃ (i : Nat) (D : List KV) (done : Bool), i ≤ n ∧ s11 = .int .i64 i ∧ s10 = .bool done ∧ D.length ≤ 2 * i ∧ rput M k v del = D ++ rput (M.drop i) k v done ∧ PutSt w wr s9 D) (fun _ _ s11 _ => n - (intOf s11).toNat)
  case atStart => exact ⟨0, [], del, by omega, rfl, rfl, by simp, by simp, HSt.out⟩
  case round =>
    clear HSt
    obtain ⟨i, D, done, hi, rfl, rfl, hDl, hR, hS⟩ := hrel
    have HS := Lib.hid hS
    have HR := Lib.hid hR
    have HDl := Lib.hid hDl
    clear hS hR hDl
    by_cases hlt : i < n
    · have hil : (i : Int) < (n : Int) := by omega
      obtain ⟨p, g, o, hp, _, rfl, hg, c0, c1⟩ := pairs_row (HH.out.on HS.out.below) HN.out hlt
      have HSp := Lib.hid (rput_step M k v done i p hp)
      have HP := Lib.hid hp
      have HG := Lib.hid hg
      have HC0 := Lib.hid c0
      have HC1 := Lib.hid c1
      obtain ⟨pk, pv⟩ := p
      simp only at c0 c1 HSp HC0 HC1 HP
      clear hp hg
      by_cases hk : pk = k
      · have e1 : ((⟨pk.toArray⟩ : ByteArray) == ⟨k.toArray⟩) = true := by rw [bytes_beq]; simp [hk]
        have e2 : (pk == k) = true := by simp [hk]
        have HX := Lib.hid (show rput M k v del = D ++ rput (M.drop (i + 1)) k v done by rw [HR.out, HSp.out, if_pos hk])
        clear hk HR HSp
        go_wp2_with fail
        go_roundw
        case rel => exact ⟨i + 1, D, done, by omega, by go_num, rfl, by have := HDl.out; omega, HX.out, HS.out⟩
        case measure => simp [intOf]; omega
      · have e1 : ((⟨pk.toArray⟩ : ByteArray) == ⟨k.toArray⟩) = false := by rw [bytes_beq]; simp [hk]
        have e2 : (pk == k) = false := by simp [hk]
        cases done with
        | true =>
          have HX := Lib.hid (show rput M k v del = (D ++ [(pk, pv)]) ++ rput (M.drop (i + 1)) k v true by rw [HR.out, HSp.out, if_neg hk, if_neg (by simp)]; simp)
          clear hk HR HSp
          obtain ⟨v', w', hrun, hS'⟩ := (HS.out).add (by have := HDl.out; omega) (pk, pv)
          have HS' := Lib.hid hS'
          clear hS'
          go_wp2_with (at_builtin; (with_reducible refine wpList_append_run rfl _ _ _ rfl _ _ _ _ ?_ ?_ hrun ?_); rfl; rfl)
          go_roundw
          case rel => exact ⟨i + 1, _, true, by omega, by go_num, rfl, by have := HDl.out; rw [List.length_append]; simp only [List.length_cons, List.length_nil]; omega, HX.out, HS'.out⟩
          case measure => simp [intOf]; omega
        | false =>
          by_cases hkp : k < pk
          · have f1 : Op.bytesLess pk k = false := by rw [Go.Proofs.bytesLess_eq]; exact decide_eq_false (fun h => txt_lt_irrefl k (txt_lt_trans hkp h))
            have HX := Lib.hid (show rput M k v del = ((D ++ [(k, v)]) ++ [(pk, pv)]) ++ rput (M.drop (i + 1)) k v true by rw [HR.out, HSp.out, if_neg hk, if_pos ⟨rfl, hkp⟩]; simp)
            clear hk hkp HR HSp
            obtain ⟨v1, w1, hrun, hS1⟩ := HS.out.add (by have := HDl.out; omega) (k, v)
            have HS1 := Lib.hid hS1
            have HB1 := Lib.hid (show Below w.heap.size w w1 from hS1.below)
            clear hS1
            go_upto_region 10 with (at_builtin; (with_reducible refine wpList_append_run rfl _ _ _ rfl _ _ _ _ ?_ ?_ hrun ?_); rfl; rfl)
            clear hrun c0 c1
            obtain ⟨p2, g2, o2, hp2, _, e2', hg2, c0, c1⟩ := pairs_row (HH.out.on HB1.out) HN.out hlt
            rw [HP.out] at hp2
            cases hp2
            cases e2'
            simp only at c0 c1
            clear hg2
            obtain ⟨v', w', hrun, hS'⟩ := (HS1.out).add (by have := HDl.out; rw [List.length_append]; simp only [List.length_cons, List.length_nil]; omega) (pk, pv)
            have HS' := Lib.hid hS'
            clear hS'
            go_wp2_with (at_builtin; (with_reducible refine wpList_append_run rfl _ _ _ rfl _ _ _ _ ?_ ?_ hrun ?_); rfl; rfl)
            go_roundw
            case rel => exact ⟨i + 1, _, true, by omega, by go_num, rfl, by have := HDl.out; rw [List.length_append, List.length_append]; simp only [List.length_cons, List.length_nil]; omega, HX.out, HS'.out⟩
            case measure => simp [intOf]; omega
          · have f1 : Op.bytesLess pk k = true := by rw [Go.Proofs.bytesLess_eq]; exact decide_eq_true (Classical.byContradiction fun h => hkp (txt_lt_of h hk))
            have HX := Lib.hid (show rput M k v del = (D ++ [(pk, pv)]) ++ rput (M.drop (i + 1)) k v false by rw [HR.out, HSp.out, if_neg hk, if_neg (fun h => hkp h.2)]; simp)
            clear hk hkp HR HSp
            obtain ⟨v', w', hrun, hS'⟩ := (HS.out).add (by have := HDl.out; omega) (pk, pv)
            have HS' := Lib.hid hS'
            clear hS'
            go_wp2_with (at_builtin; (with_reducible refine wpList_append_run rfl _ _ _ rfl _ _ _ _ ?_ ?_ hrun ?_); rfl; rfl)
            go_roundw
            case rel => exact ⟨i + 1, _, false, by omega, by go_num, rfl, by have := HDl.out; rw [List.length_append]; simp only [List.length_cons, List.length_nil]; omega, HX.out, HS'.out⟩
            case measure => simp [intOf]; omega
    · have hil : ¬ (i : Int) < (n : Int) := by omega
      have hR := HR.out
      rw [List.drop_eq_nil_of_le (by have := HN.out; omega)] at hR
      cases done with
      | true =>
        have HX := Lib.hid (show rput M k v del = D from by rw [hR]; exact List.append_nil D)
        clear hR HR
        obtain ⟨a3, c3, rfl⟩ := own_slice HS.out.own
        have HE := Lib.hid (show PutREnd (rput M k v del) w (.returned (.slice a3 D.length c3)) wr from by
          rw [HX.out]
          exact ⟨a3, c3, rfl, (own_rows HS.out.own).1, HS.out.own.lt, HS.out.below⟩)
        go_wp2_with fail
        go_ret
        exact HE.out
      | false =>
        have HX := Lib.hid (show rput M k v del = D ++ [(k, v)] from hR)
        clear hR HR
        obtain ⟨v1, w1, hrun, hS1⟩ := HS.out.add (by have := HDl.out; omega) (k, v)
        have HO1 := hS1.own
        obtain ⟨a3, c3, rfl⟩ := own_slice hS1.own
        have HE := Lib.hid (show PutREnd (rput M k v del) w (.returned (.slice a3 (D ++ [(k, v)]).length c3)) w1 from by
          rw [HX.out]
          exact ⟨a3, c3, rfl, (own_rows hS1.own).1, hS1.own.lt, hS1.below⟩)
        clear hS1 HO1
        obtain ⟨ln, hln⟩ : ∃ x, (D ++ [(k, v)]).length = x := ⟨_, rfl⟩
        rw [hln] at hrun HE
        clear hln
        go_wp2_with (at_builtin; (with_reducible refine wpList_append_run rfl _ _ _ rfl _ _ _ _ ?_ ?_ hrun ?_); rfl; rfl)
        go_ret
        exact HE.out
end Go.Proofs.Ytffianjbljgnaaa

/-! ### RfAppl -/
namespace Go.Proofs.Ytffianjbljgnaaa
set_option linter.unusedVariables false
set_option linter.unusedSimpArgs false
open Go.RowKit Go.Maps

theorem pairs_one : ∀ (l : List KV), ∀ u ∈ pairsCells l, u.oneCell' = true := by
  intro l u hu
  unfold pairsCells at hu
  obtain ⟨p, _, hp⟩ := List.mem_flatMap.1 hu
  simp only [pairCells, List.mem_cons, List.not_mem_nil, or_false] at hp
  rcases hp with rfl | rfl <;> rfl
/-- A copy of pairs behind none. -/
theorem copy_run (w : World) (am : Option Addr) (nm cm : Nat) (M : List KV) (hM : RowsAt w am nm cm 2 (pairsCells M)) (eM : nm = M.length) (hnm : nm ≤ 100000) :
    ∃ (a : Option Addr) (c : Nat) (w' : World), (Builtin.append_ #[33, 33] 33 #[.slice (some ⟨w.heap.size, 0, none⟩) 0 0, .slice am nm cm]).run Try.prog (w.alloc (.cells #[] 47)) = .ok (.slice a nm c) w' ∧ RowsAt w' a nm c 2 (pairsCells M) ∧ (∀ g o, a = some ⟨g, o, none⟩ → w.heap.size ≤ g) ∧ Below w.heap.size w w' := by
  have hbn := (Below.refl w.heap.size w).alloc (Nat.le_refl _) (.cells #[] 47)
  have hown : (w.alloc (.cells #[] 47)).ownsRow w.heap.size 47 2 (.slice (some ⟨w.heap.size, 0, none⟩) 0 0) 0 [] := by
    refine ⟨rfl, .inr ⟨w.heap.size, 0, #[], rfl, Nat.le_refl _, ?_, Nat.le_refl _, by decide, rfl, rfl⟩⟩
    show (w.heap.push _)[w.heap.size]? = _
    simp
  obtain ⟨v', w', hrun, hown', hmod, hblk⟩ := own_more 33 47 33 _ 2 32 Try.underlying33 info_pair rfl (by decide) (by decide) hown (by omega) (by simp) am nm cm (pairsCells M) (by omega) (by rw [pairs_length, eM])
    (fun h0 => by
      obtain ⟨g, o, e, hg, hc⟩ := (hM.on hbn).at_ h0
      exact ⟨_, e, fun j u hj => by rw [addr_add']; exact hc j u hj⟩) (pairs_one M)
  rw [Nat.zero_add, List.nil_append] at hown'
  obtain ⟨a, c, rfl⟩ := own_slice hown'
  exact ⟨a, c, w', hrun, (own_rows hown').1, fun g o e => (hown'.lt g (by rw [e]; rfl)).1, (Below.refl _ _).trans (((Mod.of_below hbn).trans hmod).below (fun x hx => by simp [Value.ownBlock] at hx; omega) (Nat.le_refl _))⟩
set_option maxRecDepth 100000 in
set_option maxHeartbeats 8000000 in
theorem applyR_any (w : World) (am : Option Addr) (nm cm : Nat) (M : List KV) (hM : RowsAt w am nm cm 2 (pairsCells M)) (eM : nm = M.length) (hnm : nm ≤ 50000) (hA : Asc M) (e : Ent) (x : Entry) (hE : EntIs w e x) (hx : x.ops.length ≤ 1000) :
    Calls Try.prog 17 #[.slice am nm cm, .agg #[.int .u64 (e.ts : Nat), .int .u64 (e.first : Nat), .slice e.a e.n e.c]] w (PairsEnd (x.ops.foldl app M) w) := by
  have hb0 := (Below.refl w.heap.size w).alloc (Nat.le_refl _) (.cells #[.int .u64 (e.ts : Nat), .int .u64 (e.first : Nat), .slice e.a e.n e.c] 40)
  have hEb : Blk (w.alloc (.cells #[.int .u64 (e.ts : Nat), .int .u64 (e.first : Nat), .slice e.a e.n e.c] 40)) w.heap.size (entCells e) 40 := Blk.new w (entCells e) _
  obtain ⟨a1, c1, w1, hrun, hrow, hold, hb1⟩ := copy_run _ am nm cm M (hM.on hb0) eM (by omega)
  rw [World.size_alloc] at hrun hb1 hold
  have HOld := Lib.hid (show ∀ g o, a1 = some ⟨g, o, none⟩ → w.heap.size ≤ g from fun g o e => by have := hold g o e; omega)
  have HB1 := Lib.hid (hb0.trans (hb1.mono (by omega)))
  have HEb := Lib.hid (show Blk w1 w.heap.size (entCells e) 40 from hEb.of_block (hb1.block _ (by omega)))
  have HE := Lib.hid hE
  have HRow := Lib.hid hrow
  have HA := Lib.hid hA
  have hen : e.n ≤ 1000 := by rw [hE.n]; exact hx
  have HLen := Lib.hid eM
  clear hM hE hb0 hEb hb1 hrow hA hold eM
  go_enter Try.func17, Try.ntmps17
  go_wp2_with (at_builtin; (with_reducible refine wpList_append_run rfl _ _ _ rfl _ _ _ _ ?_ ?_ hrun ?_); rfl; rfl)
  clear hrun
  go_loopw [5, 6] (fun so si wr => ∃ (i : Nat) (M2 : List KV) (a2 : Option Addr) (n2 c2 : Nat), i ≤ e.n ∧ si = .int .i64 i ∧ so = .slice a2 n2 c2 ∧ n2 = M2.length ∧ M2.length ≤ nm + i ∧ Asc M2 ∧ (x.ops.take i).foldl app M = M2 ∧ RowsAt wr a2 n2 c2 2 (pairsCells M2) ∧ (∀ g o, a2 = some ⟨g, o, none⟩ → w.heap.size ≤ g) ∧ Below w.heap.size w wr ∧ Blk wr w.heap.size (entCells e) 40) (fun _ si _ => e.n - (intOf si).toNat)
  case atStart => exact ⟨0, M, a1, nm, c1, by omega, rfl, rfl, HLen.out, by have := HLen.out; omega, HA.out, rfl, HRow.out, HOld.out, HB1.out, HEb.out⟩
  case round =>
    clear HEb HRow HB1 HA HOld
    obtain ⟨i, M2, a2, n2, c2, hi, rfl, rfl, e2, hl2, hA2, hM2, hrow2, hold2, hb2, hE2⟩ := hrel
    have z2 : wr.cell? ⟨w.heap.size, 2, none⟩ = some (.slice e.a e.n e.c) := by rw [hE2.cell]; rfl
    have HB := Lib.hid hb2
    have HRow := Lib.hid hrow2
    have HA2 := Lib.hid hA2
    have HM2 := Lib.hid hM2
    have HE2 := Lib.hid hE2
    have HO2 := Lib.hid hold2
    have HE2n := Lib.hid e2
    have hn2 : n2 ≤ nm + i := by omega
    clear hold2 e2
    by_cases hlt : i < e.n
    · have hil : (i : Int) < (e.n : Int) := by omega
      obtain ⟨r, g2, o2, hr, hrl, ha2, hg2, d0, d1, d2, d3⟩ := recs_row (HE.out.rows.on hb2) HE.out.n hlt
      have HP := Lib.hid (show ∀ w', Below wr.heap.size wr w' → Calls Try.prog 38 #[.slice a2 n2 c2, .string ⟨r.key.toArray⟩, .string ⟨r.val.toArray⟩, .bool r.del] w' (PutREnd (app M2 r) w') from fun w' hb => by
        have := putR_any w' a2 n2 c2 M2 (hrow2.on hb) HE2n.out (by omega) r.key r.val r.del
        rw [rput_app hA2 r] at this
        exact this)
      have HNext := Lib.hid (show (x.ops.take (i + 1)).foldl app M = app M2 r by rw [List.take_add_one, hr, List.foldl_append, hM2]; rfl)
      have HLn := Lib.hid (show (app M2 r).length ≤ nm + (i + 1) by have := app_length hA2 r; omega)
      have HAn := Lib.hid (app_asc hA2 r)
      have HG := Lib.hid hg2
      have HF := Lib.hid (show ∀ w', Below wr.heap.size wr w' → (w'.cell? ⟨w.heap.size, 2, none⟩ = some (.slice (some ⟨g2, o2, none⟩) e.n e.c) ∧ w'.cell? ⟨g2, o2 + i * 4, none⟩ = some (.string ⟨r.key.toArray⟩) ∧ w'.cell? ⟨g2, o2 + i * 4 + 2, none⟩ = some (.bool r.del) ∧ w'.cell? ⟨g2, o2 + i * 4 + 3, none⟩ = some (.string ⟨r.val.toArray⟩)) from
        fun w' hb => ⟨by rw [(HE2.out.on hb).cell, ← ha2]; rfl, (hb.cell (p := ⟨g2, o2 + i * 4, none⟩) hg2).trans d0, (hb.cell (p := ⟨g2, o2 + i * 4 + 2, none⟩) hg2).trans d2, (hb.cell (p := ⟨g2, o2 + i * 4 + 3, none⟩) hg2).trans d3⟩)
      rw [ha2] at z2
      clear hr hrl hb2 hrow2 hA2 hM2 hE2 hg2 d0 d1 d2 d3 ha2
      go_upto_region 5 with fail
      clear z2
      refine wp_region_settle_then 19 (Below wr.heap.size wr) (by kernel_rfl) (by kernel_rfl) (by kernel_rfl) (by kernel_rfl) (by kernel_rfl) (below_drew (Below.refl _ _)) ?_
      repeat (first
        | (refine settledL_not ?_ ?_
           · rfl
           simp only [Act.put, List.setIfInBounds_toArray, List.set_cons_zero, List.set_cons_succ])
        | (refine settledL_val (v := ?_) ?_ (fun w' hS => ?_) ?_
           rotate_left
           · rfl
           · obtain ⟨k0, k1, k2, k3⟩ := HF.out w' hS
             go_simp
             with_reducible rfl
           simp only [Act.put, List.setIfInBounds_toArray, List.set_cons_zero, List.set_cons_succ]))
      refine settledL_end (fun w2 hS => ?_)
      have HC := Lib.hid (HP.out w2 hS)
      have HS2 := Lib.hid (HB.out.trans (hS.mono HB.out.size))
      have HE3 := Lib.hid (HE2.out.on hS)
      have hws := HB.out.size
      have hs2 := hS.size
      clear hS HF HP
      refine seq_step (by rfl) (fun K hK => ?_)
      go_simp
      refine HC.out.mono ?_
      rintro e' w3 ⟨a3, c3, rfl, hrow3, hold3, hb3⟩
      have HRow3 := Lib.hid hrow3
      have HOld3 := Lib.hid (show ∀ g o, a3 = some ⟨g, o, none⟩ → w.heap.size ≤ g from fun g o e => by have := (hold3 g (by rw [e]; rfl)).1; omega)
      have HB3 := Lib.hid (HS2.out.trans (hb3.mono (by omega)))
      have HE4 := Lib.hid (HE3.out.on hb3)
      clear hrow3 hold3 hb3 HC
      refine hK.out _ _ ?_
      clear hK K
      refine seq_step (by rfl) (fun K hK => ?_)
      go_simp
      refine hK.out _ _ (seq_nil ?_)
      clear hK K
      go_wp2_with fail
      go_roundw
      case rel => exact ⟨i + 1, app M2 r, a3, _, c3, by omega, by go_num, rfl, rfl, HLn.out, HAn.out, HNext.out, HRow3.out, HOld3.out, HB3.out, HE4.out⟩
      case measure => simp [intOf]; omega
    · have hil : ¬ (i : Int) < (e.n : Int) := by omega
      have hin : i = x.ops.length := by have := HE.out.n; omega
      have HEnd := Lib.hid (show PairsEnd (x.ops.foldl app M) w (.returned (.slice a2 n2 c2)) wr from by
        have e3 : x.ops.foldl app M = M2 := by rw [← hM2, hin, List.take_of_length_le (Nat.le_refl _)]
        have hrow := HRow.out
        rw [HE2n.out] at hrow ⊢
        rw [e3]
        exact ⟨a2, c2, rfl, hrow, HO2.out, HB.out⟩)
      clear hb2 hrow2 hA2 hM2 hE2
      go_wp2_with fail
      go_ret
      exact HEnd.out
end Go.Proofs.Ytffianjbljgnaaa

/-! ### PickP -/
namespace Go.Proofs.Ytffianjbljgnaaa
set_option linter.unusedVariables false
set_option linter.unusedSimpArgs false
open Go.RowKit Go.Sort Go.Shelf Go.Proofs

section
variable {α : Type}
/-- What is not yet done. -/
def remL : List Bool → List α → List α
  | b :: d, x :: l => if b then remL d l else x :: remL d l
  | _, _ => []
theorem remL_start (l : List α) : remL (List.replicate l.length false) l = l := by
  induction l with
  | nil => rfl
  | cons x t ih =>
    show (if false = true then _ else x :: remL (List.replicate t.length false) t) = _
    rw [ih]; rfl
theorem remL_mem {d : List Bool} {l : List α} {y : α} (h : y ∈ remL d l) : ∃ j : Nat, d[j]? = some false ∧ l[j]? = some y := by
  induction d generalizing l with
  | nil => simp [remL] at h
  | cons b d ih =>
    cases l with
    | nil => simp [remL] at h
    | cons x l =>
      cases b with
      | true =>
        have h' : y ∈ remL d l := h
        obtain ⟨j, h1, h2⟩ := ih h'
        exact ⟨j + 1, by simpa using h1, by simpa using h2⟩
      | false =>
        have h' : y ∈ x :: remL d l := h
        rcases List.mem_cons.1 h' with rfl | h'
        · exact ⟨0, rfl, rfl⟩
        · obtain ⟨j, h1, h2⟩ := ih h'
          exact ⟨j + 1, by simpa using h1, by simpa using h2⟩
theorem remL_none {d : List Bool} {l : List α} (hl : d.length = l.length) (h : remL d l = []) (j : Nat) : d[j]? ≠ some false := by
  intro hj
  induction d generalizing l j with
  | nil => simp at hj
  | cons b d ih =>
    cases l with
    | nil => simp at hl
    | cons x l =>
      cases b with
      | true =>
        have h' : remL d l = [] := h
        cases j with
        | zero => simp at hj
        | succ j => exact ih (by simpa using hl) h' j (by simpa using hj)
      | false =>
        have h' : x :: remL d l = [] := h
        cases h'
theorem remL_pick {d : List Bool} {l : List α} {i : Nat} {x : α} (hd : d[i]? = some false) (hl : l[i]? = some x) :
    ∃ A B, remL d l = A ++ x :: B ∧ remL (d.set i true) l = A ++ B ∧ (∀ y ∈ A, ∃ j : Nat, j < i ∧ d[j]? = some false ∧ l[j]? = some y) := by
  induction d generalizing l i with
  | nil => simp at hd
  | cons b d ih =>
    cases l with
    | nil => simp at hl
    | cons z l =>
      cases i with
      | zero =>
        simp only [List.getElem?_cons_zero, Option.some.injEq] at hd hl
        subst hd hl
        exact ⟨[], remL d l, rfl, rfl, by simp⟩
      | succ i =>
        obtain ⟨A, B, h1, h2, h3⟩ := ih (l := l) (i := i) (by simpa using hd) (by simpa using hl)
        cases b with
        | true =>
          refine ⟨A, B, h1, h2, fun y hy => ?_⟩
          obtain ⟨j, j1, j2, j3⟩ := h3 y hy
          exact ⟨j + 1, by omega, by simpa using j2, by simpa using j3⟩
        | false =>
          refine ⟨z :: A, B, ?_, ?_, fun y hy => ?_⟩
          · show z :: remL d l = _
            rw [h1]; rfl
          · show z :: remL (d.set i true) l = _
            rw [h2]; rfl
          · rcases List.mem_cons.1 hy with rfl | hy
            · exact ⟨0, by omega, rfl, rfl⟩
            · obtain ⟨j, j1, j2, j3⟩ := h3 y hy
              exact ⟨j + 1, by omega, by simpa using j2, by simpa using j3⟩
end
/-- What the search has found as far as i: nothing is left there, or the first least. -/
def Found (d : List Bool) (l : List Entry) (i : Nat) : Option Nat → Prop
  | none => ∀ j, j < i → d[j]? ≠ some false
  | some k => k < i ∧ d[k]? = some false ∧ ∃ x, l[k]? = some x ∧ (∀ j y, j < i → d[j]? = some false → l[j]? = some y → x.ts ≤ y.ts) ∧ ∀ j y, j < k → d[j]? = some false → l[j]? = some y → x.ts < y.ts
theorem Found.start (d : List Bool) (l : List Entry) : Found d l 0 none := fun j h => absurd h (Nat.not_lt_zero _)
theorem Found.skip {d : List Bool} {l : List Entry} {i : Nat} {o : Option Nat} (h : Found d l i o) (hd : d[i]? = some true) : Found d l (i + 1) o := by
  cases o with
  | none =>
    intro j hj e
    rcases Nat.lt_or_ge j i with h1 | h1
    · exact h j h1 e
    · have : j = i := by omega
      subst this
      rw [hd] at e
      cases e
  | some k =>
    obtain ⟨h1, h2, x, h3, h4, h5⟩ := h
    refine ⟨by omega, h2, x, h3, fun j y hj e hy => ?_, h5⟩
    rcases Nat.lt_or_ge j i with h6 | h6
    · exact h4 j y h6 e hy
    · have : j = i := by omega
      subst this
      rw [hd] at e
      cases e
theorem Found.first {d : List Bool} {l : List Entry} {i : Nat} {x : Entry} (h : Found d l i none) (hd : d[i]? = some false) (hx : l[i]? = some x) : Found d l (i + 1) (some i) := by
  refine ⟨by omega, hd, x, hx, fun j y hj e hy => ?_, fun j y hj e hy => absurd e (h j hj)⟩
  rcases Nat.lt_or_ge j i with h1 | h1
  · exact absurd e (h j h1)
  · have : j = i := by omega
    subst this
    rw [hx] at hy
    cases hy
    exact Nat.le_refl _
theorem Found.less {d : List Bool} {l : List Entry} {i k : Nat} {x y : Entry} (h : Found d l i (some k)) (hd : d[i]? = some false) (hx : l[i]? = some x) (hy : l[k]? = some y) (hlt : x.ts < y.ts) : Found d l (i + 1) (some i) := by
  obtain ⟨h1, h2, z, h3, h4, h5⟩ := h
  rw [hy] at h3
  cases h3
  refine ⟨by omega, hd, x, hx, fun j u hj e hu => ?_, fun j u hj e hu => ?_⟩
  · rcases Nat.lt_or_ge j i with h6 | h6
    · have := h4 j u h6 e hu
      omega
    · have : j = i := by omega
      subst this
      rw [hx] at hu
      cases hu
      exact Nat.le_refl _
  · have := h4 j u hj e hu
    omega
theorem Found.keep {d : List Bool} {l : List Entry} {i k : Nat} {x y : Entry} (h : Found d l i (some k)) (hx : l[i]? = some x) (hy : l[k]? = some y) (hge : ¬ x.ts < y.ts) : Found d l (i + 1) (some k) := by
  obtain ⟨h1, h2, z, h3, h4, h5⟩ := h
  rw [hy] at h3
  cases h3
  refine ⟨by omega, h2, y, hy, fun j u hj e hu => ?_, h5⟩
  rcases Nat.lt_or_ge j i with h6 | h6
  · exact h4 j u h6 e hu
  · have : j = i := by omega
    subst this
    rw [hx] at hu
    cases hu
    omega
/-- Some are picked: S, in order; what is left is d. -/
structure Picked (l : List Entry) (d : List Bool) (S : List Entry) : Prop where
  len : d.length = l.length
  sorted : SortedK (fun x : Entry => (x.ts : Int)) S
  below : ∀ x ∈ S, ∀ y ∈ remL d l, x.ts ≤ y.ts
  same : SameK (fun x : Entry => (x.ts : Int)) l (S ++ remL d l)
theorem Picked.start (l : List Entry) : Picked l (List.replicate l.length false) [] :=
  ⟨by simp, by simp [SortedK], by simp, by rw [remL_start]; exact SameK.refl _⟩
theorem Picked.left {l : List Entry} {d : List Bool} {S : List Entry} (h : Picked l d S) : (remL d l).length + S.length = l.length := by
  have := h.same.perm.length_eq
  rw [List.length_append] at this
  omega
theorem Picked.found {l : List Entry} {d : List Bool} {S : List Entry} (h : Picked l d S) (hS : S.length < l.length) {o : Option Nat} (ho : Found d l l.length o) : ∃ k x, o = some k ∧ k < l.length ∧ l[k]? = some x := by
  cases o with
  | none =>
    exfalso
    have hl := h.left
    cases hr : remL d l with
    | nil => rw [hr] at hl; simp at hl; omega
    | cons y t =>
      obtain ⟨j, h1, h2⟩ := remL_mem (d := d) (l := l) (y := y) (by rw [hr]; simp)
      exact ho j (List.getElem?_eq_some_iff.1 h2).1 h1
  | some k =>
    obtain ⟨h1, h2, x, h3, _⟩ := ho
    exact ⟨k, x, rfl, h1, h3⟩
theorem Picked.step {l : List Entry} {d : List Bool} {S : List Entry} {k : Nat} {x : Entry} (h : Picked l d S) (ho : Found d l l.length (some k)) (hx : l[k]? = some x) : Picked l (d.set k true) (S ++ [x]) := by
  obtain ⟨h1, h2, x', h3, h4, h5⟩ := ho
  rw [hx] at h3
  cases h3
  obtain ⟨A, B, r1, r2, r3⟩ := remL_pick h2 hx
  have hmem : ∀ y ∈ A ++ B, y ∈ remL d l := fun y hy => by
    rw [r1]
    rcases List.mem_append.1 hy with hy | hy
    · exact List.mem_append.2 (.inl hy)
    · exact List.mem_append.2 (.inr (List.mem_cons_of_mem _ hy))
  have hleast : ∀ y ∈ remL d l, x.ts ≤ y.ts := fun y hy => by
    obtain ⟨j, j1, j2⟩ := remL_mem hy
    exact h4 j y (List.getElem?_eq_some_iff.1 j2).1 j1 j2
  have hxm : x ∈ remL d l := by rw [r1]; simp
  refine ⟨by rw [List.length_set]; exact h.len, ?_, ?_, ?_⟩
  · refine List.pairwise_append.2 ⟨h.sorted, by simp, fun y hy z hz => ?_⟩
    rw [List.mem_singleton] at hz
    subst hz
    have := h.below y hy _ hxm
    show (y.ts : Int) ≤ (z.ts : Int)
    omega
  · intro y hy z hz
    rw [r2] at hz
    rcases List.mem_append.1 hy with hy | hy
    · exact h.below y hy z (hmem z hz)
    · rw [List.mem_singleton] at hy
      subst hy
      exact hleast z (hmem z hz)
  · rw [r2]
    intro q
    rw [h.same q, r1]
    simp only [List.filter_append, List.append_assoc, List.filter_cons, List.filter_nil]
    by_cases hq : (x.ts : Int) = q
    · have hA : A.filter (fun y => decide ((y.ts : Int) = q)) = [] := by
        rw [List.filter_eq_nil_iff]
        intro y hy
        obtain ⟨j, j1, j2, j3⟩ := r3 y hy
        have := h5 j y j1 j2 j3
        simp
        omega
      rw [hA, decide_eq_true hq]
      simp
    · rw [decide_eq_false hq]
      simp
theorem Picked.done {l : List Entry} {d : List Bool} {S : List Entry} (h : Picked l d S) (hS : S.length = l.length) : S = rise l := by
  have hl := h.left
  have hr : remL d l = [] := List.eq_nil_of_length_eq_zero (by omega)
  have hs := h.same
  rw [hr, List.append_nil] at hs
  have e := isort_of_same h.sorted hs
  have e2 : (fun x y : Entry => decide ((x.ts : Int) < (y.ts : Int))) = ltEntry := by
    funext x y
    unfold ltEntry
    by_cases hh : x.ts < y.ts
    · rw [decide_eq_true hh, decide_eq_true (by omega)]
    · rw [decide_eq_false hh, decide_eq_false (by omega)]
  rw [e2] at e
  exact e
end Go.Proofs.Ytffianjbljgnaaa

/-! ### RfAft -/
namespace Go.Proofs.Ytffianjbljgnaaa
set_option linter.unusedVariables false
set_option linter.unusedSimpArgs false
open Go.RowKit Go.Maps

theorem info_bool : (Try.prog.info? 4).map (fun i => (i.zero, i.size, i.bytes)) = some (some (.bool false), 1, 1) := by kernel_rfl
/-- Where the search stands. -/
def atOf : Option Nat → Int
  | none => -1
  | some k => k
/-- What the loop of After has in memory. -/
structure AftAt (w0 w : World) (L : List Entry) (k : Nat) (D : List Bool) (M : List KV) (a : Option Addr) (n c : Nat) : Prop where
  le : k ≤ L.length
  num : n = M.length
  len : M.length ≤ k * 8
  asc : Asc M
  pick : ∃ S, S.length = k ∧ runL [] S = M ∧ Picked L D S
  row : RowsAt w a n c 2 (pairsCells M)
  old : ∀ g o, a = some ⟨g, o, none⟩ → w0.heap.size < g
  done : Blk w w0.heap.size (D.map Value.bool) 4
  below : Below w0.heap.size w0 w
theorem AftAt.on {w0 w w' : World} {L : List Entry} {k : Nat} {D : List Bool} {M : List KV} {a : Option Addr} {n c : Nat} (h : AftAt w0 w L k D M a n c) (hb : Below w.heap.size w w') : AftAt w0 w' L k D M a n c :=
  ⟨h.le, h.num, h.len, h.asc, h.pick, h.row.on hb, h.old, h.done.on hb, h.below.trans (hb.mono h.below.size)⟩
theorem AftAt.dlen {w0 w : World} {L : List Entry} {k : Nat} {D : List Bool} {M : List KV} {a : Option Addr} {n c : Nat} (h : AftAt w0 w L k D M a n c) : D.length = L.length := by
  obtain ⟨S, _, _, hp⟩ := h.pick
  exact hp.len
theorem AftAt.cell {w0 w : World} {L : List Entry} {k : Nat} {D : List Bool} {M : List KV} {a : Option Addr} {n c : Nat} (h : AftAt w0 w L k D M a n c) {i : Nat} {b : Bool} (hb : D[i]? = some b) : w.cell? ⟨w0.heap.size, i, none⟩ = some (.bool b) := by
  rw [h.done.cell, List.getElem?_map, hb]; rfl
set_option maxRecDepth 100000 in
set_option maxHeartbeats 16000000 in
theorem afterR_any (w : World) (a : Option Addr) (n c : Nat) (z : List EZ) (h : EntsAt w a n c z) (hn : n ≤ 30) (hops : ∀ q ∈ z, q.2.ops.length ≤ 8) :
    Calls Try.prog 15 #[.slice a n c] w (PairsEnd (afterL (z.map (·.2))) w) := by
  obtain ⟨ib, hib, hz0, hz1, hz2⟩ := info_parts info_bool
  obtain ⟨w1, hrun, hdone, hb1, hs1⟩ := make_row (P := Try.prog) w 90 4 ib (.bool false) n Try.underlying90 hib hz0 rfl hz1 .i64 .i64 (by rw [hz2]; omega) (by omega)
  obtain ⟨L, hL⟩ : ∃ L, z.map (·.2) = L := ⟨_, rfl⟩
  have hLn : L.length = n := by rw [← hL, List.length_map, h.len]
  have HLn := Lib.hid hLn
  have HL := Lib.hid hL
  have HA0 := Lib.hid (show AftAt w w1 L 0 (List.replicate L.length false) [] none 0 0 from
    ⟨Nat.zero_le _, rfl, by simp, asc_nil, ⟨[], rfl, rfl, Picked.start L⟩, RowsAt.nil _ _, (fun g o e => by cases e), by rw [List.map_replicate, hLn]; exact hdone, hb1⟩)
  have HH := Lib.hid h
  have HO := Lib.hid hops
  have HZ := Lib.hid (show ∀ (i : Nat) (q : EZ), z[i]? = some q → L[i]? = some q.2 from fun i q hq => by rw [← hL, List.getElem?_map, hq]; rfl)
  rw [hL]
  clear h hops hdone hb1 hL hib hz0 hz1 hz2
  go_enter Try.func15, Try.ntmps15
  go_wp2_with fail
  go_loopw [3, 5, 6, 7] (fun s3 s5 _ _ wr => ∃ (k : Nat) (D : List Bool) (M : List KV) (a2 : Option Addr) (n2 c2 : Nat), s5 = .int .i64 k ∧ s3 = .slice a2 n2 c2 ∧ AftAt w wr L k D M a2 n2 c2) (fun _ s5 _ _ _ => n - (intOf s5).toNat)
  case atStart => exact ⟨0, _, [], none, 0, 0, rfl, rfl, HA0.out⟩
  case round =>
    clear HA0
    obtain ⟨k, D, M, a2, n2, c2, rfl, rfl, hA⟩ := hrel
    have HA := Lib.hid hA
    have hk := hA.le
    rw [hLn] at hk
    clear hA
    by_cases hlt : k < n
    · have hil : (k : Int) < (n : Int) := by omega
      go_upto_block 2 with fail
      go_cut [6, 7] (fun s6 _ wx => ∃ (i : Nat), s6 = .int .i64 i ∧ i < n ∧ Found D L n (some i) ∧ Below wr.heap.size wr wx)
      case first =>
        generalize wr = wo at *
        go_wp2_with fail
        go_loopw [6, 7] (fun s6 s7 wr => ∃ (i : Nat) (o : Option Nat), i ≤ n ∧ s7 = .int .i64 i ∧ s6 = .int .i64 (atOf o) ∧ Found D L i o ∧ Below wo.heap.size wo wr) (fun _ s7 _ => n - (intOf s7).toNat)
        case atStart => exact ⟨0, none, by omega, rfl, rfl, Found.start _ _, Below.refl _ _⟩
        case round =>
          obtain ⟨i, o, hi, rfl, rfl, hf, hb⟩ := hrel
          have hAw := HA.out.on hb
          by_cases hlti : i < n
          · have hili : (i : Int) < (n : Int) := by omega
            have hEw := HH.out.on hAw.below
            obtain ⟨q, g, og, hq, hqz, rfl, hg, c0, _, _⟩ := hEw.row hlti
            have hts := (hEw.each q hqz).ts
            have hx := HZ.out i q hq
            have HB := Lib.hid hb
            have hDi : i < D.length := by rw [hAw.dlen, hLn]; exact hlti
            obtain ⟨b, hDb⟩ : ∃ b, D[i]? = some b := ⟨_, List.getElem?_eq_getElem hDi⟩
            have hcell := hAw.cell hDb
            cases b with
            | true =>
              have HFn := Lib.hid (hf.skip hDb)
              have HF := Lib.hid (show ∀ w', Below wr.heap.size wr w' → w'.cell? ⟨w.heap.size, i, none⟩ = some (.bool true) from fun w' hb' => (hAw.on hb').cell hDb)
              clear hf hAw hEw hq hqz hts hx hb hDb c0 hcell
              go_upto_region 10 with fail
              refine wp_region_settleF (Below wr.heap.size wr) (by kernel_rfl) (by kernel_rfl) (by kernel_rfl) (below_drew (Below.refl _ _)) ?_
              repeat (first
                | (refine settled_not ?_ ?_
                   · rfl
                   simp only [Act.put, List.setIfInBounds_toArray, List.set_cons_zero, List.set_cons_succ])
                | (refine settled_val (v := ?_) ?_ (fun w' hS => ?_) ?_
                   rotate_left
                   · rfl
                   · have k0 := HF.out w' hS
                     go_simp
                     with_reducible rfl
                   simp only [Act.put, List.setIfInBounds_toArray, List.set_cons_zero, List.set_cons_succ]))
              refine settled_nil (fun w2 hS => ?_)
              have HB2 := Lib.hid (HB.out.trans (hS.mono HB.out.size))
              clear hS HF
              go_wp2_with fail
              go_roundw
              case rel => exact ⟨i + 1, o, by omega, by go_num, rfl, HFn.out, HB2.out⟩
              case measure => simp [intOf]; omega
            | false =>
              cases o with
              | none =>
                have HFn := Lib.hid (hf.first hDb hx)
                have HF := Lib.hid (show ∀ w', Below wr.heap.size wr w' → w'.cell? ⟨w.heap.size, i, none⟩ = some (.bool false) from fun w' hb' => (hAw.on hb').cell hDb)
                simp only [atOf]
                clear hf hAw hEw hq hqz hts hx hb hDb c0 hcell
                go_upto_region 10 with fail
                refine wp_region_settleF (Below wr.heap.size wr) (by kernel_rfl) (by kernel_rfl) (by kernel_rfl) (below_drew (Below.refl _ _)) ?_
                repeat (first
                  | (refine settled_not ?_ ?_
                     · rfl
                     simp only [Act.put, List.setIfInBounds_toArray, List.set_cons_zero, List.set_cons_succ])
                  | (refine settled_val (v := ?_) ?_ (fun w' hS => ?_) ?_
                     rotate_left
                     · rfl
                     · have k0 := HF.out w' hS
                       go_simp
                       with_reducible rfl
                     simp only [Act.put, List.setIfInBounds_toArray, List.set_cons_zero, List.set_cons_succ]))
                refine settled_nil (fun w2 hS => ?_)
                have HB2 := Lib.hid (HB.out.trans (hS.mono HB.out.size))
                clear hS HF
                go_wp2_with fail
                go_roundw
                case rel => exact ⟨i + 1, some i, by omega, by go_num, rfl, HFn.out, HB2.out⟩
                case measure => simp [intOf]; omega
              | some j =>
                have hj : j < n := by have := hf.1; omega
                obtain ⟨q2, g2, og2, hq2, hqz2, e2, hg2, d0, _, _⟩ := hEw.row hj
                cases e2
                have hts2 := (hEw.each q2 hqz2).ts
                have hx2 := HZ.out j q2 hq2
                have hj0 : ¬ (j : Int) < 0 := by omega
                have hji : (j : Int) < (n : Int) := by omega
                have HF := Lib.hid (show ∀ w', Below wr.heap.size wr w' → (w'.cell? ⟨w.heap.size, i, none⟩ = some (.bool false) ∧ w'.cell? ⟨g, og + i * 3, none⟩ = some (.int .u64 (q.1.ts : Nat)) ∧ w'.cell? ⟨g, og + j * 3, none⟩ = some (.int .u64 (q2.1.ts : Nat))) from
                  fun w' hb' => ⟨(hAw.on hb').cell hDb, (hb'.cell (p := ⟨g, og + i * 3, none⟩) hg).trans c0, (hb'.cell (p := ⟨g, og + j * 3, none⟩) hg).trans d0⟩)
                by_cases hl : q.1.ts < q2.1.ts
                · have HFn := Lib.hid (hf.less hDb hx hx2 (by omega))
                  have hli : ((q.1.ts : Nat) : Int) < ((q2.1.ts : Nat) : Int) := by omega
                  simp only [atOf]
                  generalize q.1.ts = t1 at *
                  generalize q2.1.ts = t2 at *
                  clear hf hAw hEw hq hqz hts hx hb hDb c0 hcell hq2 hqz2 hts2 hx2 d0 hl
                  go_upto_region 10 with fail
                  refine wp_region_settleF (Below wr.heap.size wr) (by kernel_rfl) (by kernel_rfl) (by kernel_rfl) (below_drew (Below.refl _ _)) ?_
                  repeat (first
                    | (refine settled_not ?_ ?_
                       · rfl
                       simp only [Act.put, List.setIfInBounds_toArray, List.set_cons_zero, List.set_cons_succ])
                    | (refine settled_val (v := ?_) ?_ (fun w' hS => ?_) ?_
                       rotate_left
                       · rfl
                       · obtain ⟨k0, k1, k2⟩ := HF.out w' hS
                         go_simp
                         with_reducible rfl
                       simp only [Act.put, List.setIfInBounds_toArray, List.set_cons_zero, List.set_cons_succ]))
                  refine settled_nil (fun w2 hS => ?_)
                  have HB2 := Lib.hid (HB.out.trans (hS.mono HB.out.size))
                  clear hS HF
                  go_wp2_with fail
                  go_roundw
                  case rel => exact ⟨i + 1, some i, by omega, by go_num, rfl, HFn.out, HB2.out⟩
                  case measure => simp [intOf]; omega
                · have HFn := Lib.hid (hf.keep hx hx2 (by omega))
                  have hli : ¬ ((q.1.ts : Nat) : Int) < ((q2.1.ts : Nat) : Int) := by omega
                  simp only [atOf]
                  generalize q.1.ts = t1 at *
                  generalize q2.1.ts = t2 at *
                  clear hf hAw hEw hq hqz hts hx hb hDb c0 hcell hq2 hqz2 hts2 hx2 d0 hl
                  go_upto_region 10 with fail
                  refine wp_region_settleF (Below wr.heap.size wr) (by kernel_rfl) (by kernel_rfl) (by kernel_rfl) (below_drew (Below.refl _ _)) ?_
                  repeat (first
                    | (refine settled_not ?_ ?_
                       · rfl
                       simp only [Act.put, List.setIfInBounds_toArray, List.set_cons_zero, List.set_cons_succ])
                    | (refine settled_val (v := ?_) ?_ (fun w' hS => ?_) ?_
                       rotate_left
                       · rfl
                       · obtain ⟨k0, k1, k2⟩ := HF.out w' hS
                         go_simp
                         with_reducible rfl
                       simp only [Act.put, List.setIfInBounds_toArray, List.set_cons_zero, List.set_cons_succ]))
                  refine settled_nil (fun w2 hS => ?_)
                  have HB2 := Lib.hid (HB.out.trans (hS.mono HB.out.size))
                  clear hS HF
                  go_wp2_with fail
                  go_roundw
                  case rel => exact ⟨i + 1, some j, by omega, by go_num, rfl, HFn.out, HB2.out⟩
                  case measure => simp [intOf]; omega
          · have hge : ¬ (i : Int) < (n : Int) := by omega
            have hin : i = n := by omega
            subst hin
            obtain ⟨S, hSl, _, hp⟩ := hAw.pick
            obtain ⟨j, x, rfl, hj, _⟩ := hp.found (by omega) (by rw [hLn]; exact hf)
            have HE := Lib.hid (show ∃ (i' : Nat), Value.int .i64 (atOf (some j)) = .int .i64 i' ∧ i' < i ∧ Found D L i (some i') ∧ Below wo.heap.size wo wr from ⟨j, rfl, by omega, hf, hb⟩)
            clear hf hb hAw hp
            go_wp2_with fail
            go_meet
            exact HE.out
      rename World => w3
      obtain ⟨j, rfl, hj, hf, hb⟩ := hcut
      have hA3 := HA.out.on hb
      obtain ⟨S, hSl, hr, hp⟩ := hA3.pick
      have hji : (j : Int) < (n : Int) := by omega
      have hDj : D[j]? = some false := hf.2.1
      have hcell := hA3.cell hDj
      have hz := hA3.done.free j
      have hdl := hA3.done.lt
      have hdone4 : Blk (w3.setCell ⟨w.heap.size, j, none⟩ (.bool true)) w.heap.size ((D.set j true).map Value.bool) 4 := by
        have := hA3.done.set j (.bool true)
        rw [List.map_set]
        exact this
      have hm4 : Mod [w.heap.size] w3 (w3.setCell ⟨w.heap.size, j, none⟩ (.bool true)) := (Mod.refl _ _).setCell _ _ (.inl (by simp))
      have hb4 : Below w.heap.size w (w3.setCell ⟨w.heap.size, j, none⟩ (.bool true)) := hA3.below.trans (hm4.below (fun x hx => by simp at hx; omega) hA3.below.size)
      have hrow4 := hA3.row.mod hm4 (fun g o e hx => by have := hA3.old g o e; simp at hx; omega)
      have hEw := HH.out.on hb4
      obtain ⟨q, g, og, hq, hqz, rfl, hg, c0, c1, c2'⟩ := hEw.row hj
      have hx := HZ.out j q hq
      have hC := applyR_any _ a2 n2 c2 M hrow4 hA3.num (by have := hA3.num; have := hA3.len; omega) hA3.asc q.1 q.2 (hEw.each q hqz) (by have := HO.out q hqz; omega)
      have HNx := Lib.hid (show ∀ (w5 : World) (a3 : Option Addr) (c3 : Nat), RowsAt w5 a3 (q.2.ops.foldl app M).length c3 2 (pairsCells (q.2.ops.foldl app M)) → (∀ g o, a3 = some ⟨g, o, none⟩ → (w3.setCell ⟨w.heap.size, j, none⟩ (.bool true)).heap.size ≤ g) → Below (w3.setCell ⟨w.heap.size, j, none⟩ (.bool true)).heap.size (w3.setCell ⟨w.heap.size, j, none⟩ (.bool true)) w5 → AftAt w w5 L (k + 1) (D.set j true) (q.2.ops.foldl app M) a3 (q.2.ops.foldl app M).length c3 from fun w5 a3 c3 hrow5 hold5 hb5 => by
        have hs4 := hm4.size
        refine ⟨by omega, rfl, ?_, ops_asc hA3.asc _, ⟨S ++ [q.2], by simp [hSl], ?_, hp.step (by rw [hLn]; exact hf) hx⟩, hrow5, fun g o e => by have := hold5 g o e; omega, hdone4.on hb5, hb4.trans (hb5.mono hb4.size)⟩
        · have h1 := ops_length hA3.asc q.2.ops
          have h2 := HO.out q hqz
          have h3 := hA3.len
          omega
        · unfold runL at hr ⊢
          rw [List.foldl_append, hr]
          rfl)
      have HC := Lib.hid hC
      clear hC hp hr hx hq hqz hEw hrow4 hb4 hm4 hdone4 hf hb hA3 hDj HA
      go_upto_region 13 with fail
      clear hcell hz
      generalize w3.setCell ⟨w.heap.size, j, none⟩ (.bool true) = w4 at *
      go_wp2_with fail
      refine HC.out.mono ?_
      rintro e w5 ⟨a3, c3, rfl, hrow5, hold5, hb5⟩
      have HA5 := Lib.hid (HNx.out w5 a3 c3 hrow5 hold5 hb5)
      clear hrow5 hold5 hb5 HNx HC
      go_wp2_with fail
      go_roundw
      case rel => exact ⟨k + 1, _, _, a3, _, c3, by go_num, rfl, HA5.out⟩
      case measure => simp [intOf]; omega
    · have hge : ¬ (k : Int) < (n : Int) := by omega
      have hkn : k = n := by omega
      have HE := Lib.hid (show PairsEnd (afterL L) w (.returned (.slice a2 n2 c2)) wr from by
        have hA := HA.out
        obtain ⟨S, hSl, hr, hp⟩ := hA.pick
        have e1 := hp.done (by omega)
        have e2 : afterL L = M := by unfold afterL; rw [← e1, hr]
        rw [e2, hA.num]
        have hrow := hA.row
        rw [hA.num] at hrow
        exact ⟨a2, c2, rfl, hrow, fun g o e => Nat.le_of_lt (hA.old g o e), hA.below⟩)
      go_wp2_with fail
      go_ret
      exact HE.out
end Go.Proofs.Ytffianjbljgnaaa

/-! ### Plan -/
namespace Go.Proofs.Ytffianjbljgnaaa
open Go
set_option linter.unusedVariables false
set_option linter.unusedSimpArgs false
section
variable {P : Program} {ops : Array Oper} {md : Region.Mode} {S : World → Prop}
/-- An operation comes up: S stays, and what follows holds. -/
def stepP (P : Program) (ops : Array Oper) (Q : Exit → Act → World → Prop) (S : World → Prop) (o : Oper) (K : Act → World → Prop) (a : Act) (w : World) : Prop :=
  if Region.wanted o (yielded ops a.tmps) = true then Oper.wp P o a w (fun a' w' => S w' ∧ K a' w') Q else K (a.put o.dst undef) w
/-- A plan: an operation is taken; one alone may come up; one of two may. -/
inductive Plan where
  | done
  | take (i : Nat) (o : Oper) (r : Plan)
  | one (i : Nat) (o : Oper) (r : Plan)
  | two (i : Nat) (o : Oper) (r : Plan) (j : Nat) (p : Oper) (s : Plan)
/-- The walk along a plan. -/
def wpPlan (P : Program) (ops : Array Oper) (Q : Exit → Act → World → Prop) (S : World → Prop) : Plan → Act → World → Prop
  | .done, a, w => Q .normal a w
  | .take _ o r, a, w => ∃ v, YieldsIf P ops S o v a ∧ wpPlan P ops Q S r (a.put o.dst v) w
  | .one _ o r, a, w => stepP P ops Q S o (wpPlan P ops Q S r) a w
  | .two _ o r _ p s, a, w => stepP P ops Q S o (wpPlan P ops Q S r) a w ∧ stepP P ops Q S p (wpPlan P ops Q S s) a w
/-- The indices of a plan. -/
inductive PlanI where
  | done
  | take (i : Nat) (r : PlanI)
  | one (i : Nat) (r : PlanI)
  | two (i : Nat) (r : PlanI) (j : Nat) (s : PlanI)
def PlanI.fill (l : List Oper) : PlanI → Plan
  | .done => .done
  | .take i r => .take i (l.getD i default) (r.fill l)
  | .one i r => .one i (l.getD i default) (r.fill l)
  | .two i r j s => .two i (l.getD i default) (r.fill l) j (l.getD j default) (s.fill l)
def planOk (md : Region.Mode) (ops : Array Oper) : PlanI → Nat → Array Bool → Bool
  | .done, n, listed => (n == 0) && Region.ready md ops listed == []
  | .take i r, n, listed => Nat.blt i ops.size && Nat.blt 0 n && (Region.ready md ops listed).contains i && Region.free md ops listed i && planOk md ops r (n - 1) (listed.setIfInBounds i true)
  | .one i r, n, listed => Nat.blt i ops.size && Nat.blt 0 n && Region.ready md ops listed == [i] && planOk md ops r (n - 1) (listed.setIfInBounds i true)
  | .two i r j s, n, listed => Nat.blt i ops.size && Nat.blt j ops.size && Nat.blt 0 n && Region.ready md ops listed == [i, j] && planOk md ops r (n - 1) (listed.setIfInBounds i true) && planOk md ops s (n - 1) (listed.setIfInBounds j true)
theorem wpOp_of_stepP {Q : Exit → Act → World → Prop} {i : Nat} {o : Oper} (hi : ops[i]? = some o) {K K' : Act → World → Prop} {a : Act} {w : World} (hS : S w) (hK : ∀ a' w', S w' → K a' w' → K' a' w') (h : stepP P ops Q S o K a w) : wpOp P ops Q i K' a w := by
  refine wpOp_mono (K := fun a' w' => S w' ∧ K a' w') (fun a' w' h' => hK a' w' h'.1 h'.2) ?_
  unfold wpOp
  simp only [hi]
  unfold stepP at h
  split
  · rename_i hw; simp only [hw, if_true] at h; exact .inl h
  · rename_i hw; simp only [hw, Bool.false_eq_true, if_false] at h; exact ⟨hS, h⟩
theorem getD_of {l : List Oper} {i : Nat} (h : Nat.blt i l.toArray.size = true) : l.toArray[i]? = some (l.getD i default) := by
  have h' : i < l.length := by simpa [Nat.blt_eq] using h
  simp [List.getD, List.getElem?_eq_getElem h']
theorem wpAnyW_of_plan {l : List Oper} {Q : Exit → Act → World → Prop} (hsel : ∀ (j : Nat) (o : Oper) cs b, l.toArray[j]? = some o → o.op ≠ .select cs b) (hQ : ∀ c a d v w, Q (.panic c) (Act.put a d v) w → Q (.panic c) a w) :
    ∀ (pl : PlanI) (n : Nat) (listed : Array Bool) (a : Act) (w : World), S w → Closed md l.toArray listed → planOk md l.toArray pl n listed = true →
    wpPlan P l.toArray Q S (pl.fill l) a w → wpAnyW P md l.toArray Q S (fun _ => false) n listed a w
  | .done, n, listed, a, w, _, _, hok, h => by
    simp only [planOk, Bool.and_eq_true, beq_iff_eq] at hok
    obtain ⟨rfl, hok⟩ := hok
    exact ⟨hok, h⟩
  | .take i r, n, listed, a, w, hS, hc, hok, h => by
    simp only [planOk, Bool.and_eq_true] at hok
    obtain ⟨⟨⟨⟨hl, hn⟩, hr⟩, hf⟩, hok⟩ := hok
    obtain ⟨v, hy, h⟩ := h
    have hi := getD_of hl
    have hr' : i ∈ Region.ready md l.toArray listed := by simpa using hr
    obtain ⟨m, rfl⟩ : ∃ m, n = m + 1 := ⟨n - 1, by have : 0 < n := by simpa [Nat.blt_eq] using hn
                                                   omega⟩
    rw [Nat.add_sub_cancel] at hok
    exact wpAnyW_first (n := 0) hi hsel (fun c a w => hQ c a _ _ w) (fun j hj => by cases hj) _ listed a w hc (Region.free_spec hi hf) hr' hy hS
      (wpAnyW_of_plan hsel hQ r m _ _ w hS (hc.set hr') hok h)
  | .one i r, n, listed, a, w, hS, hc, hok, h => by
    simp only [planOk, Bool.and_eq_true, beq_iff_eq] at hok
    obtain ⟨⟨⟨hl, hn⟩, hr⟩, hok⟩ := hok
    have hi := getD_of hl
    have hr' : i ∈ Region.ready md l.toArray listed := by rw [hr]; simp
    obtain ⟨m, rfl⟩ : ∃ m, n = m + 1 := ⟨n - 1, by have : 0 < n := by simpa [Nat.blt_eq] using hn
                                                   omega⟩
    rw [Nat.add_sub_cancel] at hok
    refine ⟨fun h0 => (by rw [hr] at h0; cases h0), fun j hj => ?_⟩
    rw [hr] at hj
    cases List.mem_singleton.1 hj
    exact wpOp_of_stepP hi hS (fun a' w' hS' hK => ⟨.inr hS', wpAnyW_of_plan hsel hQ r m _ a' w' hS' (hc.set hr') hok hK⟩) h
  | .two i r j s, n, listed, a, w, hS, hc, hok, h => by
    simp only [planOk, Bool.and_eq_true, beq_iff_eq] at hok
    obtain ⟨⟨⟨⟨⟨hl, hl2⟩, hn⟩, hr⟩, hok⟩, hok2⟩ := hok
    have hi := getD_of hl
    have hj := getD_of hl2
    have hr' : i ∈ Region.ready md l.toArray listed := by rw [hr]; simp
    have hr2 : j ∈ Region.ready md l.toArray listed := by rw [hr]; simp
    obtain ⟨m, rfl⟩ : ∃ m, n = m + 1 := ⟨n - 1, by have : 0 < n := by simpa [Nat.blt_eq] using hn
                                                   omega⟩
    rw [Nat.add_sub_cancel] at hok hok2
    refine ⟨fun h0 => (by rw [hr] at h0; cases h0), fun k hk => ?_⟩
    rw [hr] at hk
    rcases List.mem_cons.1 hk with rfl | hk
    · exact wpOp_of_stepP hi hS (fun a' w' hS' hK => ⟨.inr hS', wpAnyW_of_plan hsel hQ r m _ a' w' hS' (hc.set hr') hok hK⟩) h.1
    · cases List.mem_singleton.1 hk
      exact wpOp_of_stepP hj hS (fun a' w' hS' hK => ⟨.inr hS', wpAnyW_of_plan hsel hQ s m _ a' w' hS' (hc.set hr2) hok2 hK⟩) h.2
theorem wp_region_plan (pl : PlanI) {l : List Oper} {Q : Exit → Act → World → Prop} (S : World → Prop) {id : Nat} {a : Act} {w : World} (hm : P.follows .mixedOrders = true) (hs : Region.noSelect l.toArray = true)
    (hok : planOk .any l.toArray pl l.length (Array.replicate l.length false) = true)
    (hQ : ∀ c a d v w, Q (.panic c) (Act.put a d v) w → Q (.panic c) a w) (hS : S { w with drawn := w.drawn + 1 })
    (h : wpPlan P l.toArray Q S (pl.fill l) a { w with drawn := w.drawn + 1 }) : (Code.region id l.toArray true).wp P Q a w := by
  refine wp_region_any hm (wpAny_of_W (S := S) (W := fun _ => false) _ _ _ _ ?_)
  have := wpAnyW_of_plan (P := P) (md := .any) (S := S) (Q := Q) (Region.noSelect_spec hs) hQ pl l.length (Array.replicate l.length false) a { w with drawn := w.drawn + 1 } hS (Closed.start _) hok h
  simpa using this
variable {Q : Exit → Act → World → Prop} {i j : Nat} {o p : Oper} {r s : Plan} {v : Value} {a : Act} {w : World}
theorem plan_take (hw : Region.wanted o (yielded ops a.tmps) = true) (hv : ∀ w, S w → (execOp a.eval o).run P w = .ok (.value v) w)
    (h : wpPlan P ops Q S r (a.put o.dst v) w) : wpPlan P ops Q S (.take i o r) a w := ⟨v, .inl ⟨hw, hv⟩, h⟩
theorem plan_untaken (hw : Region.wanted o (yielded ops a.tmps) = false) (h : wpPlan P ops Q S r (a.put o.dst undef) w) : wpPlan P ops Q S (.take i o r) a w := ⟨undef, .inr ⟨hw, rfl⟩, h⟩
theorem stepP_on {K : Act → World → Prop} (hw : Region.wanted o (yielded ops a.tmps) = true)
    (h : ∀ K' : Act → World → Prop, Kept (∀ a w, S w → K a w → K' a w) → Oper.wp P o a w K' Q) : stepP P ops Q S o K a w := by
  unfold stepP
  rw [if_pos hw]
  exact h _ (fun _ _ h1 h2 => ⟨h1, h2⟩)
theorem stepP_off {K : Act → World → Prop} (hw : Region.wanted o (yielded ops a.tmps) = false) (h : K (a.put o.dst undef) w) : stepP P ops Q S o K a w := by
  unfold stepP
  rw [if_neg (by simp [hw])]
  exact h
theorem plan_step (hw : Region.wanted o (yielded ops a.tmps) = true)
    (h : ∀ K : Act → World → Prop, Kept (∀ a w, S w → wpPlan P ops Q S r a w → K a w) → Oper.wp P o a w K Q) : wpPlan P ops Q S (.one i o r) a w := stepP_on hw h
theorem plan_not (hw : Region.wanted o (yielded ops a.tmps) = false) (h : wpPlan P ops Q S r (a.put o.dst undef) w) : wpPlan P ops Q S (.one i o r) a w := stepP_off hw h
theorem plan_two (h1 : stepP P ops Q S o (wpPlan P ops Q S r) a w) (h2 : stepP P ops Q S p (wpPlan P ops Q S s) a w) : wpPlan P ops Q S (.two i o r j p s) a w := ⟨h1, h2⟩
theorem plan_done (h : Q .normal a w) : wpPlan P ops Q S .done a w := h
end
end Go.Proofs.Ytffianjbljgnaaa

/-! ### Walk27M -/
namespace Go.Proofs.Ytffianjbljgnaaa
set_option linter.unusedVariables false
set_option linter.unusedSimpArgs false
open Go.RowKit Go.Maps

set_option maxRecDepth 100000 in
set_option maxHeartbeats 16000000 in
theorem maps27_law (w : World) (a : Option Addr) (n c : Nat) (z : List EZ) (h : EntsAt w a n c z) (e : Ent) (x : Entry) (hE : EntIs w e x) :
    Calls Try.prog 4 #[.slice a n c, .agg #[.int .u64 (e.ts : Nat), .int .u64 (e.first : Nat), .slice e.a e.n e.c]] w fun e w' => e = .returned (.bool true) ∧ Below w.heap.size w w' := by
  have hb0 := (Below.refl w.heap.size w).alloc (Nat.le_refl _) (.cells #[.int .u64 (e.ts : Nat), .int .u64 (e.first : Nat), .slice e.a e.n e.c] 40)
  have hEb : Blk (w.alloc (.cells #[.int .u64 (e.ts : Nat), .int .u64 (e.first : Nat), .slice e.a e.n e.c] 40)) w.heap.size (entCells e) 40 := Blk.new w (entCells e) _
  have hsz : (w.alloc (.cells #[.int .u64 (e.ts : Nat), .int .u64 (e.first : Nat), .slice e.a e.n e.c] 40)).heap.size = w.heap.size + 1 := by simp
  have HWk := Lib.hid (fun w' => works_any w')
  have HEn := Lib.hid (entries_any _ a n c z (h.on hb0))
  have HE := Lib.hid (hE.on hb0)
  have HEb := Lib.hid hEb
  have HB0 := Lib.hid hb0
  have HSz := Lib.hid hsz
  clear h hE hb0 hEb hsz
  go_enter Try.func4, Try.ntmps4
  go_upto_region 1 with fail
  generalize w.alloc (.cells #[.int .u64 (e.ts : Nat), .int .u64 (e.first : Nat), .slice e.a e.n e.c] 40) = w0 at *
  go_wp2_with fail
  refine HEn.out.mono ?_
  rintro e' w1 ⟨a1, c1, z1, rfl, hE1, hzl, hold1, holdz, hb1⟩
  obtain ⟨n1, hn1⟩ : ∃ x, (cutEntries (z.map (·.2))).length = x := ⟨_, rfl⟩
  have hn30 : n1 ≤ 30 := by rw [← hn1]; unfold cutEntries; rw [List.length_map, List.length_take]; omega
  have hops : ∀ q ∈ z1, q.2.ops.length ≤ 8 := fun q hq => by
    have hm : q.2 ∈ cutEntries (z.map (·.2)) := by rw [← hzl]; exact List.mem_map.2 ⟨q, hq, rfl⟩
    unfold cutEntries at hm
    obtain ⟨x, _, hx⟩ := List.mem_map.1 hm
    rw [← hx]
    show (cutRecs 8 x.ops).length ≤ 8
    unfold cutRecs
    rw [List.length_map, List.length_take]
    omega
  rw [hn1] at hE1 ⊢
  have hEb1 := HEb.out.on hb1
  have hIs1 := HE.out.on hb1
  have c2 : w1.cell? ⟨w.heap.size, 2, none⟩ = some (.slice e.a e.n e.c) := by rw [hEb1.cell]; rfl
  have HRc := Lib.hid (recs_any w1 e.a e.n e.c x.ops hIs1.rows hIs1.n hIs1.ok.ops 8 (by omega))
  have HE1 := Lib.hid hE1
  have HOld := Lib.hid hold1
  have HOldz := Lib.hid holdz
  have HB1 := Lib.hid hb1
  have HEb1 := Lib.hid hEb1
  have HIs := Lib.hid hIs1
  have HOps := Lib.hid hops
  clear hE1 hold1 holdz hb1 hEb1 hIs1 hops hzl HEn HEb HE hn1
  go_wp2_with fail
  clear c2
  refine HRc.out.mono ?_
  rintro e' w2 ⟨ar, cr, rfl, hrows, holdr, hb2⟩
  obtain ⟨O, hO⟩ : ∃ X, cutRecs 8 x.ops = X := ⟨_, rfl⟩
  have hOl : O.length ≤ 8 := by rw [← hO]; unfold cutRecs; rw [List.length_map, List.length_take]; omega
  have hOk : ∀ r ∈ O, r.ok := by rw [← hO]; exact cutOps_ok HIs.out.ok.ops 8
  rw [hO] at hrows ⊢
  obtain ⟨nr, hnr⟩ : ∃ x, O.length = x := ⟨_, rfl⟩
  rw [hnr] at hrows ⊢
  have hEb2 := HEb1.out.on hb2
  have hs0 := HSz.out
  have hs1 := HB1.out.size
  have hs2 := hb2.size
  have c2 : w2.cell? ⟨w.heap.size, 2, none⟩ = some (.slice e.a e.n e.c) := by rw [hEb2.cell]; rfl
  have f2 := hEb2.free 2
  have hEb3 : Blk (w2.setCell ⟨w.heap.size, 2, none⟩ (.slice ar nr cr)) w.heap.size (entCells ⟨e.ts, e.first, ar, nr, cr⟩) 40 := hEb2.set 2 (.slice ar nr cr)
  have hm3 : Mod [w.heap.size] w2 (w2.setCell ⟨w.heap.size, 2, none⟩ (.slice ar nr cr)) := (Mod.refl _ _).setCell _ _ (.inl (by simp))
  have hIs3 : EntIs (w2.setCell ⟨w.heap.size, 2, none⟩ (.slice ar nr cr)) ⟨e.ts, e.first, ar, nr, cr⟩ ⟨x.ts, x.first, O⟩ :=
    ⟨HIs.out.ts, HIs.out.first, hnr.symm, hrows.mod hm3 (fun g o e hx => by have := (holdr g o e).1; simp at hx; omega), ⟨HIs.out.ok.ts, HIs.out.ok.first, hOk⟩⟩
  have hE3 : EntsAt (w2.setCell ⟨w.heap.size, 2, none⟩ (.slice ar nr cr)) a1 n1 c1 z1 :=
    (HE1.out.on hb2).mod hm3 (fun g o e hx => by have := HOld.out g o e; simp at hx; omega) (fun q hq g o e hx => by have := HOldz.out q hq g o e; simp at hx; omega)
  have hb3 : Below w.heap.size w (w2.setCell ⟨w.heap.size, 2, none⟩ (.slice ar nr cr)) :=
    ((HB0.out.trans (HB1.out.mono (by omega))).trans (hb2.mono (by omega))).trans (hm3.below (fun x hx => by simp at hx; omega) (by omega))
  have HAft := Lib.hid (afterR_any _ a1 n1 c1 z1 hE3 hn30 HOps.out)
  have HEb3 := Lib.hid hEb3
  have HIs3 := Lib.hid hIs3
  have HE3 := Lib.hid hE3
  have HB3 := Lib.hid hb3
  clear hEb2 hEb3 hm3 hIs3 hE3 hb3 hrows holdr hb2 HRc hO HEb1 HIs HE1 HOld HOldz
  go_upto_region 3 with fail
  clear c2 f2
  generalize w2.setCell ⟨w.heap.size, 2, none⟩ (.slice ar nr cr) = w3 at *
  go_wp2_with fail
  refine HAft.out.mono ?_
  rintro e' w4 ⟨am, cm, rfl, hrm, _, hb4⟩
  obtain ⟨M, hM⟩ : ∃ X, afterL (z1.map (·.2)) = X := ⟨_, rfl⟩
  have hLen : (z1.map (·.2)).length = n1 := by rw [List.length_map, HE3.out.len]
  have hMl : M.length ≤ 240 := by
    have := after_length (l := z1.map (·.2)) (m := 8) (fun y hy => by obtain ⟨q, hq, rfl⟩ := List.mem_map.1 hy; exact HOps.out q hq)
    rw [hM, hLen] at this
    omega
  have hMa : Asc M := by rw [← hM]; exact after_asc _
  have hMk : ∀ p ∈ M, p.1.length ≤ maxLen := by
    rw [← hM]
    exact after_key (fun y hy r hr => by obtain ⟨q, hq, rfl⟩ := List.mem_map.1 hy; exact (HE3.out.each q hq).ok.ops r hr)
  rw [hM] at hrm ⊢
  obtain ⟨nM, hnM⟩ : ∃ x, M.length = x := ⟨_, rfl⟩
  rw [hnM] at hrm ⊢
  have HnM := Lib.hid hnM
  have hnM240 : nM ≤ 240 := by omega
  have HRm := Lib.hid hrm
  have hE4 := HE3.out.on hb4
  have hIs4 := HIs3.out.on hb4
  have hEb4 := HEb3.out.on hb4
  have HTop := Lib.hid (HB3.out.trans (hb4.mono HB3.out.size))
  obtain ⟨MO, hMO⟩ : ∃ X, O.foldl app M = X := ⟨_, rfl⟩
  have HMO := Lib.hid (show MO.length ≤ 10000000 by have := ops_length hMa O; rw [hMO] at this; omega)
  have HS1 := Lib.hid (show ∀ w', Below w4.heap.size w4 w' → Calls Try.prog 10 #[.slice a1 n1 c1] w' (PairsEnd M w') from fun w' hb => by
    have := after_any w' a1 n1 c1 z1 (hE4.on hb) (by unfold BoundE; omega) (fun q hq => by have := HOps.out q hq; omega)
    rw [hM] at this
    exact this)
  have HS4 := Lib.hid (show ∀ w', Below w4.heap.size w4 w' → Calls Try.prog 15 #[.slice a1 n1 c1] w' (PairsEnd M w') from fun w' hb => by
    have := afterR_any w' a1 n1 c1 z1 (hE4.on hb) hn30 HOps.out
    rw [hM] at this
    exact this)
  have HS2 := Lib.hid (show ∀ w', Below w4.heap.size w4 w' → Calls Try.prog 16 #[.slice am nM cm, .agg #[.int .u64 (e.ts : Nat), .int .u64 (e.first : Nat), .slice ar nr cr]] w' (PairsEnd MO w') from fun w' hb => by
    have := apply_any w' am nM cm M (hrm.on hb) hnM.symm (by omega) hMk ⟨e.ts, e.first, ar, nr, cr⟩ ⟨x.ts, x.first, O⟩ (hIs4.on hb) (by show O.length ≤ 1000; omega)
    rw [applyL_self hMa, hMO] at this
    exact this)
  have HS3 := Lib.hid (show ∀ w', Below w4.heap.size w4 w' → Calls Try.prog 17 #[.slice am nM cm, .agg #[.int .u64 (e.ts : Nat), .int .u64 (e.first : Nat), .slice ar nr cr]] w' (PairsEnd MO w') from fun w' hb => by
    have := applyR_any w' am nM cm M (hrm.on hb) hnM.symm (by omega) hMa ⟨e.ts, e.first, ar, nr, cr⟩ ⟨x.ts, x.first, O⟩ (hIs4.on hb) (by show O.length ≤ 1000; omega)
    rw [hMO] at this
    exact this)
  have HF := Lib.hid (show ∀ w', Below w4.heap.size w4 w' → (w'.cell? ⟨w.heap.size, 0, none⟩ = some (.int .u64 (e.ts : Nat)) ∧ w'.cell? ⟨w.heap.size, 1, none⟩ = some (.int .u64 (e.first : Nat)) ∧ w'.cell? ⟨w.heap.size, 2, none⟩ = some (.slice ar nr cr)) from
    fun w' hb => ⟨by rw [(hEb4.on hb).cell]; rfl, by rw [(hEb4.on hb).cell]; rfl, by rw [(hEb4.on hb).cell]; rfl⟩)
  clear hE4 hIs4 hEb4 hrm hb4 hMk hMa hMl hLen hM hnM hMO HAft HE3 HIs3 HEb3 HB3 HOps hOl hOk hnr hs0 hs1 hs2
  go_upto_region 4 with fail
  refine wp_region_plan (.take 0 (.take 2 (.one 1 (.one 3 (.one 4 (.take 5 (.take 6 (.take 8 (.take 9 (.one 7 (.one 10 (.one 11 (.one 12 (.one 13 (.take 14 (.take 15 (.one 16 (.one 17 (.one 18 (.one 19 (.one 20 (.one 21 (.one 22 .done))))))))))))))))))))))) (Below w4.heap.size w4) (by kernel_rfl) (by kernel_rfl) (by kernel_rfl) (fun c a d v w h => by cases d <;> exact h) (below_drew (Below.refl _ _)) ?_
  simp only [PlanI.fill, List.getD_cons_zero, List.getD_cons_succ]
  have hS : Below w4.heap.size w4 { w4 with drawn := w4.drawn + 1 } := below_drew (Below.refl _ _)
  generalize ({ w4 with drawn := w4.drawn + 1 } : World) = w5 at *
  refine plan_take (v := ?_) (by rfl) (fun w' hS => ?_) ?_
  rotate_left
  · obtain ⟨k0, k1, k2⟩ := HF.out w' hS
    go_simp
    with_reducible rfl
  simp only [Act.put, List.setIfInBounds_toArray, List.set_cons_zero, List.set_cons_succ]
  refine plan_take (v := ?_) (by rfl) (fun w' hS => ?_) ?_
  rotate_left
  · obtain ⟨k0, k1, k2⟩ := HF.out w' hS
    go_simp
    with_reducible rfl
  simp only [Act.put, List.setIfInBounds_toArray, List.set_cons_zero, List.set_cons_succ]
  have HA := Lib.hid (HS1.out _ hS)
  refine plan_step (by rfl) (fun K hK => ?_)
  go_simp
  refine HA.out.mono ?_
  rintro e' w6 ⟨aa, ca, rfl, hr, _, hb⟩
  have hSn := hS.trans (hb.mono hS.size)
  have HRa := Lib.hid hr
  clear hr
  refine hK.out _ _ hSn ?_
  clear hK K hS
  have hS := hSn
  clear hSn hb HA
  have HA := Lib.hid (pairsEq_any _ aa am M.length ca nM cm M M HRa.out (HRm.out.on hS) rfl HnM.out.symm (by have := HnM.out; omega))
  refine plan_step (by rfl) (fun K hK => ?_)
  go_simp
  refine HA.out.mono ?_
  rintro e' w7 ⟨rfl, hb⟩
  have hSn := hS.trans (hb.mono hS.size)
  refine hK.out _ _ hSn ?_
  clear hK K hS
  have hS := hSn
  clear hSn hb HA
  rw [decide_eq_true (rfl : M = M)]
  refine plan_step (by rfl) (fun K hK => ?_)
  go_simp
  refine hK.out _ _ hS ?_
  clear hK K
  refine plan_take (v := ?_) (by rfl) (fun w' hS => ?_) ?_
  rotate_left
  · obtain ⟨k0, k1, k2⟩ := HF.out w' hS
    go_simp
    with_reducible rfl
  simp only [Act.put, List.setIfInBounds_toArray, List.set_cons_zero, List.set_cons_succ]
  refine plan_take (v := ?_) (by rfl) (fun w' hS => ?_) ?_
  rotate_left
  · obtain ⟨k0, k1, k2⟩ := HF.out w' hS
    go_simp
    with_reducible rfl
  simp only [Act.put, List.setIfInBounds_toArray, List.set_cons_zero, List.set_cons_succ]
  refine plan_take (v := ?_) (by rfl) (fun w' hS => ?_) ?_
  rotate_left
  · obtain ⟨k0, k1, k2⟩ := HF.out w' hS
    go_simp
    with_reducible rfl
  simp only [Act.put, List.setIfInBounds_toArray, List.set_cons_zero, List.set_cons_succ]
  refine plan_take (v := ?_) (by rfl) (fun w' hS => ?_) ?_
  rotate_left
  · obtain ⟨k0, k1, k2⟩ := HF.out w' hS
    go_simp
    with_reducible rfl
  simp only [Act.put, List.setIfInBounds_toArray, List.set_cons_zero, List.set_cons_succ]
  have HA := Lib.hid (HS2.out _ hS)
  refine plan_step (by rfl) (fun K hK => ?_)
  go_simp
  refine HA.out.mono ?_
  rintro e' w8 ⟨ab, cb, rfl, hr, _, hb⟩
  have hSn := hS.trans (hb.mono hS.size)
  have HRb := Lib.hid hr
  clear hr
  refine hK.out _ _ hSn ?_
  clear hK K hS
  have hS := hSn
  clear hSn hb HA
  have HA := Lib.hid (HS3.out _ hS)
  refine plan_step (by rfl) (fun K hK => ?_)
  go_simp
  refine HA.out.mono ?_
  rintro e' w9 ⟨ac, cc, rfl, hr, _, hb⟩
  have hSn := hS.trans (hb.mono hS.size)
  have HRc := Lib.hid hr
  have hBc := hb
  clear hr
  refine hK.out _ _ hSn ?_
  clear hK K hS
  have hS := hSn
  clear hSn hb HA
  have HA := Lib.hid (pairsEq_any _ ab ac MO.length cb MO.length cc MO MO (HRb.out.on hBc) HRc.out rfl rfl HMO.out)
  refine plan_step (by rfl) (fun K hK => ?_)
  go_simp
  refine HA.out.mono ?_
  rintro e' w10 ⟨rfl, hb⟩
  have hSn := hS.trans (hb.mono hS.size)
  refine hK.out _ _ hSn ?_
  clear hK K hS
  have hS := hSn
  clear hSn hb HA
  rw [decide_eq_true (rfl : MO = MO)]
  refine plan_step (by rfl) (fun K hK => ?_)
  go_simp
  refine hK.out _ _ hS ?_
  clear hK K
  refine plan_step (by rfl) (fun K hK => ?_)
  go_simp
  refine hK.out _ _ hS ?_
  clear hK K
  refine plan_take (v := ?_) (by rfl) (fun w' hS => ?_) ?_
  rotate_left
  · obtain ⟨k0, k1, k2⟩ := HF.out w' hS
    go_simp
    with_reducible rfl
  simp only [Act.put, List.setIfInBounds_toArray, List.set_cons_zero, List.set_cons_succ]
  refine plan_take (v := ?_) (by rfl) (fun w' hS => ?_) ?_
  rotate_left
  · obtain ⟨k0, k1, k2⟩ := HF.out w' hS
    go_simp
    with_reducible rfl
  simp only [Act.put, List.setIfInBounds_toArray, List.set_cons_zero, List.set_cons_succ]
  have HA := Lib.hid (HS4.out _ hS)
  refine plan_step (by rfl) (fun K hK => ?_)
  go_simp
  refine HA.out.mono ?_
  rintro e' w11 ⟨ad, cd, rfl, hr, _, hb⟩
  have hSn := hS.trans (hb.mono hS.size)
  have HRd := Lib.hid hr
  clear hr
  refine hK.out _ _ hSn ?_
  clear hK K hS
  have hS := hSn
  clear hSn hb HA
  have HA := Lib.hid (pairsEq_any _ am ad nM cm M.length cd M M (HRm.out.on hS) HRd.out HnM.out.symm rfl (by have := HnM.out; omega))
  refine plan_step (by rfl) (fun K hK => ?_)
  go_simp
  refine HA.out.mono ?_
  rintro e' w12 ⟨rfl, hb⟩
  have hSn := hS.trans (hb.mono hS.size)
  refine hK.out _ _ hSn ?_
  clear hK K hS
  have hS := hSn
  clear hSn hb HA
  rw [decide_eq_true (rfl : M = M)]
  refine plan_step (by rfl) (fun K hK => ?_)
  go_simp
  refine hK.out _ _ hS ?_
  clear hK K
  refine plan_step (by rfl) (fun K hK => ?_)
  go_simp
  refine hK.out _ _ hS ?_
  clear hK K
  have HA := Lib.hid (HWk.out w12)
  refine plan_step (by rfl) (fun K hK => ?_)
  go_simp
  refine HA.out.mono ?_
  rintro e' w13 ⟨rfl, hb⟩
  have hSn := hS.trans (hb.mono hS.size)
  refine hK.out _ _ hSn ?_
  clear hK K hS
  have hS := hSn
  clear hSn hb HA
  refine plan_step (by rfl) (fun K hK => ?_)
  go_simp
  refine hK.out _ _ hS ?_
  clear hK K
  refine plan_step (by rfl) (fun K hK => ?_)
  go_simp
  refine hK.out _ _ hS ?_
  clear hK K
  refine plan_done ?_
  have HEnd := Lib.hid (HTop.out.trans (hS.mono HTop.out.size))
  clear hS HF
  go_wp2_with fail
  go_ret
  exact ⟨by try rfl, HEnd.out⟩
end Go.Proofs.Ytffianjbljgnaaa
