/-
  The walk of Alloc. No condition.
-/
import Derived.Test.YtmicpjdlldjapaaSpF
import Derived.Test.YtmicpjdlldjapaaSpN
namespace Go.Proofs.Ytmicpjdlldjapaa
set_option linter.unusedVariables false
set_option linter.unusedSimpArgs false
open Go.RowKit

/-! ### A region in the text's order, step by step, where each step is known -/
section
variable {P : Program} {ops : Array Oper}
theorem wpOps_of_wpSeq {Q : Exit → Act → World → Prop} : ∀ (rest : List Oper) (k : Nat) (a : Act) (w : World), ops.toList.drop k = rest → wpSeq P ops Q rest a w → wpOps P ops Q (List.range' k rest.length) a w
  | [], k, a, w, _, h => h
  | o :: rest, k, a, w, hd, h => by
    have hk : ops[k]? = some o := by
      have : (ops.toList.drop k)[0]? = some o := by rw [hd]; rfl
      rw [List.getElem?_drop] at this
      simpa using this
    have hd' : ops.toList.drop (k + 1) = rest := by rw [← List.drop_drop, hd]; rfl
    rw [List.length_cons, List.range'_succ, wpOps_cons]
    refine wpOp_mono (fun a' w' h' => wpOps_of_wpSeq rest (k + 1) a' w' hd' h') ?_
    unfold wpOp
    simp only [hk]
    unfold wpSeq at h
    split
    · rename_i hw; simp only [hw, if_true] at h; exact .inl h
    · rename_i hw; simp only [hw, Bool.false_eq_true, if_false] at h; exact h
theorem wp_region_seq {l : List Oper} {Q : Exit → Act → World → Prop} {id : Nat} {a : Act} {w : World} (h : wpSeq P l.toArray Q l a w) : (Code.region id l.toArray false).wp P Q a w := by
  refine wp_region ?_
  have := wpOps_of_wpSeq (ops := l.toArray) (P := P) (Q := Q) l 0 a w (by simp) h
  rw [← List.range_eq_range'] at this
  simpa using this
theorem seq_val {Q : Exit → Act → World → Prop} {o : Oper} {rest : List Oper} {a : Act} {w w' : World} (v : Value) (hw : Region.wanted o (yielded ops a.tmps) = true) (hv : (execOp a.eval o).run P w = .ok (.value v) w') (h : wpSeq P ops Q rest (a.put o.dst v) w') : wpSeq P ops Q (o :: rest) a w := by
  unfold wpSeq
  rw [if_pos hw]
  unfold Oper.wp
  rw [hv]
  exact h
end

theorem results_loc {fn : Func} {p q : Tmp} (h : fn.results = #[.cell p 31, .tmp q]) (tmps : Array Value) {w : World} {E : Nat} {x y z : Int} (t : Value) (hp : tmps.getD p undef = .pointer (some ⟨E, 0, none⟩)) (hq : tmps.getD q undef = t)
    (hE : Blk w E [.int .i64 x, .int .i64 y, .int .i64 z] 31) : (results fn tmps).run Try.prog w = .ok (.tuple #[.agg #[.int .i64 x, .int .i64 y, .int .i64 z], t]) w := by
  have hp' : tmps[p]?.getD undef = .pointer (some ⟨E, 0, none⟩) := by simpa using hp
  have hq' : tmps[q]?.getD undef = t := by simpa using hq
  have e0 : w.cell? ⟨E, 0, none⟩ = some (.int .i64 x) := by rw [hE.cell]; rfl
  have e1 : w.cell? ⟨E, 1, none⟩ = some (.int .i64 y) := by rw [hE.cell]; rfl
  have e2 : w.cell? ⟨E, 2, none⟩ = some (.int .i64 z) := by rw [hE.cell]; rfl
  simp [results, h, hp', hq', go_sem, e0, e1, e2]
theorem SpAt.below {w : World} {b g cap : Nat} {ms : List Nat} {S : Sp} (h : SpAt w b g cap ms S) : ∀ x ∈ b :: g :: ms, x < w.heap.size := by
  intro x hx
  obtain ⟨C, hC, _⟩ := h.row
  simp only [List.mem_cons] at hx
  rcases hx with rfl | rfl | hx
  · exact h.head.lt
  · exact hC.lt
  · obtain ⟨i, hi, rfl⟩ := List.getElem_of_mem hx
    have := (h.maps i (by rw [← h.len.1]; exact hi)).lt
    unfold nth at this
    rwa [List.getD_eq_getElem?_getD, List.getElem?_eq_getElem hi] at this
theorem fresh_mod {T : List Nat} {a b c : World} (h : Mod T a b) (k : Below b.heap.size b c) : Mod T a c := h.thenBelow k

/-- What Alloc ends with. -/
def AllocEnds (S : Sp) (b g cap : Nat) (ms : List Nat) (n : Int) (spare : Bool) (w : World) (e : Ending) (w' : World) : Prop :=
  e = .returned (.tuple #[.agg #[.int .i64 ((S.alloc n spare).1.1 : Nat), .int .i64 ((S.alloc n spare).1.2.1 : Nat), .int .i64 ((S.alloc n spare).1.2.2 : Nat)], .int .i64 ((S.alloc n spare).2.1 : Nat)]) ∧ SpAt w' b g cap ms (S.alloc n spare).2.2 ∧ Mod (b :: g :: ms) w w'
/-- A segment that takes the piece is found. -/
def AllocAt (S : Sp) (b g cap : Nat) (ms : List Nat) (n : Int) (spare : Bool) (R : Nat) (w1 wx : World) : Prop :=
  ∃ i m : Nat, SpAt wx b g cap ms ⟨S.segs, S.per, S.ls, i, m, S.cnt⟩ ∧ Mod (b :: g :: ms) w1 wx ∧ Blk wx R [.int .i64 0, .int .i64 0, .int .i64 0] 31 ∧ (⟨S.segs, S.per, S.ls, i, m, S.cnt⟩ : Sp).Good ∧ i < S.segs ∧ (m : Int) + n ≤ S.per ∧ S.alloc n spare = ((i, m, n.toNat), 0, S.fill i m n.toNat)

set_option maxRecDepth 10000 in
set_option maxHeartbeats 4000000 in
theorem alloc_any (S : Sp) (hS0 : S.Good) (hc : S.cnt < 10000) (b g cap : Nat) (ms : List Nat) (n : Int) (spare : Bool) (hn : isInt n) (w : World) (h : SpAt w b g cap ms S) :
    Calls Try.prog 15 #[.pointer (some ⟨b, 0, none⟩), .int .i64 n, .bool spare] w (AllocEnds S b g cap ms n spare w) := by
  have hR0 : Blk (w.alloc (.cells #[.int .i64 0, .int .i64 0, .int .i64 0] 31)) w.heap.size [.int .i64 0, .int .i64 0, .int .i64 0] 31 := Blk.new _ _ _
  have hb0 := (Below.refl w.heap.size w).alloc (Nat.le_refl _) (.cells #[.int .i64 0, .int .i64 0, .int .i64 0] 31)
  have h1 := h.on hb0
  unfold isInt at hn
  have hsegs := hS0.inv.segs
  have hper := hS0.inv.per
  have hmk := hS0.inv.mark
  have hnow := hS0.inv.now
  have hbl := h.below
  go_enter Try.func15, Try.ntmps15
  go_upto_region 1 with fail
  generalize w.alloc (.cells #[.int .i64 0, .int .i64 0, .int .i64 0] 31) = w1 at *
  obtain ⟨c0, c1, c2, c3⟩ := h1.cells
  have r0 : w1.cell? ⟨w.heap.size, 0, none⟩ = some (.int .i64 0) := by rw [hR0.cell]; rfl
  have r1 : w1.cell? ⟨w.heap.size, 1, none⟩ = some (.int .i64 0) := by rw [hR0.cell]; rfl
  have r2 : w1.cell? ⟨w.heap.size, 2, none⟩ = some (.int .i64 0) := by rw [hR0.cell]; rfl
  have f0 := hR0.free 0
  have f1 := hR0.free 1
  have f2 := hR0.free 2
  by_cases hbad : n < 1 ∨ (S.per : Int) < n
  · have HA := Lib.hid (show S.alloc n spare = ((0, 0, 0), 2, S) by unfold Sp.alloc; rw [if_pos hbad])
    have hbz := ((hb0.setCell (p := ⟨w.heap.size, 0, none⟩) (Nat.le_refl _) (.int .i64 0)).setCell (p := ⟨w.heap.size, 1, none⟩) (Nat.le_refl _) (.int .i64 0)).setCell (p := ⟨w.heap.size, 2, none⟩) (Nat.le_refl _) (.int .i64 0)
    have hRz := ((hR0.set 0 (.int .i64 0)).set 1 (.int .i64 0)).set 2 (.int .i64 0)
    by_cases h3 : n < 1
    · clear hbad
      go_wp2_with fail
      exact bodyPost_ret (results_loc (x := 0) (y := 0) (z := 0) rfl _ (.int .i64 2) rfl rfl hRz) rfl ⟨by rw [HA.out]; rfl, by rw [HA.out]; exact h.on hbz, Mod.of_below hbz⟩
    · have h4 : (S.per : Int) < n := by omega
      clear hbad
      go_wp2_with fail
      exact bodyPost_ret (results_loc (x := 0) (y := 0) (z := 0) rfl _ (.int .i64 2) rfl rfl hRz) rfl ⟨by rw [HA.out]; rfl, by rw [HA.out]; exact h.on hbz, Mod.of_below hbz⟩
  · have h3 : ¬ n < 1 := by omega
    have h4 : ¬ (S.per : Int) < n := by omega
    have HB := Lib.hid hbad
    clear hbad
    go_upto_region 5 with fail
    clear c0 c1 c2 c3 r0 r1 r2 f0 f1 f2
    have HF := Lib.hid (show ∀ w', Below w1.heap.size w1 w' → (w'.cell? ⟨b, 1, none⟩ = some (.int .i64 S.per) ∧ w'.cell? ⟨b, 2, none⟩ = some (.int .i64 S.now) ∧ w'.cell? ⟨b, 3, none⟩ = some (.int .i64 S.mark)) from
      fun w' hb => ⟨(h1.on hb).cells.2.1, (h1.on hb).cells.2.2.1, (h1.on hb).cells.2.2.2⟩)
    have hwr : IntKind.i64.wrap ((S.mark : Int) + n) = (S.mark : Int) + n := IntWalk.i64_in _ (by omega)
    go_cut [43] (fun s43 wx => s43 = .bool (decide (S.now < 0 ∨ (S.per : Int) < S.mark + n)) ∧ Below w1.heap.size w1 wx)
    case first =>
      by_cases q1 : S.now < 0
      · have HD := Lib.hid (show decide (S.now < 0 ∨ (S.per : Int) < S.mark + n) = true by simp [q1])
        refine wp_region_settle (Below w1.heap.size w1) (by kernel_rfl) (by kernel_rfl) (by kernel_rfl) (below_drew (Below.refl _ _)) ?_
        repeat (first
          | (refine settled_not ?_ ?_
             · rfl
             simp only [Act.put, List.setIfInBounds_toArray, List.set_cons_zero, List.set_cons_succ])
          | (refine settled_val (v := ?_) ?_ (fun w' hS => ?_) ?_
             rotate_left
             · rfl
             · obtain ⟨k0, k1, k2⟩ := HF.out w' hS
               go_simp
               with_reducible rfl
             simp only [Act.put, List.setIfInBounds_toArray, List.set_cons_zero, List.set_cons_succ]))
        refine settled_nil (fun w2 hS => ?_)
        go_wp2_with fail
        go_meet
        exact ⟨by rw [HD.out], hS⟩
      · by_cases q2 : (S.per : Int) < S.mark + n
        · have HD := Lib.hid (show decide (S.now < 0 ∨ (S.per : Int) < S.mark + n) = true by simp [q2])
          refine wp_region_settle (Below w1.heap.size w1) (by kernel_rfl) (by kernel_rfl) (by kernel_rfl) (below_drew (Below.refl _ _)) ?_
          repeat (first
            | (refine settled_not ?_ ?_
               · rfl
               simp only [Act.put, List.setIfInBounds_toArray, List.set_cons_zero, List.set_cons_succ])
            | (refine settled_val (v := ?_) ?_ (fun w' hS => ?_) ?_
               rotate_left
               · rfl
               · obtain ⟨k0, k1, k2⟩ := HF.out w' hS
                 go_simp
                 with_reducible rfl
               simp only [Act.put, List.setIfInBounds_toArray, List.set_cons_zero, List.set_cons_succ]))
          refine settled_nil (fun w2 hS => ?_)
          go_wp2_with fail
          go_meet
          exact ⟨by rw [HD.out], hS⟩
        · have HD := Lib.hid (show decide (S.now < 0 ∨ (S.per : Int) < S.mark + n) = false by simp; omega)
          refine wp_region_settle (Below w1.heap.size w1) (by kernel_rfl) (by kernel_rfl) (by kernel_rfl) (below_drew (Below.refl _ _)) ?_
          repeat (first
            | (refine settled_not ?_ ?_
               · rfl
               simp only [Act.put, List.setIfInBounds_toArray, List.set_cons_zero, List.set_cons_succ])
            | (refine settled_val (v := ?_) ?_ (fun w' hS => ?_) ?_
               rotate_left
               · rfl
               · obtain ⟨k0, k1, k2⟩ := HF.out w' hS
                 go_simp
                 with_reducible rfl
               simp only [Act.put, List.setIfInBounds_toArray, List.set_cons_zero, List.set_cons_succ]))
          refine settled_nil (fun w2 hS => ?_)
          go_wp2_with fail
          go_meet
          exact ⟨by rw [HD.out], hS⟩
    case rest =>
    obtain ⟨rfl, hb2⟩ := hcut
    generalize wc = w2 at *
    have h2 := h1.on hb2
    have hR2 := hR0.on hb2
    have hbb := hb0.on hb2
    clear HF hwr
    go_upto_if 43 with fail
    go_cut [2, 8] (fun s2 _ wx => s2 = .bool spare ∧ AllocAt S b g cap ms n spare w.heap.size w2 wx)
    case first =>
      by_cases q : S.now < 0 ∨ (S.per : Int) < S.mark + n
      · have hq : decide (S.now < 0 ∨ (S.per : Int) < S.mark + n) = true := by simpa using q
        rw [hq]
        have HA := Lib.hid (show S.alloc n spare = (match S.free with | [] => ((0, 0, 0), 7, S) | i :: r => if r = [] ∧ spare = false then ((0, 0, 0), 7, S) else ((i, 0, n.toNat), 0, S.fill i 0 n.toNat)) by unfold Sp.alloc; rw [if_neg HB.out, if_pos q]; rfl)
        clear q hq
        obtain ⟨c0, c1, c2, c3⟩ := h2.cells
        go_wp2_with fail
        refine (which_free S b g cap ms S.isFree w2 h2 hsegs.2 (fun i wr hi hbr => free_q (nth ms i) i (liveN S.ls i) wr)).mono ?_
        rintro e w3 ⟨v, rfl, hown, hb3⟩
        have h3' := h2.on hb3
        have hR3 := hR2.on hb3
        have hb03 := hbb.on hb3
        have r0 : w3.cell? ⟨w.heap.size, 0, none⟩ = some (.int .i64 0) := by rw [hR3.cell]; rfl
        have r1 : w3.cell? ⟨w.heap.size, 1, none⟩ = some (.int .i64 0) := by rw [hR3.cell]; rfl
        have r2 : w3.cell? ⟨w.heap.size, 2, none⟩ = some (.int .i64 0) := by rw [hR3.cell]; rfl
        have f0 := hR3.free 0
        have f1 := hR3.free 1
        have f2 := hR3.free 2
        have hbz := ((hb03.setCell (p := ⟨w.heap.size, 0, none⟩) (Nat.le_refl _) (.int .i64 0)).setCell (p := ⟨w.heap.size, 1, none⟩) (Nat.le_refl _) (.int .i64 0)).setCell (p := ⟨w.heap.size, 2, none⟩) (Nat.le_refl _) (.int .i64 0)
        have hRz := ((hR3.set 0 (.int .i64 0)).set 1 (.int .i64 0)).set 2 (.int .i64 0)
        obtain ⟨d0, d1, d2, d3⟩ := h3'.cells
        have p2 := h3'.head.free 2
        have p3 := h3'.head.free 3
        clear c0 c1 c2 c3
        have hF : S.free = (List.range S.segs).filter S.isFree := rfl
        have HZ := Lib.hid (show ∀ i ∈ S.free, i < S.segs ∧ liveN S.ls i = 0 from fun i hi => by
          have := List.mem_filter.1 hi
          exact ⟨List.mem_range.1 this.1, by simpa using this.2⟩)
        rw [← hF] at hown
        clear hF
        cases hL : S.free with
        | nil =>
          have HA2 := Lib.hid (show S.alloc n spare = ((0, 0, 0), 7, S) by rw [HA.out, hL])
          rw [hL] at hown
          rcases hown.2 with ⟨rfl, _⟩ | ⟨gg, cp, cur, rfl, _⟩
          · clear hown
            go_wp2_with fail
            exact bodyPost_ret (results_loc (x := 0) (y := 0) (z := 0) rfl _ (.int .i64 7) rfl rfl hRz) rfl ⟨by rw [HA2.out]; rfl, by rw [HA2.out]; exact h.on hbz, Mod.of_below hbz⟩
          · clear hown
            go_wp2_with fail
            exact bodyPost_ret (results_loc (x := 0) (y := 0) (z := 0) rfl _ (.int .i64 7) rfl rfl hRz) rfl ⟨by rw [HA2.out]; rfl, by rw [HA2.out]; exact h.on hbz, Mod.of_below hbz⟩
        | cons i r =>
          rw [hL] at hown
          obtain ⟨hi, hi0⟩ := HZ.out i (by rw [hL]; simp)
          rcases hown.2 with ⟨_, h0⟩ | ⟨gg, cp, cur, rfl, _, hgg, hcp, _⟩
          · simp at h0
          · have e0 : w3.cell? ⟨gg, 0, none⟩ = some (.int .i64 i) := by
              have := hown.cellAt 0 (by simp)
              rw [this]; rfl
            have hgood := hS0.start hi hi0 0 (Nat.zero_le _)
            have hs4 : SpAt ((w3.setCell ⟨b, 2, none⟩ (.int .i64 i)).setCell ⟨b, 3, none⟩ (.int .i64 0)) b g cap ms ⟨S.segs, S.per, S.ls, i, 0, S.cnt⟩ := (h3'.now i).mark 0
            have hm4 : Mod (b :: g :: ms) w2 ((w3.setCell ⟨b, 2, none⟩ (.int .i64 i)).setCell ⟨b, 3, none⟩ (.int .i64 0)) := ((Mod.of_below hb3).setCell ⟨b, 2, none⟩ (.int .i64 i) (.inl (by simp))).setCell ⟨b, 3, none⟩ (.int .i64 0) (.inl (by simp))
            have hne : w.heap.size ≠ b := by have := hbl b (by simp); omega
            have hR4 : Blk ((w3.setCell ⟨b, 2, none⟩ (.int .i64 i)).setCell ⟨b, 3, none⟩ (.int .i64 0)) w.heap.size [.int .i64 0, .int .i64 0, .int .i64 0] 31 := (hR3.other ⟨b, 2, none⟩ _ hne).other ⟨b, 3, none⟩ _ hne
            have HE := Lib.hid (show ¬ (r = [] ∧ spare = false) → AllocAt S b g cap ms n spare w.heap.size w2 ((w3.setCell ⟨b, 2, none⟩ (.int .i64 i)).setCell ⟨b, 3, none⟩ (.int .i64 0)) from fun hx =>
              ⟨i, 0, hs4, hm4, hR4, hgood, hi, by omega, by rw [HA.out, hL]; exact if_neg hx⟩)
            have HN := Lib.hid (show r = [] ∧ spare = false → S.alloc n spare = ((0, 0, 0), 7, S) from fun hx => by rw [HA.out, hL]; exact if_pos hx)
            clear hown hs4 hm4 hR4 hgood hL hi0
            by_cases hr : r = []
            · have hl : (i :: r).length = 1 := by rw [hr]; rfl
              rcases Bool.eq_false_or_eq_true spare with hsp | hsp
              · have HX := Lib.hid (HE.out (by simp [hsp]))
                have HSp := Lib.hid hsp
                clear hr
                generalize (i :: r).length = N at *
                subst hl
                go_wp2_with fail
                go_meet
                exact ⟨by rw [HSp.out], HX.out⟩
              · have HX := Lib.hid (HN.out ⟨hr, hsp⟩)
                clear hr
                generalize (i :: r).length = N at *
                subst hl
                go_wp2_with fail
                exact bodyPost_ret (results_loc (x := 0) (y := 0) (z := 0) rfl _ (.int .i64 7) rfl rfl hRz) rfl ⟨by rw [HX.out]; rfl, by rw [HX.out]; exact h.on hbz, Mod.of_below hbz⟩
            · have HX := Lib.hid (HE.out (fun hx => hr hx.1))
              have hl : 2 ≤ (i :: r).length := by
                cases r with
                | nil => exact absurd rfl hr
                | cons _ _ => simp
              clear hr
              generalize (i :: r).length = N at *
              have hn0 : ((N : Int) == 0) = false := by simp; omega
              have hn1 : ((N : Int) == 1) = false := by simp; omega
              go_wp2_with fail
              go_meet
              exact ⟨rfl, HX.out⟩
      · have hq : decide (S.now < 0 ∨ (S.per : Int) < S.mark + n) = false := by simpa using q
        rw [hq]
        obtain ⟨i, hi⟩ := Int.eq_ofNat_of_zero_le (show 0 ≤ S.now by omega)
        have HA := Lib.hid (show S.alloc n spare = ((i, S.mark, n.toNat), 0, S.fill i S.mark n.toNat) by unfold Sp.alloc; rw [if_neg HB.out, if_neg q, hi]; rfl)
        have HG := Lib.hid (show (⟨S.segs, S.per, S.ls, (i : Int), S.mark, S.cnt⟩ : Sp) = S by rw [← hi])
        clear hq
        go_wp2_with fail
        go_meet
        exact ⟨rfl, i, S.mark, by rw [HG.out]; exact h2, Mod.refl _ _, hR2, by rw [HG.out]; exact hS0, by omega, by omega, HA.out⟩
    case rest =>
    obtain ⟨rfl, i, m, hs3, hm3, hR3, hgood, hi, hmn, hall⟩ := hcut
    generalize wc = w3 at *
    obtain ⟨c, rfl⟩ := Int.eq_ofNat_of_zero_le (show 0 ≤ n by omega)
    have HALL := Lib.hid hall
    have hm03 : Mod (b :: g :: ms) w w3 := (Mod.of_below hbb).trans hm3
    clear hall hS0 h1 h2 hR0 hR2 hm3 hbb hb2 hb0
    go_upto_region 10 with fail
    have HF := Lib.hid (show ∀ w', Below w3.heap.size w3 w' → (w'.cell? ⟨b, 2, none⟩ = some (.int .i64 i) ∧ w'.cell? ⟨b, 3, none⟩ = some (.int .i64 m)) from
      fun w' hb => ⟨(hs3.on hb).cells.2.2.1, (hs3.on hb).cells.2.2.2⟩)
    refine wp_region_float [0, 1, 2, 3, 4, 5, 6, 7, 8, 9] [10, 11] [11] (Below w3.heap.size w3) (by kernel_rfl) (by kernel_rfl) (by kernel_rfl) (by kernel_rfl) (fun c a d v w h => by cases d <;> exact h) (below_drew (Below.refl _ _)) ?_
    have hS : Below w3.heap.size w3 { w3 with drawn := w3.drawn + 1 } := below_drew (Below.refl _ _)
    generalize ({ w3 with drawn := w3.drawn + 1 } : World) = w4 at *
    simp only [pick, List.map_cons, List.map_nil, List.getD_cons_zero, List.getD_cons_succ]
    repeat (
      refine takes_val (v := ?_) ?_ (fun w' hS => ?_) ?_
      rotate_left
      · rfl
      · obtain ⟨k0, k1⟩ := HF.out w' hS
        go_simp
        with_reducible rfl
      simp only [Act.put, List.setIfInBounds_toArray, List.set_cons_zero, List.set_cons_succ])
    refine takes_nil ?_
    have hN4 : Blk (w4.alloc (.cells #[.int .i64 0, .int .i64 0, .int .i64 0] 31)) w4.heap.size [.int .i64 0, .int .i64 0, .int .i64 0] 31 := Blk.new _ _ _
    have hb4 := (Below.refl w4.heap.size w4).alloc (Nat.le_refl _) (.cells #[.int .i64 0, .int .i64 0, .int .i64 0] 31)
    refine seqW_step (by rfl) (fun K hK => ?_)
    go_simp
    refine hK.out _ _ (.inr (hS.on hb4)) ?_
    clear hK K
    refine seqW_step (by rfl) (fun K hK => ?_)
    refine wp_store_row 31 _ _ rfl w4.heap.size _ rfl rfl 31 _ hN4 rfl rfl (by simp [Value.oneCell']) ?_
    refine hK.out _ _ (.inl (by rfl)) (seqW_nil ?_)
    clear hK K
    have hL5 := setRow_blk hN4 [.int .i64 i, .int .i64 m, .int .i64 c]
    have hb5 := Mod.fresh hb4 (setRow_mod (w4.alloc (.cells #[.int .i64 0, .int .i64 0, .int .i64 0] 31)) w4.heap.size #[.int .i64 i, .int .i64 m, .int .i64 c]) (by simp)
    have hb35 := hS.on hb5
    simp only [Act.put, List.setIfInBounds_toArray, List.set_cons_zero, List.set_cons_succ]
    change Blk ((w4.alloc (.cells #[.int .i64 0, .int .i64 0, .int .i64 0] 31)).setRow w4.heap.size #[.int .i64 i, .int .i64 m, .int .i64 c]) w4.heap.size [.int .i64 i, .int .i64 m, .int .i64 c] 31 at hL5
    generalize (w4.alloc (.cells #[.int .i64 0, .int .i64 0, .int .i64 0] 31)).setRow w4.heap.size #[.int .i64 i, .int .i64 m, .int .i64 c] = w5 at *
    have hs5 := hs3.on hb35
    have hR5 := hR3.on hb35
    have hLge : w.heap.size < w4.heap.size := Nat.lt_of_lt_of_le hR3.lt hS.size
    generalize w4.heap.size = L at *
    clear HF hN4 hb4 hb5 hS
    go_upto_region 11 with fail
    obtain ⟨c0, c1, c2, c3⟩ := hs5.cells
    have p3 := hs5.head.free 3
    have hwr : IntKind.i64.wrap ((m : Int) + c) = (m : Int) + c := IntWalk.i64_in _ (by omega)
    have ec : ((m + c : Nat) : Int) = (m : Int) + c := by omega
    have hs6 : SpAt (w5.setCell ⟨b, 3, none⟩ (.int .i64 ((m : Int) + c))) b g cap ms ⟨S.segs, S.per, S.ls, i, m + c, S.cnt⟩ := by
      have := hs5.mark (m + c)
      rw [ec] at this
      exact this
    have hbb := hbl b (by simp)
    have hL6 := hL5.other ⟨b, 3, none⟩ (.int .i64 ((m : Int) + c)) (by show L ≠ b; omega)
    have hR6 := hR5.other ⟨b, 3, none⟩ (.int .i64 ((m : Int) + c)) (by show w.heap.size ≠ b; omega)
    have hm06 := (hm03.thenBelow hb35).setCell ⟨b, 3, none⟩ (.int .i64 ((m : Int) + c)) (.inl (by simp))
    go_upto_region 12 with fail
    clear c0 c1 c2 c3 p3 hs5 hL5 hR5 hb35 hm03 hs3 hR3 ec
    generalize w5.setCell ⟨b, 3, none⟩ (.int .i64 ((m : Int) + c)) = w6 at *
    have l0 : w6.cell? ⟨L, 0, none⟩ = some (.int .i64 i) := by rw [hL6.cell]; rfl
    have l1 : w6.cell? ⟨L, 1, none⟩ = some (.int .i64 m) := by rw [hL6.cell]; rfl
    have l2 : w6.cell? ⟨L, 2, none⟩ = some (.int .i64 c) := by rw [hL6.cell]; rfl
    have hz := hgood.zero (i := i) (pl := m) (n := c) (by omega) (fun p hp e => by have := hgood.inv.below p hp (by show (p.seg : Int) = i; omega); exact .inl this)
    have HADD := Lib.hid (add_any ⟨S.segs, S.per, S.ls, i, m + c, S.cnt⟩ b g cap ms i m c w6 hs6 hsegs.2 hi (by omega) (by omega) (by omega) hgood.pos hz (by show S.cnt < 1000000; omega) (by have := hgood.live hc i; show liveN S.ls i ≤ 1000000; have h2 : liveN S.ls i ≤ 640000 := this; omega))
    clear hz
    go_wp2_with fail
    refine HADD.out.mono ?_
    rintro e w7 ⟨rfl, hs7, hm7⟩
    have hlt6 : ∀ x ∈ b :: g :: ms, x < w.heap.size := hbl
    have hL7 := hL6.mod hm7 (fun hin => by have := hlt6 _ hin; omega)
    have hR7 := hR6.mod hm7 (fun hin => by have := hlt6 _ hin; omega)
    have hm07 := hm06.trans hm7
    clear l0 l1 l2 HADD hL6 hR6 hm06 hm7 hs6
    have l0 : w7.cell? ⟨L, 0, none⟩ = some (.int .i64 i) := by rw [hL7.cell]; rfl
    have l1 : w7.cell? ⟨L, 1, none⟩ = some (.int .i64 m) := by rw [hL7.cell]; rfl
    have l2 : w7.cell? ⟨L, 2, none⟩ = some (.int .i64 c) := by rw [hL7.cell]; rfl
    go_upto_region 13 with fail
    refine wp_region_seq ?_
    refine seq_step (by rfl) (fun K hK => ?_)
    go_simp
    refine hK.out _ _ ?_
    clear hK K
    refine seq_step (by rfl) (fun K hK => ?_)
    refine wp_store_row 31 _ _ rfl w.heap.size _ rfl rfl 31 _ hR7 rfl rfl (by simp [Value.oneCell']) ?_
    refine hK.out _ _ ?_
    clear hK K
    have hR8 := setRow_blk hR7 [.int .i64 i, .int .i64 m, .int .i64 c]
    have hs8 := hs7.mod (setRow_mod w7 w.heap.size #[.int .i64 i, .int .i64 m, .int .i64 c]) (fun x hx => by have := hlt6 x hx; simp only [List.mem_singleton]; omega)
    have hm8 := hm07.on (setRow_mod w7 w.heap.size #[.int .i64 i, .int .i64 m, .int .i64 c]) (by simp)
    simp only [Act.put, List.setIfInBounds_toArray, List.set_cons_zero, List.set_cons_succ]
    refine seq_step (by rfl) (fun K hK => ?_)
    go_simp
    refine hK.out _ _ (seq_nil ?_)
    clear hK K
    have HALL2 := Lib.hid (show S.alloc (c : Int) spare = ((i, m, c), 0, S.fill i m c) by rw [HALL.out]; rfl)
    clear l0 l1 l2 hL7 hR7 hs7 hm07
    go_wp2_with fail
    exact bodyPost_ret (results_loc rfl _ (.int .i64 0) rfl rfl hR8) rfl ⟨by rw [HALL2.out]; rfl, by rw [HALL2.out]; exact hs8, hm8⟩
end Go.Proofs.Ytmicpjdlldjapaa
