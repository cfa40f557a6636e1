/-
  The document's Alloc. No condition.
-/
import Derived.Test.YtmicpjdlldjapaaRf8B
namespace Go.Proofs.Ytmicpjdlldjapaa
set_option linter.unusedVariables false
set_option linter.unusedSimpArgs false
open Go.RowKit

/-- The segments from i on in which nothing lives. -/
def freeFrom (S : Sp) (i : Nat) : List Nat := (List.range' i (S.segs - i)).filter fun j => liveN S.ls j == 0
theorem freeFrom_top (S : Sp) : freeFrom S S.segs = [] := by unfold freeFrom; rw [Nat.sub_self]; rfl
theorem freeFrom_zero (S : Sp) : freeFrom S 0 = S.free := by unfold freeFrom Sp.free; rw [Nat.sub_zero, ← List.range_eq_range']
theorem freeFrom_step (S : Sp) (j : Nat) (hj : j < S.segs) : freeFrom S j = if liveN S.ls j = 0 then j :: freeFrom S (j + 1) else freeFrom S (j + 1) := by
  unfold freeFrom
  rw [show S.segs - j = (S.segs - (j + 1)) + 1 by omega, List.range'_succ, List.filter_cons]
  by_cases h : liveN S.ls j = 0
  · rw [if_pos h, if_pos (by simpa using h)]
  · rw [if_neg h, if_neg (by simpa using h)]
theorem freeFrom_le (S : Sp) (j : Nat) : (freeFrom S j).length ≤ S.segs := by
  unfold freeFrom
  exact Nat.le_trans (List.length_filter_le _ _) (by simp)
/-- A segment that takes the piece is found. -/
def RAllocAt (S : Sp) (B r : Nat) (v : Value) (n : Int) (spare : Bool) (R : Nat) (w1 wx : World) : Prop :=
  ∃ i m : Nat, RAt wx B r v ⟨S.segs, S.per, S.ls, i, m, S.cnt⟩ ∧ Mod [r] w1 wx ∧ Blk wx R [.int .i64 0, .int .i64 0, .int .i64 0] 31 ∧ (⟨S.segs, S.per, S.ls, i, m, S.cnt⟩ : Sp).Good ∧ i < S.segs ∧ (m : Int) + n ≤ S.per ∧ S.alloc n spare = ((i, m, n.toNat), 0, S.fill i m n.toNat)
theorem RAt.begin {w : World} {B r : Nat} {v : Value} {S : Sp} (h : RAt w B r v S) (hB : B ≤ w.heap.size) (i : Int) (m : Nat) : RAt ((w.setCell ⟨r, 3, none⟩ (.int .i64 i)).setCell ⟨r, 4, none⟩ (.int .i64 m)) B r v ⟨S.segs, S.per, S.ls, i, m, S.cnt⟩ := by
  have hm : Mod [r] w ((w.setCell ⟨r, 3, none⟩ (.int .i64 i)).setCell ⟨r, 4, none⟩ (.int .i64 m)) := ((Mod.refl [r] w).setCell ⟨r, 3, none⟩ _ (.inl (by simp))).setCell ⟨r, 4, none⟩ _ (.inl (by simp))
  exact ⟨(h.head.set 3 _).set 4 _, ownsRow_mod h.own hm (fun s hs hh => by rw [List.mem_singleton.1 hs] at hh; have := (h.own.lt r hh).1; have := h.lt; omega), h.lt⟩
theorem RAt.mark {w : World} {B r : Nat} {v : Value} {S : Sp} (h : RAt w B r v S) (m : Int) (k : Nat) (hk : (k : Int) = m) : RAt (w.setCell ⟨r, 4, none⟩ (.int .i64 m)) B r v ⟨S.segs, S.per, S.ls, S.now, k, S.cnt⟩ := by
  subst hk
  have hm : Mod [r] w (w.setCell ⟨r, 4, none⟩ (.int .i64 (k : Int))) := (Mod.refl [r] w).setCell ⟨r, 4, none⟩ _ (.inl (by simp))
  exact ⟨h.head.set 4 _, ownsRow_mod h.own hm (fun s hs hh => by rw [List.mem_singleton.1 hs] at hh; have := (h.own.lt r hh).1; have := h.lt; omega), h.lt⟩
def allocR (S : Sp) (n : Int) (spare : Bool) : Value := .tuple #[.agg #[.int .i64 ((S.alloc n spare).1.1 : Nat), .int .i64 ((S.alloc n spare).1.2.1 : Nat), .int .i64 ((S.alloc n spare).1.2.2 : Nat)], .int .i64 ((S.alloc n spare).2.1 : Nat)]

set_option maxRecDepth 10000 in
set_option maxHeartbeats 4000000 in
theorem ralloc_any (S : Sp) (hS0 : S.Good) (hc : S.cnt < 10000) (B r : Nat) (v : Value) (n : Int) (spare : Bool) (hn : isInt n) (w : World) (h : RAt w B r v S) (hB : B ≤ w.heap.size) :
    Calls Try.prog 16 #[.pointer (some ⟨r, 0, none⟩), .int .i64 n, .bool spare] w (REnds B r v (S.alloc n spare).2.2 (allocR S n spare) w) := by
  have hR0 : Blk (w.alloc (.cells #[.int .i64 0, .int .i64 0, .int .i64 0] 31)) w.heap.size [.int .i64 0, .int .i64 0, .int .i64 0] 31 := Blk.new _ _ _
  have hb0 := (Below.refl w.heap.size w).alloc (Nat.le_refl _) (.cells #[.int .i64 0, .int .i64 0, .int .i64 0] 31)
  have h1 := h.on hb0
  unfold isInt at hn
  have hsegs := hS0.inv.segs
  have hper := hS0.inv.per
  have hmk := hS0.inv.mark
  have hnow := hS0.inv.now
  have hcn := hS0.cnt
  have hrB := h.lt
  have hvb : ∀ x, v.ownBlock = some x → B ≤ x ∧ x < w.heap.size := fun x hx => h.own.lt x hx
  go_enter Try.func16, Try.ntmps16
  go_upto_region 1 with fail
  generalize w.alloc (.cells #[.int .i64 0, .int .i64 0, .int .i64 0] 31) = w1 at *
  obtain ⟨c0, c1, c2, c3, c4⟩ := h1.cells
  have r0 : w1.cell? ⟨w.heap.size, 0, none⟩ = some (.int .i64 0) := by rw [hR0.cell]; rfl
  have r1 : w1.cell? ⟨w.heap.size, 1, none⟩ = some (.int .i64 0) := by rw [hR0.cell]; rfl
  have r2 : w1.cell? ⟨w.heap.size, 2, none⟩ = some (.int .i64 0) := by rw [hR0.cell]; rfl
  have f0 := hR0.free 0
  have f1 := hR0.free 1
  have f2 := hR0.free 2
  by_cases hbad : n < 1 ∨ (S.per : Int) < n
  · have HA := Lib.hid (show S.alloc n spare = ((0, 0, 0), 2, S) by unfold Sp.alloc; rw [if_pos hbad])
    have hbz := ((hb0.setCell (p := ⟨w.heap.size, 0, none⟩) (Nat.le_refl _) (.int .i64 0)).setCell (p := ⟨w.heap.size, 1, none⟩) (Nat.le_refl _) (.int .i64 0)).setCell (p := ⟨w.heap.size, 2, none⟩) (Nat.le_refl _) (.int .i64 0)
    have hRz := ((hR0.set 0 (.int .i64 0)).set 1 (.int .i64 0)).set 2 (.int .i64 0)
    by_cases h3 : n < 1
    · clear hbad
      go_wp2_with fail
      exact bodyPost_ret (results_loc (x := 0) (y := 0) (z := 0) rfl _ (.int .i64 2) rfl rfl hRz) rfl ⟨v, by unfold allocR; rw [HA.out]; rfl, by rw [HA.out]; exact h.on hbz, Mod.of_below hbz, fun x hx => .inl hx⟩
    · have h4 : (S.per : Int) < n := by omega
      clear hbad
      go_wp2_with fail
      exact bodyPost_ret (results_loc (x := 0) (y := 0) (z := 0) rfl _ (.int .i64 2) rfl rfl hRz) rfl ⟨v, by unfold allocR; rw [HA.out]; rfl, by rw [HA.out]; exact h.on hbz, Mod.of_below hbz, fun x hx => .inl hx⟩
  · have h3 : ¬ n < 1 := by omega
    have h4 : ¬ (S.per : Int) < n := by omega
    have HB := Lib.hid hbad
    clear hbad
    go_upto_region 3 with fail
    clear c0 c1 c2 c3 c4 r0 r1 r2 f0 f1 f2
    have HF := Lib.hid (show ∀ w', Below w1.heap.size w1 w' → (w'.cell? ⟨r, 1, none⟩ = some (.int .i64 S.per) ∧ w'.cell? ⟨r, 3, none⟩ = some (.int .i64 S.now) ∧ w'.cell? ⟨r, 4, none⟩ = some (.int .i64 S.mark)) from
      fun w' hb => ⟨(h1.on hb).cells.2.1, (h1.on hb).cells.2.2.2.1, (h1.on hb).cells.2.2.2.2⟩)
    have hwr : IntKind.i64.wrap ((S.mark : Int) + n) = (S.mark : Int) + n := IntWalk.i64_in _ (by omega)
    go_cut [40] (fun s40 wx => s40 = .bool (decide (S.now < 0 ∨ (S.per : Int) < S.mark + n)) ∧ Below w1.heap.size w1 wx)
    case first =>
      by_cases q1 : S.now < 0
      · have HD := Lib.hid (show decide (S.now < 0 ∨ (S.per : Int) < S.mark + n) = true by simp [q1])
        refine wp_region_settle (Below w1.heap.size w1) (by kernel_rfl) (by kernel_rfl) (by kernel_rfl) (below_drew (Below.refl _ _)) ?_
        repeat (first
          | (refine settled_not ?_ ?_
             · rfl
             simp only [Act.put, List.setIfInBounds_toArray, List.set_cons_zero, List.set_cons_succ])
          | (refine settled_val (v := ?_) ?_ (fun w' hS => ?_) ?_
             rotate_left
             · rfl
             · obtain ⟨k0, k1, k2⟩ := HF.out w' hS
               go_simp
               with_reducible rfl
             simp only [Act.put, List.setIfInBounds_toArray, List.set_cons_zero, List.set_cons_succ]))
        refine settled_nil (fun w2 hS => ?_)
        go_wp2_with fail
        go_meet
        exact ⟨by rw [HD.out], hS⟩
      · by_cases q2 : (S.per : Int) < S.mark + n
        · have HD := Lib.hid (show decide (S.now < 0 ∨ (S.per : Int) < S.mark + n) = true by simp [q2])
          refine wp_region_settle (Below w1.heap.size w1) (by kernel_rfl) (by kernel_rfl) (by kernel_rfl) (below_drew (Below.refl _ _)) ?_
          repeat (first
            | (refine settled_not ?_ ?_
               · rfl
               simp only [Act.put, List.setIfInBounds_toArray, List.set_cons_zero, List.set_cons_succ])
            | (refine settled_val (v := ?_) ?_ (fun w' hS => ?_) ?_
               rotate_left
               · rfl
               · obtain ⟨k0, k1, k2⟩ := HF.out w' hS
                 go_simp
                 with_reducible rfl
               simp only [Act.put, List.setIfInBounds_toArray, List.set_cons_zero, List.set_cons_succ]))
          refine settled_nil (fun w2 hS => ?_)
          go_wp2_with fail
          go_meet
          exact ⟨by rw [HD.out], hS⟩
        · have HD := Lib.hid (show decide (S.now < 0 ∨ (S.per : Int) < S.mark + n) = false by simp; omega)
          refine wp_region_settle (Below w1.heap.size w1) (by kernel_rfl) (by kernel_rfl) (by kernel_rfl) (below_drew (Below.refl _ _)) ?_
          repeat (first
            | (refine settled_not ?_ ?_
               · rfl
               simp only [Act.put, List.setIfInBounds_toArray, List.set_cons_zero, List.set_cons_succ])
            | (refine settled_val (v := ?_) ?_ (fun w' hS => ?_) ?_
               rotate_left
               · rfl
               · obtain ⟨k0, k1, k2⟩ := HF.out w' hS
                 go_simp
                 with_reducible rfl
               simp only [Act.put, List.setIfInBounds_toArray, List.set_cons_zero, List.set_cons_succ]))
          refine settled_nil (fun w2 hS => ?_)
          go_wp2_with fail
          go_meet
          exact ⟨by rw [HD.out], hS⟩
    case rest =>
    obtain ⟨rfl, hb2⟩ := hcut
    generalize wc = w2 at *
    have h2 := h1.on hb2
    have hR2 := hR0.on hb2
    have hbb := hb0.on hb2
    have hBw2 : B ≤ w2.heap.size := Nat.le_trans hB hbb.size
    clear HF hwr
    go_upto_if 40 with fail
    go_cut [2, 8, 9, 10] (fun s2 _ _ _ wx => s2 = .bool spare ∧ RAllocAt S B r v n spare w.heap.size w2 wx)
    case first =>
      by_cases q : S.now < 0 ∨ (S.per : Int) < S.mark + n
      · have hq : decide (S.now < 0 ∨ (S.per : Int) < S.mark + n) = true := by simpa using q
        rw [hq]
        have HA := Lib.hid (show S.alloc n spare = (match S.free with | [] => ((0, 0, 0), 7, S) | i :: r => if r = [] ∧ spare = false then ((0, 0, 0), 7, S) else ((i, 0, n.toNat), 0, S.fill i 0 n.toNat)) by unfold Sp.alloc; rw [if_neg HB.out, if_pos q]; rfl)
        clear q hq
        obtain ⟨c0, c1, c2, c3, c4⟩ := h2.cells
        have HLv := Lib.hid (fun (k : Nat) => rlive_any S hS0 hc B r v k w2 h2)
        have HT := Lib.hid (freeFrom_top S)
        have HSt := Lib.hid (freeFrom_step S)
        have HLe := Lib.hid (freeFrom_le S)
        have HFz := Lib.hid (freeFrom_zero S)
        have hws : IntKind.i64.wrap ((S.segs : Int) - 1) = (S.segs : Int) - 1 := IntWalk.i64_in _ (by omega)
        go_upto_block 0 with fail
        go_cut [8, 9, 10] (fun s8 s9 _ wx => w2 = wx ∧ s8 = bestV S.free.head? ∧ s9 = .int .i64 (S.free.length : Nat))
        case first =>
          go_wp2_with fail
          go_loopw [8, 9, 10] (fun s8 s9 s10 wr => w2 = wr ∧ ∃ (i : Nat) (z : Int), i ≤ S.segs ∧ z = (i : Int) - 1 ∧ s10 = .int .i64 z ∧ s8 = bestV (freeFrom S i).head? ∧ s9 = .int .i64 ((freeFrom S i).length : Nat)) (fun _ _ s10 _ => ((intOf s10) + 1).toNat)
          case atStart => exact ⟨rfl, S.segs, _, by omega, rfl, rfl, by rw [HT.out]; rfl, by rw [HT.out]; rfl⟩
          case round =>
            obtain ⟨rfl, i, z, hi, hz, rfl, rfl, rfl⟩ := hrel
            cases i with
            | zero =>
              obtain rfl : z = -1 := by omega
              rw [HFz.out]
              clear hz
              go_wp2_with fail
              go_meet
              exact ⟨rfl, rfl, rfl⟩
            | succ j =>
              obtain rfl : z = (j : Int) := by omega
              have hlv := HLv.out j
              rw [liveOf_nat (by omega)] at hlv
              have HL := Lib.hid hlv
              have hst := HSt.out j (by omega)
              have hle := HLe.out (j + 1)
              clear hlv hz
              generalize hF : freeFrom S (j + 1) = F at *
              have hwj : IntKind.i64.wrap ((j : Int) - 1) = (j : Int) - 1 := IntWalk.i64_in _ (by omega)
              have hwf : IntKind.i64.wrap ((F.length : Int) + 1) = (F.length : Int) + 1 := IntWalk.i64_in _ (by omega)
              by_cases hz0 : liveN S.ls j = 0
              · rw [if_pos hz0] at hst
                have HX := Lib.hid hst
                have hz0' : ((liveN S.ls j : Int) == 0) = true := by simp [hz0]
                clear hst hz0 hF
                go_wp2_with fail
                refine HL.out.mono ?_
                rintro e w3 ⟨rfl, rfl⟩
                go_wp2_with fail
                go_roundw
                case rel => exact ⟨trivial, j, (j : Int) - 1, by omega, rfl, rfl, by rw [HX.out]; rfl, by rw [HX.out, List.length_cons, Int.natCast_add]; rfl⟩
                case measure => simp [intOf]
              · rw [if_neg hz0] at hst
                have HX := Lib.hid hst
                have hz0' : ((liveN S.ls j : Int) == 0) = false := by simpa using hz0
                clear hst hz0 hF
                go_wp2_with fail
                refine HL.out.mono ?_
                rintro e w3 ⟨rfl, rfl⟩
                go_wp2_with fail
                go_roundw
                case rel => exact ⟨trivial, j, (j : Int) - 1, by omega, rfl, rfl, by rw [HX.out], by rw [HX.out]⟩
                case measure => simp [intOf]
        case rest =>
        obtain ⟨rfl, rfl, rfl⟩ := hcut
        clear HT HSt HLe HFz HLv hws
        have r0 : w2.cell? ⟨w.heap.size, 0, none⟩ = some (.int .i64 0) := by rw [hR2.cell]; rfl
        have r1 : w2.cell? ⟨w.heap.size, 1, none⟩ = some (.int .i64 0) := by rw [hR2.cell]; rfl
        have r2 : w2.cell? ⟨w.heap.size, 2, none⟩ = some (.int .i64 0) := by rw [hR2.cell]; rfl
        have f0 := hR2.free 0
        have f1 := hR2.free 1
        have f2 := hR2.free 2
        have hbz := ((hbb.setCell (p := ⟨w.heap.size, 0, none⟩) (Nat.le_refl _) (.int .i64 0)).setCell (p := ⟨w.heap.size, 1, none⟩) (Nat.le_refl _) (.int .i64 0)).setCell (p := ⟨w.heap.size, 2, none⟩) (Nat.le_refl _) (.int .i64 0)
        have hRz := ((hR2.set 0 (.int .i64 0)).set 1 (.int .i64 0)).set 2 (.int .i64 0)
        have p3 := h2.head.free 3
        have p4 := h2.head.free 4
        have HZ := Lib.hid (show ∀ i ∈ S.free, i < S.segs ∧ liveN S.ls i = 0 from fun i hi => by
          have := List.mem_filter.1 hi
          exact ⟨List.mem_range.1 this.1, by simpa using this.2⟩)
        cases hL : S.free with
        | nil =>
          have HA2 := Lib.hid (show S.alloc n spare = ((0, 0, 0), 7, S) by rw [HA.out, hL])
          clear hL
          simp only [List.head?_nil, bestV, List.length_nil]
          go_wp2_with fail
          exact bodyPost_ret (results_loc (x := 0) (y := 0) (z := 0) rfl _ (.int .i64 7) rfl rfl hRz) rfl ⟨v, by unfold allocR; rw [HA2.out]; rfl, by rw [HA2.out]; exact h.on hbz, Mod.of_below hbz, fun x hx => .inl hx⟩
        | cons i t =>
          obtain ⟨hi, hi0⟩ := HZ.out i (by rw [hL]; simp)
          have hgood := hS0.start hi hi0 0 (Nat.zero_le _)
          have hs4 := h2.begin hBw2 (i : Int) 0
          have hm4 : Mod [r] w2 ((w2.setCell ⟨r, 3, none⟩ (.int .i64 i)).setCell ⟨r, 4, none⟩ (.int .i64 0)) := ((Mod.refl [r] w2).setCell ⟨r, 3, none⟩ (.int .i64 i) (.inl (by simp))).setCell ⟨r, 4, none⟩ (.int .i64 0) (.inl (by simp))
          have hne : w.heap.size ≠ r := by omega
          have hR4 : Blk ((w2.setCell ⟨r, 3, none⟩ (.int .i64 i)).setCell ⟨r, 4, none⟩ (.int .i64 0)) w.heap.size [.int .i64 0, .int .i64 0, .int .i64 0] 31 := (hR2.other ⟨r, 3, none⟩ _ hne).other ⟨r, 4, none⟩ _ hne
          have HE := Lib.hid (show ¬ (t = [] ∧ spare = false) → RAllocAt S B r v n spare w.heap.size w2 ((w2.setCell ⟨r, 3, none⟩ (.int .i64 i)).setCell ⟨r, 4, none⟩ (.int .i64 0)) from fun hx =>
            ⟨i, 0, hs4, hm4, hR4, hgood, hi, by omega, by rw [HA.out, hL]; exact if_neg hx⟩)
          have HN := Lib.hid (show t = [] ∧ spare = false → S.alloc n spare = ((0, 0, 0), 7, S) from fun hx => by rw [HA.out, hL]; exact if_pos hx)
          clear hs4 hm4 hR4 hgood hL hi0
          simp only [List.head?_cons, bestV]
          by_cases hr : t = []
          · have hl : (i :: t).length = 1 := by rw [hr]; rfl
            rcases Bool.eq_false_or_eq_true spare with hsp | hsp
            · have HX := Lib.hid (HE.out (by simp [hsp]))
              have HSp := Lib.hid hsp
              clear hr
              generalize (i :: t).length = N at *
              subst hl
              go_wp2_with fail
              go_meet
              exact ⟨by rw [HSp.out], HX.out⟩
            · have HX := Lib.hid (show S.alloc n false = ((0, 0, 0), 7, S) by rw [← hsp]; exact HN.out ⟨hr, hsp⟩)
              clear hr
              generalize (i :: t).length = N at *
              subst hl
              go_wp2_with fail
              exact bodyPost_ret (results_loc (x := 0) (y := 0) (z := 0) rfl _ (.int .i64 7) rfl rfl hRz) rfl ⟨v, by unfold allocR; rw [HX.out]; rfl, by rw [HX.out]; exact h.on hbz, Mod.of_below hbz, fun x hx => .inl hx⟩
          · have HX := Lib.hid (HE.out (fun hx => hr hx.1))
            have hl : 2 ≤ (i :: t).length := by
              cases t with
              | nil => exact absurd rfl hr
              | cons _ _ => simp
            clear hr
            generalize (i :: t).length = N at *
            have hn0 : ((N : Int) == 0) = false := by simp; omega
            have hn1 : ((N : Int) == 1) = false := by simp; omega
            go_wp2_with fail
            go_meet
            exact ⟨rfl, HX.out⟩
      · have hq : decide (S.now < 0 ∨ (S.per : Int) < S.mark + n) = false := by simpa using q
        rw [hq]
        obtain ⟨i, hi⟩ := Int.eq_ofNat_of_zero_le (show 0 ≤ S.now by omega)
        have HA := Lib.hid (show S.alloc n spare = ((i, S.mark, n.toNat), 0, S.fill i S.mark n.toNat) by unfold Sp.alloc; rw [if_neg HB.out, if_neg q, hi]; rfl)
        have HG := Lib.hid (show (⟨S.segs, S.per, S.ls, (i : Int), S.mark, S.cnt⟩ : Sp) = S by rw [← hi])
        clear hq
        go_wp2_with fail
        go_meet
        exact ⟨rfl, i, S.mark, by rw [HG.out]; exact h2, Mod.refl _ _, hR2, by rw [HG.out]; exact hS0, by omega, by omega, HA.out⟩
    case rest =>
    obtain ⟨rfl, i, m, hs3, hm3, hR3, hgood, hi, hmn, hall⟩ := hcut
    generalize wc = w3 at *
    obtain ⟨c, rfl⟩ := Int.eq_ofNat_of_zero_le (show 0 ≤ n by omega)
    have HALL := Lib.hid hall
    have hm03 : Mod [r] w w3 := (Mod.of_below hbb).trans hm3
    have hB3 : B ≤ w3.heap.size := Nat.le_trans hBw2 hm3.size
    clear hall hS0 h1 h2 hR0 hR2 hm3 hbb hb2 hb0
    go_upto_region 16 with fail
    have HF := Lib.hid (show ∀ w', Below w3.heap.size w3 w' → (w'.cell? ⟨r, 3, none⟩ = some (.int .i64 i) ∧ w'.cell? ⟨r, 4, none⟩ = some (.int .i64 m)) from
      fun w' hb => ⟨(hs3.on hb).cells.2.2.2.1, (hs3.on hb).cells.2.2.2.2⟩)
    refine wp_region_float [0, 1, 2, 3, 4, 5, 6, 7, 8, 9] [10, 11] [11] (Below w3.heap.size w3) (by kernel_rfl) (by kernel_rfl) (by kernel_rfl) (by kernel_rfl) (fun c a d v w h => by cases d <;> exact h) (below_drew (Below.refl _ _)) ?_
    have hS : Below w3.heap.size w3 { w3 with drawn := w3.drawn + 1 } := below_drew (Below.refl _ _)
    generalize ({ w3 with drawn := w3.drawn + 1 } : World) = w4 at *
    simp only [pick, List.map_cons, List.map_nil, List.getD_cons_zero, List.getD_cons_succ]
    repeat (
      refine takes_val (v := ?_) ?_ (fun w' hS => ?_) ?_
      rotate_left
      · rfl
      · obtain ⟨k0, k1⟩ := HF.out w' hS
        go_simp
        with_reducible rfl
      simp only [Act.put, List.setIfInBounds_toArray, List.set_cons_zero, List.set_cons_succ])
    refine takes_nil ?_
    have hN4 : Blk (w4.alloc (.cells #[.int .i64 0, .int .i64 0, .int .i64 0] 31)) w4.heap.size [.int .i64 0, .int .i64 0, .int .i64 0] 31 := Blk.new _ _ _
    have hb4 := (Below.refl w4.heap.size w4).alloc (Nat.le_refl _) (.cells #[.int .i64 0, .int .i64 0, .int .i64 0] 31)
    refine seqW_step (by rfl) (fun K hK => ?_)
    go_simp
    refine hK.out _ _ (.inr (hS.on hb4)) ?_
    clear hK K
    refine seqW_step (by rfl) (fun K hK => ?_)
    refine wp_store_row 31 _ _ rfl w4.heap.size _ rfl rfl 31 _ hN4 rfl rfl (by simp [Value.oneCell']) ?_
    refine hK.out _ _ (.inl (by rfl)) (seqW_nil ?_)
    clear hK K
    have hL5 := setRow_blk hN4 [.int .i64 i, .int .i64 m, .int .i64 c]
    have hb5 := Mod.fresh hb4 (setRow_mod (w4.alloc (.cells #[.int .i64 0, .int .i64 0, .int .i64 0] 31)) w4.heap.size #[.int .i64 i, .int .i64 m, .int .i64 c]) (by simp)
    have hb35 := hS.on hb5
    simp only [Act.put, List.setIfInBounds_toArray, List.set_cons_zero, List.set_cons_succ]
    change Blk ((w4.alloc (.cells #[.int .i64 0, .int .i64 0, .int .i64 0] 31)).setRow w4.heap.size #[.int .i64 i, .int .i64 m, .int .i64 c]) w4.heap.size [.int .i64 i, .int .i64 m, .int .i64 c] 31 at hL5
    generalize (w4.alloc (.cells #[.int .i64 0, .int .i64 0, .int .i64 0] 31)).setRow w4.heap.size #[.int .i64 i, .int .i64 m, .int .i64 c] = w5 at *
    have hs5 := hs3.on hb35
    have hR5 := hR3.on hb35
    have hLge : w.heap.size < w4.heap.size := Nat.lt_of_lt_of_le hR3.lt hS.size
    have hB5 : B ≤ w5.heap.size := Nat.le_trans hB3 hb35.size
    generalize w4.heap.size = L at *
    clear HF hN4 hb4 hb5 hS
    go_upto_region 17 with fail
    obtain ⟨c0, c1, c2, c3, c4⟩ := hs5.cells
    have p4 := hs5.head.free 4
    have hwr : IntKind.i64.wrap ((m : Int) + c) = (m : Int) + c := IntWalk.i64_in _ (by omega)
    have hs6 := hs5.mark ((m : Int) + c) (m + c) (by omega)
    have hL6 := hL5.other ⟨r, 4, none⟩ (.int .i64 ((m : Int) + c)) (by show L ≠ r; omega)
    have hR6 := hR5.other ⟨r, 4, none⟩ (.int .i64 ((m : Int) + c)) (by show w.heap.size ≠ r; omega)
    have hm06 := (hm03.thenBelow hb35).setCell ⟨r, 4, none⟩ (.int .i64 ((m : Int) + c)) (.inl (by simp))
    have hB6 : B ≤ (w5.setCell ⟨r, 4, none⟩ (.int .i64 ((m : Int) + c))).heap.size := by rw [World.size_setCell]; exact hB5
    go_upto_region 18 with fail
    clear c0 c1 c2 c3 c4 p4 hs5 hL5 hR5 hb35 hm03 hs3 hR3
    generalize w5.setCell ⟨r, 4, none⟩ (.int .i64 ((m : Int) + c)) = w6 at *
    have hrn : r ∉ v.ownBlock.toList := fun hh => by have := (hvb r (by simpa using hh)).1; omega
    have hLn : L ∉ v.ownBlock.toList := fun hh => by have := (hvb _ (by simpa using hh)).2; omega
    have hwn : w.heap.size ∉ v.ownBlock.toList := fun hh => by have := (hvb _ (by simpa using hh)).2; omega
    obtain ⟨va, vn, vc, rfl⟩ : ∃ a n c, v = .slice a n c := by rcases hs6.own.2 with ⟨rfl, _⟩ | ⟨g, cap, cur, rfl, _⟩ <;> exact ⟨_, _, _, rfl⟩
    have HG := Lib.hid (show ∀ w', Mod (Value.slice va vn vc).ownBlock.toList w6 w' → (w'.cell? ⟨r, 2, none⟩ = some (.slice va vn vc) ∧ w'.cell? ⟨L, 0, none⟩ = some (.int .i64 i) ∧ w'.cell? ⟨L, 1, none⟩ = some (.int .i64 m) ∧ w'.cell? ⟨L, 2, none⟩ = some (.int .i64 c)) from
      fun w' hm => ⟨by rw [(hs6.head.mod hm hrn).cell]; rfl, by rw [(hL6.mod hm hLn).cell]; rfl, by rw [(hL6.mod hm hLn).cell]; rfl, by rw [(hL6.mod hm hLn).cell]; rfl⟩)
    refine wp_region_float [0, 1, 2, 3, 4, 5] [6, 7, 8, 9, 10] [8, 9, 10] (fun w' => Mod (Value.slice va vn vc).ownBlock.toList w6 w') (by kernel_rfl) (by kernel_rfl) (by kernel_rfl) (by kernel_rfl) (fun c a d v w h => by cases d <;> exact h) ((Mod.refl _ _).drew) ?_
    have hS : Mod (Value.slice va vn vc).ownBlock.toList w6 { w6 with drawn := w6.drawn + 1 } := (Mod.refl _ _).drew
    have hown7 : ({ w6 with drawn := w6.drawn + 1 } : World).ownsRow B 31 3 (.slice va vn vc) S.ls.length (locsCells S.ls) := (hs6.on (below_drew (Below.refl _ _))).own
    have hb7 : Below w6.heap.size w6 { w6 with drawn := w6.drawn + 1 } := below_drew (Below.refl _ _)
    generalize ({ w6 with drawn := w6.drawn + 1 } : World) = w7 at *
    simp only [pick, List.map_cons, List.map_nil, List.getD_cons_zero, List.getD_cons_succ]
    repeat (
      refine takes_val (v := ?_) ?_ (fun w' hS => ?_) ?_
      rotate_left
      · rfl
      · obtain ⟨k0, k1, k2, k3⟩ := HG.out w' hS
        go_simp
        with_reducible rfl
      simp only [Act.put, List.setIfInBounds_toArray, List.set_cons_zero, List.set_cons_succ])
    refine takes_nil ?_
    obtain ⟨v8, w8, hrun, hown8, hm8, hmv8⟩ := row_append hown7 (by omega) (Nat.le_trans hB6 hb7.size) ⟨i, m, c⟩ 29 #[.int .i64 i, .int .i64 m, .int .i64 c] rfl w7.heap.size rfl
    obtain ⟨ga, gn, gc, rfl⟩ : ∃ a n c, v8 = .slice a n c := by rcases hown8.2 with ⟨rfl, _⟩ | ⟨g, cap, cur, rfl, _⟩ <;> exact ⟨_, _, _, rfl⟩
    have hm68 := hS.trans hm8
    refine seqW_step (by rfl) (fun K hK => ?_)
    go_simp
    refine hK.out _ _ (.inr (hS.alloc _)) ?_
    clear hK K
    refine seqW_step (by rfl) (fun K hK => ?_)
    refine oper_append_run2 _ _ _ rfl _ _ _ _ ?hs ?hx hrun ?_
    case hs => go_simp
    case hx => go_simp
    simp only [Act.put, List.setIfInBounds_toArray, List.set_cons_zero, List.set_cons_succ]
    refine hK.out _ _ (.inr hm68) ?_
    clear hK K
    refine seqW_step (by rfl) (fun K hK => ?_)
    go_simp
    refine hK.out _ _ (.inl (by rfl)) ?_
    clear hK K
    refine seqW_step (by rfl) (fun K hK => ?_)
    go_simp
    refine hK.out _ _ (.inl (by rfl)) ?_
    clear hK K
    have hH8 := hs6.head.mod hm68 hrn
    have z0 := hH8.free 2
    have z1 : w8.cell? ⟨r, 2, none⟩ = some (.slice va vn vc) := by rw [hH8.cell]; rfl
    have hH9 := hH8.set 2 (.slice ga gn gc)
    have hm9 : Mod [r] w8 (w8.setCell ⟨r, 2, none⟩ (.slice ga gn gc)) := (Mod.refl _ _).setCell _ _ (.inl (by simp))
    have hsz7 := hb7.size
    have hsz6 := hm06.size
    have hown9 := ownsRow_mod hown8 hm9 (fun s hs hh => by
      rw [List.mem_singleton.1 hs] at hh
      rcases hmv8 r hh with hh2 | hh2
      · exact hrn (by simpa using hh2)
      · omega)
    have hmA : Mod (r :: (Value.slice va vn vc).ownBlock.toList) w (w8.setCell ⟨r, 2, none⟩ (.slice ga gn gc)) := (((hm06.mono (fun x hx => .inl (by rw [List.mem_singleton.1 hx]; simp))).trans (hm68.mono (fun x hx => .inl (by simp at hx ⊢; exact .inr hx)))).trans (hm9.mono (fun x hx => .inl (by rw [List.mem_singleton.1 hx]; simp))))
    have hL9 := (hL6.mod hm68 hLn).mod hm9 (by simp; omega)
    have hR9 := (hR6.mod hm68 hwn).mod hm9 (by simp; omega)
    have hE : RAt (w8.setCell ⟨r, 2, none⟩ (.slice ga gn gc)) B r (.slice ga gn gc) (S.fill i m c) := ⟨hH9, hown9, hrB⟩
    have hRlt := hR6.lt
    have HNe := Lib.hid (show (Value.slice ga gn gc).ownBlock ≠ some w.heap.size from fun hh => by
      rcases hmv8 _ hh with h2 | h2
      · have := (hvb _ h2).2; omega
      · omega)
    have HMv := Lib.hid (show ∀ x, (Value.slice ga gn gc).ownBlock = some x → (Value.slice va vn vc).ownBlock = some x ∨ w.heap.size ≤ x from fun x hx => by
      rcases hmv8 x hx with hh | hh
      · exact .inl hh
      · right; omega)
    refine seqW_step (by rfl) (fun K hK => ?_)
    go_simp
    refine hK.out _ _ (.inl (by rfl)) (seqW_nil ?_)
    clear hK K HG z0 z1 hrun hown8 hown9 hm8 hm68 hH8 hH9 hm9 hmv8 hL6 hR6 hs6 hS hown7 hb7 hm06
    generalize w8.setCell ⟨r, 2, none⟩ (.slice ga gn gc) = w9 at *
    have l0 : w9.cell? ⟨L, 0, none⟩ = some (.int .i64 i) := by rw [hL9.cell]; rfl
    have l1 : w9.cell? ⟨L, 1, none⟩ = some (.int .i64 m) := by rw [hL9.cell]; rfl
    have l2 : w9.cell? ⟨L, 2, none⟩ = some (.int .i64 c) := by rw [hL9.cell]; rfl
    go_upto_region 19 with fail
    refine wp_region_seq ?_
    refine seq_step (by rfl) (fun K hK => ?_)
    go_simp
    refine hK.out _ _ ?_
    clear hK K
    refine seq_step (by rfl) (fun K hK => ?_)
    refine wp_store_row 31 _ _ rfl w.heap.size _ rfl rfl 31 _ hR9 rfl rfl (by simp [Value.oneCell']) ?_
    refine hK.out _ _ ?_
    clear hK K
    have hR10 := setRow_blk hR9 [.int .i64 i, .int .i64 m, .int .i64 c]
    have hE10 := hE.mod (setRow_mod w9 w.heap.size #[.int .i64 i, .int .i64 m, .int .i64 c]) (by simp; omega) (fun x hx hh => by
      rw [List.mem_singleton.1 hx] at hh
      exact HNe.out hh)
    have hm10 := hmA.on (setRow_mod w9 w.heap.size #[.int .i64 i, .int .i64 m, .int .i64 c]) (by simp)
    simp only [Act.put, List.setIfInBounds_toArray, List.set_cons_zero, List.set_cons_succ]
    refine seq_step (by rfl) (fun K hK => ?_)
    go_simp
    refine hK.out _ _ (seq_nil ?_)
    clear hK K
    have HALL2 := Lib.hid (show S.alloc (c : Int) spare = ((i, m, c), 0, S.fill i m c) by rw [HALL.out]; rfl)
    clear l0 l1 l2 hL9 hR9 hE hmA
    go_wp2_with fail
    exact bodyPost_ret (results_loc rfl _ (.int .i64 0) rfl rfl hR10) rfl ⟨.slice ga gn gc, by unfold allocR; rw [HALL2.out]; rfl, by rw [HALL2.out]; exact hE10, hm10, HMv.out⟩
end Go.Proofs.Ytmicpjdlldjapaa
