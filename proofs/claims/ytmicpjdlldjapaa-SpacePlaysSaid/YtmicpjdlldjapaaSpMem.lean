/-
  How the program's space stands in memory, and the walk of add. No condition.
-/
import Derived.Test.YtmicpjdlldjapaaSMap
import Derived.Test.YtmicpjdlldjapaaSpace
import Derived.Test.YtmicpjdlldjapaaSettle
import Derived.Lib.Hide
import Derived.WalkKit
import Derived.IntWalk
import Derived.Deep.DeepCutAuto
import Derived.Deep.CutBlock
namespace Go.Proofs.Ytmicpjdlldjapaa
set_option linter.unusedVariables false
set_option linter.unusedSimpArgs false
open Go.RowKit

theorem liveN_append (ls : List Pc) (p : Pc) (j : Nat) : liveN (ls ++ [p]) j = liveN ls j + (if p.seg = j then p.n else 0) := by
  induction ls with
  | nil => simp [liveN]
  | cons q qs ih => simp only [List.cons_append, liveN, ih]; omega
theorem pieceN_append (ls : List Pc) (i pl n : Nat) (hp : ∀ q ∈ ls, 1 ≤ q.n) (h : pieceN ls i pl = 0) (j : Nat) (k : Int) : pieceN (ls ++ [⟨i, pl, n⟩]) j k = if j = i ∧ k = (pl : Int) then (n : Int) else pieceN ls j k := by
  induction ls with
  | nil =>
    simp only [List.nil_append, pieceN]
    by_cases hh : i = j ∧ (pl : Int) = k
    · rw [if_pos hh, if_pos ⟨hh.1.symm, hh.2.symm⟩]
    · rw [if_neg hh, if_neg (fun x => hh ⟨x.1.symm, x.2.symm⟩)]
  | cons q qs ih =>
    have h1 := hp q (by simp)
    unfold pieceN at h
    split at h
    · omega
    · rename_i hne
      have := ih (fun x hx => hp x (by simp [hx])) h
      simp only [List.cons_append, pieceN]
      by_cases hq : q.seg = j ∧ (q.pl : Int) = k
      · rw [if_pos hq, if_pos hq]
        rw [if_neg]
        intro hx
        exact hne ⟨hq.1.trans hx.1, hq.2.trans hx.2⟩
      · rw [if_neg hq, if_neg hq, this]

/-- The i-th of some blocks. -/
def nth (ms : List Nat) (i : Nat) : Nat := ms.getD i 0
theorem getD_mem {ms : List Nat} {i : Nat} (h : i < ms.length) : nth ms i ∈ ms := by
  unfold nth
  rw [List.getD_eq_getElem?_getD, List.getElem?_eq_getElem h]; exact List.getElem_mem h
theorem getD_ne {ms : List Nat} (hn : ms.Nodup) {i j : Nat} (hi : i < ms.length) (hj : j < ms.length) (hij : i ≠ j) : nth ms i ≠ nth ms j := by
  unfold nth
  rw [List.getD_eq_getElem?_getD, List.getElem?_eq_getElem hi, List.getD_eq_getElem?_getD, List.getElem?_eq_getElem hj]
  intro e
  exact hij ((List.getElem_inj hn).1 e)

/-- A space stands in memory: its struct in block b, its segments in block g, their maps in the blocks ms. -/
structure SpAt (w : World) (b g cap : Nat) (ms : List Nat) (S : Sp) : Prop where
  head : Blk w b [.slice (some ⟨g, 0, none⟩) S.segs cap, .int .i64 S.per, .int .i64 S.now, .int .i64 S.mark] 53
  row : ∃ C, Blk w g C 56 ∧ ∀ i, i < S.segs → C[i * 2]? = some (.map (some (nth ms i))) ∧ C[i * 2 + 1]? = some (.int .i64 (liveN S.ls i))
  maps : ∀ i, i < S.segs → SMap w (nth ms i) S.cnt (pieceN S.ls i)
  len : ms.length = S.segs ∧ S.segs ≤ cap ∧ cap ≤ maxLen
  dist : (b :: g :: ms).Nodup
theorem SpAt.nb {w : World} {b g cap : Nat} {ms : List Nat} {S : Sp} (h : SpAt w b g cap ms S) : b ≠ g ∧ b ∉ ms ∧ g ∉ ms ∧ ms.Nodup := by
  have := h.dist
  simp only [List.nodup_cons, List.mem_cons, not_or] at this
  exact ⟨this.1.1, this.1.2, this.2.1, this.2.2⟩
theorem SpAt.mod {T : List Nat} {w w' : World} {b g cap : Nat} {ms : List Nat} {S : Sp} (h : SpAt w b g cap ms S) (hm : Mod T w w') (hT : ∀ x ∈ b :: g :: ms, x ∉ T) : SpAt w' b g cap ms S := by
  obtain ⟨C, hC, hr⟩ := h.row
  refine ⟨h.head.mod hm (hT b (by simp)), ⟨C, hC.mod hm (hT g (by simp)), hr⟩, fun i hi => (h.maps i hi).mod hm (hT _ ?_), h.len, h.dist⟩
  have := getD_mem (ms := ms) (i := i) (by rw [h.len.1]; exact hi)
  simp [this]
theorem SpAt.on {w w' : World} {b g cap : Nat} {ms : List Nat} {S : Sp} (h : SpAt w b g cap ms S) (hb : Below w.heap.size w w') : SpAt w' b g cap ms S :=
  h.mod (Mod.of_below (S := []) hb) (by simp)
theorem SpAt.cells {w : World} {b g cap : Nat} {ms : List Nat} {S : Sp} (h : SpAt w b g cap ms S) :
    w.cell? ⟨b, 0, none⟩ = some (.slice (some ⟨g, 0, none⟩) S.segs cap) ∧ w.cell? ⟨b, 1, none⟩ = some (.int .i64 S.per) ∧ w.cell? ⟨b, 2, none⟩ = some (.int .i64 S.now) ∧ w.cell? ⟨b, 3, none⟩ = some (.int .i64 S.mark) := by
  refine ⟨?_, ?_, ?_, ?_⟩ <;> (rw [h.head.cell]; rfl)
theorem SpAt.seg {w : World} {b g cap : Nat} {ms : List Nat} {S : Sp} (h : SpAt w b g cap ms S) {i : Nat} (hi : i < S.segs) :
    w.cell? ⟨g, i * 2, none⟩ = some (.map (some (nth ms i))) ∧ w.cell? ⟨g, i * 2 + 1, none⟩ = some (.int .i64 (liveN S.ls i)) ∧ w.frozen? ⟨g, i * 2 + 1, none⟩ = false := by
  obtain ⟨C, hC, hr⟩ := h.row
  exact ⟨by rw [hC.cell]; exact (hr i hi).1, by rw [hC.cell]; exact (hr i hi).2, hC.free _⟩
theorem SpAt.rest {w w' : World} {b g cap : Nat} {ms : List Nat} {S : Sp} (h : SpAt w b g cap ms S) {i : Nat} (hi : i < S.segs) (hm : Mod [nth ms i] w w') :
    w'.cell? ⟨b, 0, none⟩ = some (.slice (some ⟨g, 0, none⟩) S.segs cap) ∧ w'.cell? ⟨g, i * 2 + 1, none⟩ = some (.int .i64 (liveN S.ls i)) ∧ w'.frozen? ⟨g, i * 2 + 1, none⟩ = false := by
  obtain ⟨C, hC, hr⟩ := h.row
  obtain ⟨n1, n2, n3, n4⟩ := h.nb
  have hmem := getD_mem (ms := ms) (i := i) (by rw [h.len.1]; exact hi)
  have hC1 : Blk w' g C 56 := hC.mod hm (by simp only [List.mem_singleton]; intro e; exact n3 (e ▸ hmem))
  have hB1 := h.head.mod hm (by simp only [List.mem_singleton]; intro e; exact n2 (e ▸ hmem))
  exact ⟨by rw [hB1.cell]; rfl, by rw [hC1.cell]; exact (hr i hi).2, hC1.free _⟩
theorem SpAt.now {w : World} {b g cap : Nat} {ms : List Nat} {S : Sp} (h : SpAt w b g cap ms S) (v : Int) : SpAt (w.setCell ⟨b, 2, none⟩ (.int .i64 v)) b g cap ms ⟨S.segs, S.per, S.ls, v, S.mark, S.cnt⟩ := by
  obtain ⟨C, hC, hr⟩ := h.row
  obtain ⟨n1, n2, n3, n4⟩ := h.nb
  have hm : Mod [b] w (w.setCell ⟨b, 2, none⟩ (.int .i64 v)) := (Mod.refl _ _).setCell _ _ (.inl (by simp))
  refine ⟨h.head.set 2 _, ⟨C, hC.mod hm (by simpa using Ne.symm n1), hr⟩, fun i hi => (h.maps i hi).mod hm ?_, h.len, h.dist⟩
  have := getD_mem (ms := ms) (i := i) (by rw [h.len.1]; exact hi)
  simp only [List.mem_singleton]
  intro e; exact n2 (e ▸ this)
theorem SpAt.mark {w : World} {b g cap : Nat} {ms : List Nat} {S : Sp} (h : SpAt w b g cap ms S) (v : Nat) : SpAt (w.setCell ⟨b, 3, none⟩ (.int .i64 v)) b g cap ms ⟨S.segs, S.per, S.ls, S.now, v, S.cnt⟩ := by
  obtain ⟨C, hC, hr⟩ := h.row
  obtain ⟨n1, n2, n3, n4⟩ := h.nb
  have hm : Mod [b] w (w.setCell ⟨b, 3, none⟩ (.int .i64 v)) := (Mod.refl _ _).setCell _ _ (.inl (by simp))
  refine ⟨h.head.set 3 _, ⟨C, hC.mod hm (by simpa using Ne.symm n1), hr⟩, fun i hi => (h.maps i hi).mod hm ?_, h.len, h.dist⟩
  have := getD_mem (ms := ms) (i := i) (by rw [h.len.1]; exact hi)
  simp only [List.mem_singleton]
  intro e; exact n2 (e ▸ this)
/-- A segment's map and its number of sectors turn at once: other pieces live. -/
theorem SpAt.turn {w w1 : World} {b g cap : Nat} {ms : List Nat} {S : Sp} (h : SpAt w b g cap ms S) {i : Nat} (hi : i < S.segs) (ls : List Pc) (cnt : Nat) (hc : S.cnt ≤ cnt)
    (hm : Mod [nth ms i] w w1) (hM : SMap w1 (nth ms i) cnt (pieceN ls i)) (hl : ∀ j, j ≠ i → liveN ls j = liveN S.ls j) (hp : ∀ j, j ≠ i → ∀ k, pieceN ls j k = pieceN S.ls j k) :
    SpAt (w1.setCell ⟨g, i * 2 + 1, none⟩ (.int .i64 (liveN ls i))) b g cap ms ⟨S.segs, S.per, ls, S.now, S.mark, cnt⟩ ∧ Mod (b :: g :: ms) w (w1.setCell ⟨g, i * 2 + 1, none⟩ (.int .i64 (liveN ls i))) := by
  obtain ⟨C, hC, hr⟩ := h.row
  obtain ⟨n1, n2, n3, n4⟩ := h.nb
  have hil : i < ms.length := by rw [h.len.1]; exact hi
  have hmem := getD_mem hil
  have hC1 : Blk w1 g C 56 := hC.mod hm (by simp only [List.mem_singleton]; intro e; exact n3 (e ▸ hmem))
  have hB1 := h.head.mod hm (by simp only [List.mem_singleton]; intro e; exact n2 (e ▸ hmem))
  have hm2 : Mod [g] w1 (w1.setCell ⟨g, i * 2 + 1, none⟩ (.int .i64 (liveN ls i))) := (Mod.refl _ _).setCell _ _ (.inl (by simp))
  refine ⟨⟨hB1.mod hm2 (by simpa using n1), ⟨_, hC1.set (i * 2 + 1) _, fun j hj => ?_⟩, fun j hj => ?_, h.len, h.dist⟩, (hm.mono (fun x hx => .inl ?_)).trans (hm2.mono (fun x hx => .inl ?_))⟩
  · have hlt : i * 2 + 1 < C.length := by
      have := (hr i hi).2
      exact (List.getElem?_eq_some_iff.1 this).1
    refine ⟨?_, ?_⟩
    · rw [List.getElem?_set_ne (by omega)]; exact (hr j hj).1
    · by_cases hji : j = i
      · subst hji; rw [List.getElem?_set_self hlt]
      · rw [List.getElem?_set_ne (by omega), hl j hji]; exact (hr j hj).2
  · have hjl : j < ms.length := by rw [h.len.1]; exact hj
    have hjm := getD_mem hjl
    have hng : nth ms j ∉ [g] := by simp only [List.mem_singleton]; intro e; exact n3 (e ▸ hjm)
    by_cases hji : j = i
    · subst hji; exact hM.mod hm2 hng
    · exact (((h.maps j hj).mod hm (by simp only [List.mem_singleton]; exact getD_ne n4 hjl hil hji)).mod hm2 hng).mono hc |>.congr (fun k => (hp j hji k).symm)
  · rw [List.mem_singleton.1 hx]; simp [hmem]
  · rw [List.mem_singleton.1 hx]; simp

theorem below_drew {B : Nat} {a w : World} (h : Below B a w) : Below B a w.drew := ⟨h.os, h.tape, h.output, h.size, h.block⟩
def Sp.put (S : Sp) (i pl n : Nat) : Sp := ⟨S.segs, S.per, S.ls ++ [⟨i, pl, n⟩], S.now, S.mark, S.cnt + 1⟩

set_option maxHeartbeats 1000000 in
theorem add_any (S : Sp) (b g cap : Nat) (ms : List Nat) (i pl n : Nat) (w : World) (h : SpAt w b g cap ms S) (hsg : S.segs ≤ 64) (hi : i < S.segs) (hn : 1 ≤ n) (hn2 : n ≤ 64) (hpl : pl ≤ 64) (hp : ∀ q ∈ S.ls, 1 ≤ q.n) (hz : pieceN S.ls i pl = 0) (hc : S.cnt < 1000000) (hl : liveN S.ls i ≤ 1000000) :
    Calls Try.prog 28 #[.pointer (some ⟨b, 0, none⟩), .agg #[.int .i64 i, .int .i64 pl, .int .i64 n]] w fun e w' => e = .returned (.tuple #[]) ∧ SpAt w' b g cap ms (S.put i pl n) ∧ Mod (b :: g :: ms) w w' := by
  have hL0 : Blk (w.alloc (.cells #[.int .i64 i, .int .i64 pl, .int .i64 n] 31)) w.heap.size [.int .i64 i, .int .i64 pl, .int .i64 n] 31 := Blk.new _ _ _
  have hb0 := (Below.refl w.heap.size w).alloc (Nat.le_refl _) (.cells #[.int .i64 i, .int .i64 pl, .int .i64 n] 31)
  have h1 := h.on hb0
  go_enter Try.func28, Try.ntmps28
  go_upto_region 1 with fail
  generalize w.alloc (.cells #[.int .i64 i, .int .i64 pl, .int .i64 n] 31) = w1 at *
  have hcap := h.len.2.1
  have HF := Lib.hid (show ∀ w', Below w1.heap.size w1 w' → (w'.cell? ⟨b, 0, none⟩ = some (.slice (some ⟨g, 0, none⟩) S.segs cap) ∧ w'.cell? ⟨g, i * 2, none⟩ = some (.map (some (nth ms i))) ∧ w'.cell? ⟨w.heap.size, 0, none⟩ = some (.int .i64 i) ∧ w'.cell? ⟨w.heap.size, 1, none⟩ = some (.int .i64 pl) ∧ w'.cell? ⟨w.heap.size, 2, none⟩ = some (.int .i64 n)) from
    fun w' hb => ⟨(h1.on hb).cells.1, ((h1.on hb).seg hi).1, by rw [(hL0.on hb).cell]; rfl, by rw [(hL0.on hb).cell]; rfl, by rw [(hL0.on hb).cell]; rfl⟩)
  refine wp_region_settle_then 13 (Below w1.heap.size w1) (by kernel_rfl) (by kernel_rfl) (by kernel_rfl) (by kernel_rfl) (by kernel_rfl) (below_drew (Below.refl _ _)) ?_
  repeat (first
    | (refine settledL_not ?_ ?_
       · rfl
       simp only [Act.put, List.setIfInBounds_toArray, List.set_cons_zero, List.set_cons_succ])
    | (refine settledL_val (v := ?_) ?_ (fun w' hS => ?_) ?_
       rotate_left
       · rfl
       · obtain ⟨k0, k1, k2, k3, k4⟩ := HF.out w' hS
         go_simp
         with_reducible rfl
       simp only [Act.put, List.setIfInBounds_toArray, List.set_cons_zero, List.set_cons_succ]))
  refine settledL_end (fun w2 hS => ?_)
  have h2 := h1.on hS
  have hL2 := hL0.on hS
  have hb2 := hb0.on hS
  obtain ⟨w3, hrun, hM, hmod⟩ := (h2.maps i hi).store pl (by unfold isInt; omega) (by unfold maxLen; omega) n (by unfold isInt; omega) (by omega)
  refine seq_step (by rfl) (fun K hK => ?_)
  go_simp
  refine hK.out _ _ (seq_nil ?_)
  clear hK K HF hS hrun
  go_upto_region 2 with fail
  have hlt : nth ms i < w.heap.size := (h.maps i hi).lt
  have hL3 := hL2.mod hmod (by simp only [List.mem_singleton]; omega)
  have HF := Lib.hid (show ∀ w', Below w3.heap.size w3 w' → (w'.cell? ⟨b, 0, none⟩ = some (.slice (some ⟨g, 0, none⟩) S.segs cap) ∧ w'.cell? ⟨g, i * 2 + 1, none⟩ = some (.int .i64 (liveN S.ls i)) ∧ w'.cell? ⟨w.heap.size, 0, none⟩ = some (.int .i64 i) ∧ w'.cell? ⟨w.heap.size, 2, none⟩ = some (.int .i64 n)) from
    fun w' hb => ⟨(h2.rest hi (hmod.thenBelow hb)).1, (h2.rest hi (hmod.thenBelow hb)).2.1, by rw [(hL3.on hb).cell]; rfl, by rw [(hL3.on hb).cell]; rfl⟩)
  refine wp_region_settle_then 14 (Below w3.heap.size w3) (by kernel_rfl) (by kernel_rfl) (by kernel_rfl) (by kernel_rfl) (by kernel_rfl) (below_drew (Below.refl _ _)) ?_
  repeat (first
    | (refine settledL_not ?_ ?_
       · rfl
       simp only [Act.put, List.setIfInBounds_toArray, List.set_cons_zero, List.set_cons_succ])
    | (refine settledL_val (v := ?_) ?_ (fun w' hS => ?_) ?_
       rotate_left
       · rfl
       · obtain ⟨k0, k1, k2, k3⟩ := HF.out w' hS
         go_simp
         with_reducible rfl
       simp only [Act.put, List.setIfInBounds_toArray, List.set_cons_zero, List.set_cons_succ]))
  refine settledL_end (fun w4 hS => ?_)
  have hm4 := hmod.thenBelow hS
  have hf4 := (h2.rest hi hm4).2.2
  have hc4 := (h2.rest hi hm4).2.1
  have ht := h2.turn hi (S.ls ++ [⟨i, pl, n⟩]) (S.cnt + 1) (by omega) hm4 ((hM.on hS).congr (fun k => by rw [pieceN_append _ _ _ _ hp hz]; simp)) (fun j hj => by rw [liveN_append]; simp [Ne.symm hj]) (fun j hj k => by rw [pieceN_append _ _ _ _ hp hz]; simp [hj])
  have e : ((liveN (S.ls ++ [⟨i, pl, n⟩]) i : Nat) : Int) = liveN S.ls i + n := by rw [liveN_append]; simp
  rw [e] at ht
  have HT := Lib.hid ht
  clear ht e
  refine seq_step (by rfl) (fun K hK => ?_)
  go_simp
  refine hK.out _ _ (seq_nil ?_)
  clear hK K HF hS
  go_wp2_with fail
  go_end0
  rw [IntWalk.i64_in (liveN S.ls i + n) (by omega)]
  exact ⟨rfl, HT.out.1, (Mod.of_below hb2).trans HT.out.2⟩
end Go.Proofs.Ytmicpjdlldjapaa
