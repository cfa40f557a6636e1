/-
  The walk of Free. No condition.
-/
import Derived.Test.YtmicpjdlldjapaaSpT
namespace Go.Proofs.Ytmicpjdlldjapaa
set_option linter.unusedVariables false
set_option linter.unusedSimpArgs false
open Go.RowKit

/-- What Free ends with. -/
def FreeEnds (S : Sp) (b g cap : Nat) (ms : List Nat) (seg pl n : Int) (w : World) (e : Ending) (w' : World) : Prop :=
  e = .returned (.int .i64 ((S.drop seg pl n).1 : Nat)) ∧ SpAt w' b g cap ms (S.drop seg pl n).2 ∧ Mod (b :: g :: ms) w w'
theorem find_any {ls : List Pc} {f : Pc → Bool} (h : ls.any f = true) : ∃ p, ls.find? f = some p ∧ f p = true := by
  cases hf : ls.find? f with
  | none =>
    obtain ⟨p, hp, hpp⟩ := List.any_eq_true.1 h
    exact absurd hpp (by simpa using List.find?_eq_none.1 hf p hp)
  | some p => exact ⟨p, rfl, List.find?_some hf⟩
set_option maxHeartbeats 4000000 in
theorem free_any (S : Sp) (hS0 : S.Good) (hc : S.cnt < 10000) (b g cap : Nat) (ms : List Nat) (seg pl n : Int) (hseg : isInt seg) (hpl : isInt pl) (hn : isInt n) (w : World) (h : SpAt w b g cap ms S) :
    Calls Try.prog 11 #[.pointer (some ⟨b, 0, none⟩), .agg #[.int .i64 seg, .int .i64 pl, .int .i64 n]] w (FreeEnds S b g cap ms seg pl n w) := by
  have hL0 : Blk (w.alloc (.cells #[.int .i64 seg, .int .i64 pl, .int .i64 n] 31)) w.heap.size [.int .i64 seg, .int .i64 pl, .int .i64 n] 31 := Blk.new _ _ _
  have hb0 := (Below.refl w.heap.size w).alloc (Nat.le_refl _) (.cells #[.int .i64 seg, .int .i64 pl, .int .i64 n] 31)
  have h1 := h.on hb0
  have hplI := hpl
  unfold isInt at hseg hpl hn
  have hsegs := hS0.inv.segs
  have hper := hS0.inv.per
  have hcap := h.len.2.1
  go_enter Try.func11, Try.ntmps11
  go_upto_region 3 with fail
  generalize w.alloc (.cells #[.int .i64 seg, .int .i64 pl, .int .i64 n] 31) = w1 at *
  have HF := Lib.hid (show ∀ w', Below w1.heap.size w1 w' → (w'.cell? ⟨b, 0, none⟩ = some (.slice (some ⟨g, 0, none⟩) S.segs cap) ∧ w'.cell? ⟨w.heap.size, 0, none⟩ = some (.int .i64 seg) ∧ w'.cell? ⟨w.heap.size, 1, none⟩ = some (.int .i64 pl) ∧ w'.cell? ⟨w.heap.size, 2, none⟩ = some (.int .i64 n)) from
    fun w' hb => ⟨(h1.on hb).cells.1, by rw [(hL0.on hb).cell]; rfl, by rw [(hL0.on hb).cell]; rfl, by rw [(hL0.on hb).cell]; rfl⟩)
  by_cases c0 : n < 1
  · have HM := Lib.hid (show S.drop seg pl n = (5, S) by
      unfold Sp.drop
      rw [if_neg]
      intro hm
      obtain ⟨p, hp, hpp⟩ := List.any_eq_true.1 hm
      simp only [isPc, decide_eq_true_eq] at hpp
      have := hS0.inv.fit p hp
      omega)
    refine wp_region_settle (Below w1.heap.size w1) (by kernel_rfl) (by kernel_rfl) (by kernel_rfl) (below_drew (Below.refl _ _)) ?_
    repeat (first
      | (refine settled_not ?_ ?_
         · rfl
         simp only [Act.put, List.setIfInBounds_toArray, List.set_cons_zero, List.set_cons_succ])
      | (refine settled_val (v := ?_) ?_ (fun w' hS => ?_) ?_
         rotate_left
         · rfl
         · obtain ⟨k0, k3, k4, k5⟩ := HF.out w' hS
           go_simp
           with_reducible rfl
         simp only [Act.put, List.setIfInBounds_toArray, List.set_cons_zero, List.set_cons_succ]))
    refine settled_nil (fun w2 hS => ?_)
    go_wp2_with fail
    go_ret
    exact ⟨by rw [HM.out]; rfl, by rw [HM.out]; exact h1.on hS, Mod.of_below (hb0.on hS)⟩
  by_cases c1 : seg < 0
  · have HM := Lib.hid (show S.drop seg pl n = (5, S) by
      unfold Sp.drop
      rw [if_neg]
      intro hm
      obtain ⟨p, hp, hpp⟩ := List.any_eq_true.1 hm
      simp only [isPc, decide_eq_true_eq] at hpp
      have := hS0.inv.fit p hp
      omega)
    refine wp_region_settle (Below w1.heap.size w1) (by kernel_rfl) (by kernel_rfl) (by kernel_rfl) (below_drew (Below.refl _ _)) ?_
    repeat (first
      | (refine settled_not ?_ ?_
         · rfl
         simp only [Act.put, List.setIfInBounds_toArray, List.set_cons_zero, List.set_cons_succ])
      | (refine settled_val (v := ?_) ?_ (fun w' hS => ?_) ?_
         rotate_left
         · rfl
         · obtain ⟨k0, k3, k4, k5⟩ := HF.out w' hS
           go_simp
           with_reducible rfl
         simp only [Act.put, List.setIfInBounds_toArray, List.set_cons_zero, List.set_cons_succ]))
    refine settled_nil (fun w2 hS => ?_)
    go_wp2_with fail
    go_ret
    exact ⟨by rw [HM.out]; rfl, by rw [HM.out]; exact h1.on hS, Mod.of_below (hb0.on hS)⟩
  by_cases c2 : (S.segs : Int) ≤ seg
  · have HM := Lib.hid (show S.drop seg pl n = (5, S) by
      unfold Sp.drop
      rw [if_neg]
      intro hm
      obtain ⟨p, hp, hpp⟩ := List.any_eq_true.1 hm
      simp only [isPc, decide_eq_true_eq] at hpp
      have := hS0.inv.fit p hp
      omega)
    refine wp_region_settle (Below w1.heap.size w1) (by kernel_rfl) (by kernel_rfl) (by kernel_rfl) (below_drew (Below.refl _ _)) ?_
    repeat (first
      | (refine settled_not ?_ ?_
         · rfl
         simp only [Act.put, List.setIfInBounds_toArray, List.set_cons_zero, List.set_cons_succ])
      | (refine settled_val (v := ?_) ?_ (fun w' hS => ?_) ?_
         rotate_left
         · rfl
         · obtain ⟨k0, k3, k4, k5⟩ := HF.out w' hS
           go_simp
           with_reducible rfl
         simp only [Act.put, List.setIfInBounds_toArray, List.set_cons_zero, List.set_cons_succ]))
    refine settled_nil (fun w2 hS => ?_)
    go_wp2_with fail
    go_ret
    exact ⟨by rw [HM.out]; rfl, by rw [HM.out]; exact h1.on hS, Mod.of_below (hb0.on hS)⟩
  obtain ⟨i, rfl⟩ := Int.eq_ofNat_of_zero_le (show 0 ≤ seg by omega)
  have hi : i < S.segs := by omega
  obtain ⟨v, hv⟩ : ∃ v, pieceN S.ls i pl = v := ⟨_, rfl⟩
  have HG := Lib.hid (show ∀ w', Below w1.heap.size w1 w' → (w'.cell? ⟨b, 0, none⟩ = some (.slice (some ⟨g, 0, none⟩) S.segs cap) ∧ w'.cell? ⟨w.heap.size, 0, none⟩ = some (.int .i64 i) ∧ w'.cell? ⟨w.heap.size, 1, none⟩ = some (.int .i64 pl) ∧ w'.cell? ⟨w.heap.size, 2, none⟩ = some (.int .i64 n) ∧ w'.cell? ⟨g, i * 2, none⟩ = some (.map (some (nth ms i))) ∧
      (Instr.lookup 54 (.map (some (nth ms i))) (.int .i64 pl) false).run Try.prog w' = .ok (.int .i64 v) w') from
    fun w' hb => ⟨(HF.out w' hb).1, (HF.out w' hb).2.1, (HF.out w' hb).2.2.1, (HF.out w' hb).2.2.2, ((h1.on hb).seg hi).1, by rw [← hv]; exact ((h1.on hb).maps i hi).look pl hplI⟩)
  have HV := Lib.hid hv
  clear hv
  by_cases c3 : v = n
  · subst c3
    have q3 : (v != v) = false := by simp
    refine wp_region_settle (Below w1.heap.size w1) (by kernel_rfl) (by kernel_rfl) (by kernel_rfl) (below_drew (Below.refl _ _)) ?_
    repeat (first
      | (refine settled_not ?_ ?_
         · rfl
         simp only [Act.put, List.setIfInBounds_toArray, List.set_cons_zero, List.set_cons_succ])
      | (refine settled_val (v := ?_) ?_ (fun w' hS => ?_) ?_
         rotate_left
         · rfl
         · obtain ⟨k0, k3, k4, k5, k6, k7⟩ := HG.out w' hS
           go_simp
           with_reducible rfl
         simp only [Act.put, List.setIfInBounds_toArray, List.set_cons_zero, List.set_cons_succ]))
    refine settled_nil (fun w2 hS => ?_)
    have hb2 := (Below.refl w1.heap.size w1).on hS
    clear hS q3
    go_upto_region 5 with fail
    obtain ⟨p, hp, e1, e2, e3⟩ := pieceN_mem (ls := S.ls) (i := i) (k := pl) (by rw [HV.out]; omega)
    rw [HV.out] at e3
    subst e2
    subst e3
    have hfit := hS0.inv.fit p hp
    have hany : S.ls.any (isPc i p.pl p.n) = true := List.any_eq_true.2 ⟨p, hp, by simp [isPc, e1]⟩
    have HM := Lib.hid (show S.drop i p.pl p.n = (0, ⟨S.segs, S.per, S.ls.eraseP (isPc i p.pl p.n), S.now, S.mark, S.cnt⟩) by unfold Sp.drop; rw [if_pos hany])
    obtain ⟨q, hq, hqq⟩ := find_any hany
    simp only [isPc, decide_eq_true_eq] at hqq
    have HL := Lib.hid (liveN_eraseP _ hq)
    have HP := Lib.hid (pieceN_eraseP hS0.inv.apart hS0.pos hany)
    have hq1 : q.seg = i := by omega
    have hq2 : q.n = p.n := by omega
    have hlive := hS0.live hc i
    clear hany hq hqq
    generalize p.pl = a at *
    generalize p.n = c at *
    have HGG := Lib.hid (show ∀ w', Below w2.heap.size w2 w' → (w'.cell? ⟨b, 0, none⟩ = some (.slice (some ⟨g, 0, none⟩) S.segs cap) ∧ w'.cell? ⟨w.heap.size, 0, none⟩ = some (.int .i64 i) ∧ w'.cell? ⟨w.heap.size, 1, none⟩ = some (.int .i64 a) ∧ w'.cell? ⟨g, i * 2, none⟩ = some (.map (some (nth ms i)))) from
      fun w' hb => ⟨(HG.out w' (hb2.on hb)).1, (HG.out w' (hb2.on hb)).2.1, (HG.out w' (hb2.on hb)).2.2.1, (HG.out w' (hb2.on hb)).2.2.2.2.1⟩)
    refine wp_region_settle_then 11 (Below w2.heap.size w2) (by kernel_rfl) (by kernel_rfl) (by kernel_rfl) (by kernel_rfl) (by kernel_rfl) (below_drew (Below.refl _ _)) ?_
    repeat (first
      | (refine settledL_not ?_ ?_
         · rfl
         simp only [Act.put, List.setIfInBounds_toArray, List.set_cons_zero, List.set_cons_succ])
      | (refine settledL_val (v := ?_) ?_ (fun w' hS => ?_) ?_
         rotate_left
         · rfl
         · obtain ⟨k0, k1, k2, k3⟩ := HGG.out w' hS
           go_simp
           with_reducible rfl
         simp only [Act.put, List.setIfInBounds_toArray, List.set_cons_zero, List.set_cons_succ]))
    refine settledL_end (fun w3 hS => ?_)
    have hb3 := hb2.on hS
    have h3 := h1.on hb3
    have hL3 := hL0.on hb3
    obtain ⟨w4, hrun, hM, hmod⟩ := (h3.maps i hi).drop a hplI 0
    refine seq_step (by rfl) (fun K hK => ?_)
    go_simp
    refine hK.out _ _ (seq_nil ?_)
    clear hK K HGG hS hrun
    go_upto_region 6 with fail
    have hlt : nth ms i < w.heap.size := (h.maps i hi).lt
    have hL4 := hL3.mod hmod (by simp only [List.mem_singleton]; omega)
    have HGG := Lib.hid (show ∀ w', Below w4.heap.size w4 w' → (w'.cell? ⟨b, 0, none⟩ = some (.slice (some ⟨g, 0, none⟩) S.segs cap) ∧ w'.cell? ⟨g, i * 2 + 1, none⟩ = some (.int .i64 (liveN S.ls i)) ∧ w'.cell? ⟨w.heap.size, 0, none⟩ = some (.int .i64 i) ∧ w'.cell? ⟨w.heap.size, 2, none⟩ = some (.int .i64 c)) from
      fun w' hb => ⟨(h3.rest hi (hmod.thenBelow hb)).1, (h3.rest hi (hmod.thenBelow hb)).2.1, by rw [(hL4.on hb).cell]; rfl, by rw [(hL4.on hb).cell]; rfl⟩)
    have hwr : IntKind.i64.wrap ((liveN S.ls i : Int) - c) = (liveN S.ls i : Int) - c := IntWalk.i64_in _ (by omega)
    refine wp_region_settle_then 14 (Below w4.heap.size w4) (by kernel_rfl) (by kernel_rfl) (by kernel_rfl) (by kernel_rfl) (by kernel_rfl) (below_drew (Below.refl _ _)) ?_
    repeat (first
      | (refine settledL_not ?_ ?_
         · rfl
         simp only [Act.put, List.setIfInBounds_toArray, List.set_cons_zero, List.set_cons_succ])
      | (refine settledL_val (v := ?_) ?_ (fun w' hS => ?_) ?_
         rotate_left
         · rfl
         · obtain ⟨k0, k1, k2, k3⟩ := HGG.out w' hS
           go_simp
           with_reducible rfl
         simp only [Act.put, List.setIfInBounds_toArray, List.set_cons_zero, List.set_cons_succ]))
    refine settledL_end (fun w5 hS => ?_)
    have hm5 := hmod.thenBelow hS
    have hf5 := (h3.rest hi hm5).2.2
    have hc5 := (h3.rest hi hm5).2.1
    have ht := h3.turn hi (S.ls.eraseP (isPc i a c)) S.cnt (Nat.le_refl _) hm5 ((hM.on hS).congr (fun k => by rw [HP.out]; simp)) (fun j hj => by have := HL.out j; rw [hq1, if_neg (Ne.symm hj)] at this; omega) (fun j hj k => by rw [HP.out]; simp [hj])
    have e : ((liveN (S.ls.eraseP (isPc i a c)) i : Nat) : Int) = liveN S.ls i - c := by have := HL.out i; rw [hq1, if_pos rfl] at this; omega
    rw [e] at ht
    have HT := Lib.hid ht
    clear ht e
    refine seq_step (by rfl) (fun K hK => ?_)
    go_simp
    refine hK.out _ _ (seq_nil ?_)
    clear hK K HGG hS
    go_wp2_with fail
    go_ret
    exact ⟨by rw [HM.out]; rfl, by rw [HM.out]; exact HT.out.1, (Mod.of_below (hb0.on hb3)).trans HT.out.2⟩
  · have HM := Lib.hid (show S.drop i pl n = (5, S) by
      unfold Sp.drop
      rw [if_neg]
      intro hm
      obtain ⟨p, hp, hpp⟩ := List.any_eq_true.1 hm
      simp only [isPc, decide_eq_true_eq] at hpp
      have := hS0.inv.fit p hp
      have h2 := pieceN_of_mem hS0.inv.apart hS0.pos hp
      have h3 : p.seg = i := by omega
      rw [h3, hpp.2.1, HV.out] at h2
      omega)
    have q3 : (v != n) = true := by simp [c3]
    refine wp_region_settle (Below w1.heap.size w1) (by kernel_rfl) (by kernel_rfl) (by kernel_rfl) (below_drew (Below.refl _ _)) ?_
    repeat (first
      | (refine settled_not ?_ ?_
         · rfl
         simp only [Act.put, List.setIfInBounds_toArray, List.set_cons_zero, List.set_cons_succ])
      | (refine settled_val (v := ?_) ?_ (fun w' hS => ?_) ?_
         rotate_left
         · rfl
         · obtain ⟨k0, k3, k4, k5, k6, k7⟩ := HG.out w' hS
           go_simp
           with_reducible rfl
         simp only [Act.put, List.setIfInBounds_toArray, List.set_cons_zero, List.set_cons_succ]))
    refine settled_nil (fun w2 hS => ?_)
    go_wp2_with fail
    go_ret
    exact ⟨by rw [HM.out]; rfl, by rw [HM.out]; exact h1.on hS, Mod.of_below (hb0.on hS)⟩
end Go.Proofs.Ytmicpjdlldjapaa
