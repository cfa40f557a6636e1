/-
  The document's Free. No condition.
-/
import Derived.Test.YtmicpjdlldjapaaRf8B
namespace Go.Proofs.Ytmicpjdlldjapaa
set_option linter.unusedVariables false
set_option linter.unusedSimpArgs false
open Go.RowKit

set_option maxRecDepth 10000 in
set_option maxHeartbeats 4000000 in
theorem rfree_any (S : Sp) (hS0 : S.Good) (hc : S.cnt < 10000) (B r : Nat) (v : Value) (seg pl n : Int) (hseg : isInt seg) (hpl : isInt pl) (hn : isInt n) (w : World) (h : RAt w B r v S) (hB : B ≤ w.heap.size) :
    Calls Try.prog 12 #[.pointer (some ⟨r, 0, none⟩), .agg #[.int .i64 seg, .int .i64 pl, .int .i64 n]] w (REnds B r v (S.drop seg pl n).2 (.int .i64 ((S.drop seg pl n).1 : Nat)) w) := by
  have hL0 : Blk (w.alloc (.cells #[.int .i64 seg, .int .i64 pl, .int .i64 n] 31)) w.heap.size [.int .i64 seg, .int .i64 pl, .int .i64 n] 31 := Blk.new _ _ _
  have hb0 := (Below.refl w.heap.size w).alloc (Nat.le_refl _) (.cells #[.int .i64 seg, .int .i64 pl, .int .i64 n] 31)
  have h1 := h.on hb0
  unfold isInt at hseg hpl hn
  have hsegs := hS0.inv.segs
  have hper := hS0.inv.per
  have hcn := hS0.cnt
  have hrB := h.lt
  go_enter Try.func12, Try.ntmps12
  go_upto_region 1 with fail
  generalize w.alloc (.cells #[.int .i64 seg, .int .i64 pl, .int .i64 n] 31) = w1 at *
  obtain ⟨va, vc, rfl, hloc⟩ := own_locs h1.own (by omega)
  have hvc := hloc.2.1
  have HFit := Lib.hid hS0.inv.fit
  go_wp2_with fail
  go_loopw [5, 6] (fun s5 _ wr => ∃ k : Nat, k ≤ S.ls.length ∧ s5 = .int .i64 k ∧ Below w1.heap.size w1 wr ∧ ∀ (j : Nat) (p : Pc), j < k → S.ls[j]? = some p → ¬ ((p.seg : Int) = seg ∧ (p.pl : Int) = pl ∧ (p.n : Int) = n)) (fun s5 _ _ => S.ls.length - (intOf s5).toNat)
  case atStart => exact ⟨0, by omega, rfl, Below.refl _ _, fun j p hj _ => by omega⟩
  case round =>
    obtain ⟨k, hk, rfl, hbr, hno⟩ := hrel
    have HNo := Lib.hid hno
    clear hno
    obtain ⟨_, _, d2, _, _⟩ := (h1.on hbr).cells
    by_cases hlt : k < S.ls.length
    · obtain ⟨p, hp⟩ : ∃ p, S.ls[k]? = some p := ⟨_, List.getElem?_eq_getElem hlt⟩
      obtain ⟨G, rfl, hG, k0, k1, k2⟩ := (hloc.on hbr).2.2.2 k p hp
      have hfit := HFit.out p (List.mem_of_getElem? hp)
      have HP := Lib.hid hp
      clear hp
      have h2 := h1.on hbr
      have hL2 := hL0.on hbr
      have hl2 := hloc.on hbr
      go_upto_region 4 with fail
      have HF := Lib.hid (show ∀ w', Below wr.heap.size wr w' → (w'.cell? ⟨r, 2, none⟩ = some (.slice (some ⟨G, 0, none⟩) S.ls.length vc) ∧ w'.cell? ⟨w.heap.size, 0, none⟩ = some (.int .i64 seg) ∧ w'.cell? ⟨w.heap.size, 1, none⟩ = some (.int .i64 pl) ∧ w'.cell? ⟨w.heap.size, 2, none⟩ = some (.int .i64 n) ∧ w'.cell? ⟨G, k * 3, none⟩ = some (.int .i64 p.seg) ∧ w'.cell? ⟨G, k * 3 + 1, none⟩ = some (.int .i64 p.pl) ∧ w'.cell? ⟨G, k * 3 + 2, none⟩ = some (.int .i64 p.n)) from
        fun w' hb => ⟨by rw [(h2.on hb).head.cell]; rfl, by rw [(hL2.on hb).cell]; rfl, by rw [(hL2.on hb).cell]; rfl, by rw [(hL2.on hb).cell]; rfl,
          (hb.cell (p := ⟨G, k * 3, none⟩) hG).trans k0, (hb.cell (p := ⟨G, k * 3 + 1, none⟩) hG).trans k1, (hb.cell (p := ⟨G, k * 3 + 2, none⟩) hG).trans k2⟩)
      clear d2 k0 k1 k2
      by_cases he : (p.seg : Int) = seg ∧ (p.pl : Int) = pl ∧ (p.n : Int) = n
      · obtain ⟨rfl, rfl, rfl⟩ := he
        refine wp_region_settleF (Below wr.heap.size wr) (by kernel_rfl) (by kernel_rfl) (by kernel_rfl) (below_drew (Below.refl _ _)) ?_
        repeat (first
          | (refine settled_not ?_ ?_
             · rfl
             simp only [Act.put, List.setIfInBounds_toArray, List.set_cons_zero, List.set_cons_succ])
          | (refine settled_val (v := ?_) ?_ (fun w' hS => ?_) ?_
             rotate_left
             · rfl
             · obtain ⟨k0, k1, k2, k3, k4, k5, k6⟩ := HF.out w' hS
               go_simp
               with_reducible rfl
             simp only [Act.put, List.setIfInBounds_toArray, List.set_cons_zero, List.set_cons_succ]))
        refine settled_nil (fun w2 hS => ?_)
        obtain ⟨k0, _, _, _, _, _, _⟩ := HF.out w2 hS
        have HD := Lib.hid (drop_at hS0 HP.out)
        have hb2 := hbr.on hS
        have h3 := h1.on hb2
        have hbw := hb0.on hb2
        have hcell := h3.own.cells (g := G) rfl
        obtain ⟨ti, hti, hz0, hz1, hz2⟩ := info_parts info_loc
        have e0 : S.ls.eraseIdx k = S.ls.take k ++ S.ls.drop (k + 1) := List.eraseIdx_eq_take_drop_succ _ _
        have e1 : locsCells S.ls = locsCells (S.ls.take k) ++ locsCells (S.ls.drop k) := by rw [← locs_append, List.take_append_drop]
        have e2 : locsCells S.ls = locsCells (S.ls.take (k + 1)) ++ locsCells (S.ls.drop (k + 1)) := by rw [← locs_append, List.take_append_drop]
        have l1 : (locsCells (S.ls.take k)).length = k * 3 := by rw [locs_length, List.length_take]; congr 1; omega
        have l2 : (locsCells (S.ls.take (k + 1))).length = (k + 1) * 3 := by rw [locs_length, List.length_take]; congr 1; omega
        have l3 : (locsCells (S.ls.drop (k + 1))).length = (S.ls.length - (k + 1)) * 3 := by rw [locs_length, List.length_drop]
        have hone : ∀ ps : List Pc, ∀ u ∈ locsCells ps, u.oneCell' = true := by
          intro ps u hu
          simp only [locsCells, List.mem_flatMap] at hu
          obtain ⟨q, _, hu⟩ := hu
          simp only [locCells, List.mem_cons, List.not_mem_nil, or_false] at hu
          rcases hu with rfl | rfl | rfl <;> rfl
        obtain ⟨v5, w5, hrun5, hown5, hg5, _⟩ := run_append_own (P := Try.prog) (w := w2) w2.heap.size 29 29 31 ti _ 3 24 Try.underlying29 hti hz0 hz1 hz2 rfl (by decide) (.slice none 0 0) 0 [] (World.ownsRow_nil _ _ _ _)
          ⟨G, 0, none⟩ k vc (locsCells (S.ls.take k)) l1 (fun j u hj => hcell j u (by rw [e1, List.getElem?_append_left (List.getElem?_eq_some_iff.1 hj).1]; exact hj)) (hone _) (by unfold maxLen; omega) (by omega) (Nat.le_refl _)
        have hm5 : Mod [] w2 w5 := (Mod.refl [] w2).grown hg5 (fun x hx => by simp [Value.ownBlock] at hx)
        have hGlt := h3.own.lt G rfl
        have h5 := h3.mod hm5 (by simp) (by simp)
        have hcell5 := h5.own.cells (g := G) rfl
        obtain ⟨a5, n5, c5, rfl⟩ : ∃ a n c, v5 = .slice a n c := by rcases hown5.2 with ⟨rfl, _⟩ | ⟨g, cap, cur, rfl, _⟩ <;> exact ⟨_, _, _, rfl⟩
        have hall : ∀ o2, (vc = k + 1 ∨ o2 = (k + 1) * 3) → ∃ v6 w6, (Builtin.append_ #[29, 29] 29 #[.slice a5 n5 c5, .slice (some ⟨G, o2, none⟩) (S.ls.length - (k + 1)) (vc - (k + 1))]).run Try.prog w5 = .ok v6 w6 ∧ w6.ownsRow w2.heap.size 31 3 v6 (0 + k + (S.ls.length - (k + 1))) ([] ++ locsCells (S.ls.take k) ++ locsCells (S.ls.drop (k + 1))) ∧ w5.grownBy w6 (Value.slice a5 n5 c5).ownBlock := fun o2 ho2 => by
          obtain ⟨v6, w6, hrun6, hown6, hg6, _⟩ := run_append_own (P := Try.prog) (w := w5) w2.heap.size 29 29 31 ti _ 3 24 Try.underlying29 hti hz0 hz1 hz2 rfl (by decide) (.slice a5 n5 c5) (0 + k) _ hown5
            ⟨G, o2, none⟩ (S.ls.length - (k + 1)) (vc - (k + 1)) (locsCells (S.ls.drop (k + 1))) l3 (fun j u hj => by
              have hj1 := (List.getElem?_eq_some_iff.1 hj).1
              rw [l3] at hj1
              obtain rfl : o2 = (k + 1) * 3 := ho2.resolve_left (by omega)
              have := hcell5 ((k + 1) * 3 + j) u (by rw [e2, List.getElem?_append_right (by omega), l2, Nat.add_sub_cancel_left]; exact hj)
              rw [addr_add] at this ⊢
              rw [← this]; congr 2; omega) (hone _) (by unfold maxLen; omega) (by omega) hm5.size
          exact ⟨v6, w6, hrun6, hown6, hg6⟩
        have HAll := Lib.hid hall
        have HEnd := Lib.hid (show ∀ (v6 : Value) (w6 : World), w6.ownsRow w2.heap.size 31 3 v6 (0 + k + (S.ls.length - (k + 1))) ([] ++ locsCells (S.ls.take k) ++ locsCells (S.ls.drop (k + 1))) → w5.grownBy w6 (Value.slice a5 n5 c5).ownBlock → w6.cell? ⟨r, 2, none⟩ = some (.slice (some ⟨G, 0, none⟩) S.ls.length vc) ∧ w6.frozen? ⟨r, 2, none⟩ = false ∧ (∃ a n c, v6 = .slice a n c) ∧ REnds B r (.slice (some ⟨G, 0, none⟩) S.ls.length vc) ⟨S.segs, S.per, S.ls.eraseIdx k, S.now, S.mark, S.cnt⟩ (.int .i64 0) w (.returned (.int .i64 0)) (w6.setCell ⟨r, 2, none⟩ v6) from fun v6 w6 hown6 hg6 => by
          have hm6 : Mod (Value.slice a5 n5 c5).ownBlock.toList w5 w6 := (Mod.refl _ w5).grown hg6 (fun x hx => .inl (by rw [hx]; simp))
          have hsz := hbw.size
          have hrn : r ∉ (Value.slice a5 n5 c5).ownBlock.toList := fun hh => by have := (hown5.lt r (by simpa using hh)).1; omega
          have hH6 := h5.head.mod hm6 hrn
          have hms : Mod [r] w6 (w6.setCell ⟨r, 2, none⟩ v6) := (Mod.refl _ _).setCell _ _ (.inl (by simp))
          have hlen : (S.ls.eraseIdx k).length = 0 + k + (S.ls.length - (k + 1)) := by rw [List.length_eraseIdx_of_lt hlt]; omega
          have hown7 := ownsRow_mod hown6 hms (fun s hs hh => by rw [List.mem_singleton.1 hs] at hh; have := (hown6.lt r hh).1; omega)
          refine ⟨by rw [hH6.cell]; rfl, hH6.free 2, ?_, v6, rfl, ⟨hH6.set 2 v6, ?_, hrB⟩, ?_, fun x hx => .inr ?_⟩
          · rcases hown6.2 with ⟨rfl, _⟩ | ⟨g, cap, cur, rfl, _⟩ <;> exact ⟨_, _, _, rfl⟩
          · show World.ownsRow _ B 31 3 v6 (S.ls.eraseIdx k).length (locsCells (S.ls.eraseIdx k))
            rw [hlen, e0, locs_append]
            obtain ⟨q1, q2⟩ := hown7
            refine ⟨by simpa using q1, ?_⟩
            rcases q2 with q2 | ⟨g, cap, cur, q3, q4, q5⟩
            · exact .inl q2
            · exact .inr ⟨g, cap, cur, q3, by omega, by simpa using q5⟩
          · have m1 := (Mod.of_below (S := r :: (Value.slice (some ⟨G, 0, none⟩) S.ls.length vc).ownBlock.toList) hbw).on (hm5.on hm6 (S' := (Value.slice a5 n5 c5).ownBlock.toList) (fun x hx => .inr ((hown5.lt x (by simpa using hx)).1))) (by simp)
            exact m1.trans (hms.mono (fun x hx => .inl (by rw [List.mem_singleton.1 hx]; simp)))
          · have := (hown6.lt x hx).1; omega)
        have hk1 : (k : Int) ≤ (vc : Int) := by omega
        have hk2 : (k : Int) + 1 ≤ (S.ls.length : Int) := by omega
        have hk3 : (0 : Int) ≤ (k : Int) + 1 := by omega
        have hk4 : (S.ls.length : Int) ≤ (vc : Int) := by omega
        have hk5 : (0 : Int) ≤ (k : Int) := by omega
        have hk6 : (k : Int) ≤ (S.ls.length : Int) := by omega
        have hwk : IntKind.i64.wrap ((k : Int) + 1) = (k : Int) + 1 := IntWalk.i64_in _ (by omega)
        have f5 : w5.cell? ⟨r, 2, none⟩ = some (.slice (some ⟨G, 0, none⟩) S.ls.length vc) := by rw [h5.head.cell]; rfl
        clear e0 e1 e2 l1 l2 l3 hone hall hown5 hg5 hm5 hcell hcell5 h5 h3 hl2 hL2 h2 hti hz0 hz1 hz2
        go_upto_region 7 with (at_builtin; (with_reducible refine wpList_append_run rfl _ _ _ rfl _ _ _ _ ?_ ?_ hrun5 ?_); rfl; rfl)
        clear hrun5 k0
        have j1 : (k : Int) ≤ (k : Int) + 1 := by omega
        have j2 : vc = k + 1 → (S.ls.length : Int) ≤ (k : Int) + 1 := by omega
        by_cases hcp : vc = k + 1
        · have j3 := j2 hcp
          obtain ⟨v6, w6, hrun6, hown6, hg6⟩ := HAll.out 0 (.inl hcp)
          rw [show vc - (k + 1) = 0 by omega] at hrun6
          obtain ⟨z1, z2, ⟨a6, n6, c6, rfl⟩, hend⟩ := HEnd.out v6 w6 hown6 hg6
          have HE := Lib.hid hend
          clear hend hown6 hg6 HAll HEnd
          go_wp2_with (at_builtin; (with_reducible refine wpList_append_run rfl _ _ _ rfl _ _ _ _ ?_ ?_ hrun6 ?_); rfl; rfl)
          go_ret
          rw [HD.out]
          exact HE.out
        · obtain ⟨v6, w6, hrun6, hown6, hg6⟩ := HAll.out ((k + 1) * 3) (.inr rfl)
          obtain ⟨z1, z2, ⟨a6, n6, c6, rfl⟩, hend⟩ := HEnd.out v6 w6 hown6 hg6
          have HE := Lib.hid hend
          clear hend hown6 hg6 HAll HEnd
          go_wp2_with (at_builtin; (with_reducible refine wpList_append_run rfl _ _ _ rfl _ _ _ _ ?_ ?_ hrun6 ?_); rfl; rfl)
          go_ret
          rw [HD.out]
          exact HE.out
      · have HG := Lib.hid (show ∀ (j : Nat) (q : Pc), j < k + 1 → S.ls[j]? = some q → ¬ ((q.seg : Int) = seg ∧ (q.pl : Int) = pl ∧ (q.n : Int) = n) from fun j q hj hq => by
          by_cases hjk : j = k
          · subst hjk
            have := HP.out.symm.trans hq
            cases this; exact he
          · exact HNo.out j q (by omega) hq)
        by_cases e1 : (p.seg : Int) = seg
        · have e1' : ((p.seg : Int) == seg) = true := by simpa using e1
          by_cases e2 : (p.pl : Int) = pl
          · have e2' : ((p.pl : Int) == pl) = true := by simpa using e2
            have e3' : ((p.n : Int) == n) = false := by
              have : ¬ (p.n : Int) = n := fun e3 => he ⟨e1, e2, e3⟩
              simpa using this
            clear e1 e2 he
            refine wp_region_settleF (Below wr.heap.size wr) (by kernel_rfl) (by kernel_rfl) (by kernel_rfl) (below_drew (Below.refl _ _)) ?_
            repeat (first
              | (refine settled_not ?_ ?_
                 · rfl
                 simp only [Act.put, List.setIfInBounds_toArray, List.set_cons_zero, List.set_cons_succ])
              | (refine settled_val (v := ?_) ?_ (fun w' hS => ?_) ?_
                 rotate_left
                 · rfl
                 · obtain ⟨k0, k1, k2, k3, k4, k5, k6⟩ := HF.out w' hS
                   go_simp
                   with_reducible rfl
                 simp only [Act.put, List.setIfInBounds_toArray, List.set_cons_zero, List.set_cons_succ]))
            refine settled_nil (fun w2 hS => ?_)
            have hb2 := hbr.on hS
            go_wp2_with fail
            go_roundw
            case rel => exact ⟨k + 1, by omega, by go_num, hb2, HG.out⟩
            case measure => simp [intOf]; omega
          · have e2' : ((p.pl : Int) == pl) = false := by simpa using e2
            clear e1 e2 he
            refine wp_region_settleF (Below wr.heap.size wr) (by kernel_rfl) (by kernel_rfl) (by kernel_rfl) (below_drew (Below.refl _ _)) ?_
            repeat (first
              | (refine settled_not ?_ ?_
                 · rfl
                 simp only [Act.put, List.setIfInBounds_toArray, List.set_cons_zero, List.set_cons_succ])
              | (refine settled_val (v := ?_) ?_ (fun w' hS => ?_) ?_
                 rotate_left
                 · rfl
                 · obtain ⟨k0, k1, k2, k3, k4, k5, k6⟩ := HF.out w' hS
                   go_simp
                   with_reducible rfl
                 simp only [Act.put, List.setIfInBounds_toArray, List.set_cons_zero, List.set_cons_succ]))
            refine settled_nil (fun w2 hS => ?_)
            have hb2 := hbr.on hS
            go_wp2_with fail
            go_roundw
            case rel => exact ⟨k + 1, by omega, by go_num, hb2, HG.out⟩
            case measure => simp [intOf]; omega
        · have e1' : ((p.seg : Int) == seg) = false := by simpa using e1
          clear e1 he
          refine wp_region_settleF (Below wr.heap.size wr) (by kernel_rfl) (by kernel_rfl) (by kernel_rfl) (below_drew (Below.refl _ _)) ?_
          repeat (first
            | (refine settled_not ?_ ?_
               · rfl
               simp only [Act.put, List.setIfInBounds_toArray, List.set_cons_zero, List.set_cons_succ])
            | (refine settled_val (v := ?_) ?_ (fun w' hS => ?_) ?_
               rotate_left
               · rfl
               · obtain ⟨k0, k1, k2, k3, k4, k5, k6⟩ := HF.out w' hS
                 go_simp
                 with_reducible rfl
               simp only [Act.put, List.setIfInBounds_toArray, List.set_cons_zero, List.set_cons_succ]))
          refine settled_nil (fun w2 hS => ?_)
          have hb2 := hbr.on hS
          go_wp2_with fail
          go_roundw
          case rel => exact ⟨k + 1, by omega, by go_num, hb2, HG.out⟩
          case measure => simp [intOf]; omega
    · have HD := Lib.hid (show S.drop seg pl n = (5, S) by
        unfold Sp.drop
        rw [if_neg]
        intro hh
        obtain ⟨p, hp, hpp⟩ := List.any_eq_true.1 hh
        simp only [isPc, decide_eq_true_eq] at hpp
        obtain ⟨j, hj, rfl⟩ := List.getElem_of_mem hp
        exact HNo.out j _ (by omega) (List.getElem?_eq_getElem hj) hpp)
      have hbf := hb0.on hbr
      have h3 := h1.on hbr
      clear HNo
      go_wp2_with fail
      go_ret
      exact ⟨_, by rw [HD.out]; rfl, by rw [HD.out]; exact h3, Mod.of_below hbf, fun x hx => .inl hx⟩
end Go.Proofs.Ytmicpjdlldjapaa
