/-
  The document's Take. No condition.
-/
import Derived.Test.YtmicpjdlldjapaaRf8A
import Derived.Test.YtmicpjdlldjapaaSettleF
namespace Go.Proofs.Ytmicpjdlldjapaa
set_option linter.unusedVariables false
set_option linter.unusedSimpArgs false
open Go.RowKit

/-- 'append(s, x...)' at the operation, whose run is known. -/
theorem oper_append_run2 {P : Program} {w : World} {o : Oper} {a : Act} {K : Act → World → Prop} {Q : Exit → Act → World → Prop} (s x : Operand) (t : TypeId)
    (ho : o.op = .call { callee := .builtin .append, args := #[s, x], argTypes := #[t, t] }) (v xv v' : Value) (w' : World) (hs : a.eval s = v) (hx : a.eval x = xv)
    (hrun : (Builtin.append_ #[t, t] o.type #[v, xv]).run P w = .ok v' w') (h : K (a.put o.dst v') w') : Oper.wp P o a w K Q := by
  unfold Oper.wp
  simp [execOp, ho, resolve, invoke, builtin, hs, hx, hrun, Result.andThen]
  exact h
/-- What a method of the document's space that changes it ends with. -/
def REnds (B r : Nat) (v : Value) (S2 : Sp) (res : Value) (w : World) (e : Ending) (w' : World) : Prop :=
  ∃ v2, e = .returned res ∧ RAt w' B r v2 S2 ∧ Mod (r :: v.ownBlock.toList) w w' ∧ ∀ x, v2.ownBlock = some x → v.ownBlock = some x ∨ w.heap.size ≤ x
/-- 'append(l, x)' of one piece: where the row lies then. -/
theorem row_append {w : World} {B : Nat} {v : Value} {ls : List Pc} (h : w.ownsRow B 31 3 v ls.length (locsCells ls)) (hl : ls.length ≤ 10000) (hB : B ≤ w.heap.size) (p : Pc) (ty : TypeId) (c : Array Value) (hc : c = #[.int .i64 p.seg, .int .i64 p.pl, .int .i64 p.n]) (n : Nat) (hn : n = w.heap.size) :
    ∃ v' w', (Builtin.append_ #[29, 29] ty #[v, .slice (some ⟨n, 0, none⟩) 1 1]).run Try.prog (w.alloc (.cells c 31)) = .ok v' w' ∧ w'.ownsRow B 31 3 v' (ls ++ [p]).length (locsCells (ls ++ [p])) ∧ Mod v.ownBlock.toList w w' ∧ ∀ x, v'.ownBlock = some x → v.ownBlock = some x ∨ w.heap.size ≤ x := by
  subst hc hn
  obtain ⟨i, hi, hz0, hz1, hz2⟩ := info_parts info_loc
  have hnews : ∀ j u, (locCells p)[j]? = some u → (w.alloc (.cells #[.int .i64 p.seg, .int .i64 p.pl, .int .i64 p.n] 31)).cell? ((⟨w.heap.size, 0, none⟩ : Addr).add j) = some u := fun j u hj => by
    rw [addr_add, Nat.zero_add, World.cell?_alloc_new]; simpa [locCells] using hj
  have hone : ∀ u ∈ locCells p, u.oneCell' = true := by
    intro u hu
    simp only [locCells, List.mem_cons, List.not_mem_nil, or_false] at hu
    rcases hu with rfl | rfl | rfl <;> rfl
  obtain ⟨v', w', hrun, hown, hgr, _⟩ := run_append_own (P := Try.prog) (w := w.alloc (.cells #[.int .i64 p.seg, .int .i64 p.pl, .int .i64 p.n] 31)) B 29 ty 31 i _ 3 24 Try.underlying29 hi hz0 hz1 hz2 rfl (by decide) v ls.length (locsCells ls) (h.alloc _)
    ⟨w.heap.size, 0, none⟩ 1 1 (locCells p) rfl hnews hone (by unfold maxLen; omega) (by omega) (by simp; omega)
  refine ⟨v', w', hrun, by rw [locs_append, List.length_append, show locsCells [p] = locCells p by simp [locsCells], show [p].length = 1 from rfl]; exact hown, ((Mod.refl _ _).alloc _).grown hgr (fun b hb => .inl (by rw [hb]; simp)), fun x hx => ?_⟩
  rcases h.2 with ⟨rfl, h0⟩ | ⟨g, cap, cur, rfl, hg, hh, hcp, hmx, hcs, htk⟩
  · have hls : ls = [] := List.length_eq_zero_iff.1 h0
    subst hls
    have hr := run_append_nil (P := Try.prog) (w.alloc (.cells #[.int .i64 p.seg, .int .i64 p.pl, .int .i64 p.n] 31)) 29 ty 31 i _ Try.underlying29 hi hz0 ⟨w.heap.size, 0, none⟩ 1 1 (locCells p) (by rw [hz1]; rfl) hnews (by omega) (by omega) (by rw [hz2]; omega)
    rw [hr] at hrun
    cases hrun
    simp [Value.ownBlock] at hx
    right; omega
  · by_cases hroom : ls.length + 1 ≤ cap
    · have hr := run_append_room (P := Try.prog) (w.alloc (.cells #[.int .i64 p.seg, .int .i64 p.pl, .int .i64 p.n] 31)) 29 ty 31 i Try.underlying29 hi g ls.length cap cur (by
        have hlt := (Array.getElem?_eq_some_iff.1 hh).1
        rw [((Below.refl w.heap.size w).alloc (Nat.le_refl _) _).block g hlt]; exact hh) ⟨w.heap.size, 0, none⟩ 1 1 (locCells p) (by rw [hz1]; rfl) hnews hone hroom (by rw [hz1, hcs]; show ls.length * 3 + 3 ≤ cap * 3; omega)
      rw [hr] at hrun
      cases hrun
      exact .inl hx
    · have hr := run_append_grow (P := Try.prog) (w := w.alloc (.cells #[.int .i64 p.seg, .int .i64 p.pl, .int .i64 p.n] 31)) 29 ty 31 i _ Try.underlying29 hi hz0 ⟨g, 0, none⟩ ls.length cap (locsCells ls) (by rw [locs_length, hz1]) ((h.alloc _).cells (g := g) rfl)
        ⟨w.heap.size, 0, none⟩ 1 1 (locCells p) (by rw [hz1]; rfl) hnews (by omega) (by omega) (by rw [hz2]; exact grown_bytes _ _ (by omega) (by omega))
      rw [hr] at hrun
      cases hrun
      simp [Value.ownBlock] at hx
      right; omega

set_option maxRecDepth 10000 in
set_option maxHeartbeats 4000000 in
theorem rtake_any (S : Sp) (hS0 : S.Good) (hc : S.cnt < 10000) (B r : Nat) (v : Value) (seg pl n : Int) (hseg : isInt seg) (hpl : isInt pl) (hn : isInt n) (w : World) (h : RAt w B r v S) (hB : B ≤ w.heap.size) :
    Calls Try.prog 14 #[.pointer (some ⟨r, 0, none⟩), .agg #[.int .i64 seg, .int .i64 pl, .int .i64 n]] w (REnds B r v (S.take seg pl n).2 (.int .i64 ((S.take seg pl n).1 : Nat)) w) := by
  have hL0 : Blk (w.alloc (.cells #[.int .i64 seg, .int .i64 pl, .int .i64 n] 31)) w.heap.size [.int .i64 seg, .int .i64 pl, .int .i64 n] 31 := Blk.new _ _ _
  have hb0 := (Below.refl w.heap.size w).alloc (Nat.le_refl _) (.cells #[.int .i64 seg, .int .i64 pl, .int .i64 n] 31)
  have h1 := h.on hb0
  unfold isInt at hseg hpl hn
  have hsegs := hS0.inv.segs
  have hper := hS0.inv.per
  go_enter Try.func14, Try.ntmps14
  go_upto_region 1 with fail
  generalize w.alloc (.cells #[.int .i64 seg, .int .i64 pl, .int .i64 n] 31) = w1 at *
  have HF := Lib.hid (show ∀ w', Below w1.heap.size w1 w' → (w'.cell? ⟨r, 0, none⟩ = some (.int .i64 S.segs) ∧ w'.cell? ⟨r, 1, none⟩ = some (.int .i64 S.per) ∧ w'.cell? ⟨r, 3, none⟩ = some (.int .i64 S.now) ∧ w'.cell? ⟨w.heap.size, 0, none⟩ = some (.int .i64 seg) ∧ w'.cell? ⟨w.heap.size, 1, none⟩ = some (.int .i64 pl) ∧ w'.cell? ⟨w.heap.size, 2, none⟩ = some (.int .i64 n)) from
    fun w' hb => ⟨(h1.on hb).cells.1, (h1.on hb).cells.2.1, (h1.on hb).cells.2.2.2.1, by rw [(hL0.on hb).cell]; rfl, by rw [(hL0.on hb).cell]; rfl, by rw [(hL0.on hb).cell]; rfl⟩)
  by_cases c0 : seg < 0
  · have HM := Lib.hid (show S.take seg pl n = (2, S) by unfold Sp.take; rw [if_neg]; intro hm; have := (Sp.may_iff.1 hm).1; omega)
    refine wp_region_settleF (Below w1.heap.size w1) (by kernel_rfl) (by kernel_rfl) (by kernel_rfl) (below_drew (Below.refl _ _)) ?_
    repeat (first
      | (refine settled_not ?_ ?_
         · rfl
         simp only [Act.put, List.setIfInBounds_toArray, List.set_cons_zero, List.set_cons_succ])
      | (refine settled_val (v := ?_) ?_ (fun w' hS => ?_) ?_
         rotate_left
         · rfl
         · obtain ⟨k0, k1, k2, k3, k4, k5⟩ := HF.out w' hS
           go_simp
           with_reducible rfl
         simp only [Act.put, List.setIfInBounds_toArray, List.set_cons_zero, List.set_cons_succ]))
    refine settled_nil (fun w2 hS => ?_)
    have hb2 := hb0.on hS
    go_wp2_with fail
    go_ret
    exact ⟨v, by rw [HM.out]; rfl, by rw [HM.out]; exact h.on hb2, Mod.of_below hb2, fun x hx => .inl hx⟩
  by_cases c1 : (S.segs : Int) ≤ seg
  · have HM := Lib.hid (show S.take seg pl n = (2, S) by unfold Sp.take; rw [if_neg]; intro hm; have := (Sp.may_iff.1 hm).1; omega)
    refine wp_region_settleF (Below w1.heap.size w1) (by kernel_rfl) (by kernel_rfl) (by kernel_rfl) (below_drew (Below.refl _ _)) ?_
    repeat (first
      | (refine settled_not ?_ ?_
         · rfl
         simp only [Act.put, List.setIfInBounds_toArray, List.set_cons_zero, List.set_cons_succ])
      | (refine settled_val (v := ?_) ?_ (fun w' hS => ?_) ?_
         rotate_left
         · rfl
         · obtain ⟨k0, k1, k2, k3, k4, k5⟩ := HF.out w' hS
           go_simp
           with_reducible rfl
         simp only [Act.put, List.setIfInBounds_toArray, List.set_cons_zero, List.set_cons_succ]))
    refine settled_nil (fun w2 hS => ?_)
    have hb2 := hb0.on hS
    go_wp2_with fail
    go_ret
    exact ⟨v, by rw [HM.out]; rfl, by rw [HM.out]; exact h.on hb2, Mod.of_below hb2, fun x hx => .inl hx⟩
  by_cases c2 : pl < 0
  · have HM := Lib.hid (show S.take seg pl n = (2, S) by unfold Sp.take; rw [if_neg]; intro hm; have := (Sp.may_iff.1 hm).1; omega)
    refine wp_region_settleF (Below w1.heap.size w1) (by kernel_rfl) (by kernel_rfl) (by kernel_rfl) (below_drew (Below.refl _ _)) ?_
    repeat (first
      | (refine settled_not ?_ ?_
         · rfl
         simp only [Act.put, List.setIfInBounds_toArray, List.set_cons_zero, List.set_cons_succ])
      | (refine settled_val (v := ?_) ?_ (fun w' hS => ?_) ?_
         rotate_left
         · rfl
         · obtain ⟨k0, k1, k2, k3, k4, k5⟩ := HF.out w' hS
           go_simp
           with_reducible rfl
         simp only [Act.put, List.setIfInBounds_toArray, List.set_cons_zero, List.set_cons_succ]))
    refine settled_nil (fun w2 hS => ?_)
    have hb2 := hb0.on hS
    go_wp2_with fail
    go_ret
    exact ⟨v, by rw [HM.out]; rfl, by rw [HM.out]; exact h.on hb2, Mod.of_below hb2, fun x hx => .inl hx⟩
  by_cases c3 : (S.per : Int) ≤ pl
  · have HM := Lib.hid (show S.take seg pl n = (2, S) by unfold Sp.take; rw [if_neg]; intro hm; have := (Sp.may_iff.1 hm).1; omega)
    refine wp_region_settleF (Below w1.heap.size w1) (by kernel_rfl) (by kernel_rfl) (by kernel_rfl) (below_drew (Below.refl _ _)) ?_
    repeat (first
      | (refine settled_not ?_ ?_
         · rfl
         simp only [Act.put, List.setIfInBounds_toArray, List.set_cons_zero, List.set_cons_succ])
      | (refine settled_val (v := ?_) ?_ (fun w' hS => ?_) ?_
         rotate_left
         · rfl
         · obtain ⟨k0, k1, k2, k3, k4, k5⟩ := HF.out w' hS
           go_simp
           with_reducible rfl
         simp only [Act.put, List.setIfInBounds_toArray, List.set_cons_zero, List.set_cons_succ]))
    refine settled_nil (fun w2 hS => ?_)
    have hb2 := hb0.on hS
    go_wp2_with fail
    go_ret
    exact ⟨v, by rw [HM.out]; rfl, by rw [HM.out]; exact h.on hb2, Mod.of_below hb2, fun x hx => .inl hx⟩
  by_cases c4 : n < 1
  · have HM := Lib.hid (show S.take seg pl n = (2, S) by unfold Sp.take; rw [if_neg]; intro hm; have := (Sp.may_iff.1 hm).1; omega)
    refine wp_region_settleF (Below w1.heap.size w1) (by kernel_rfl) (by kernel_rfl) (by kernel_rfl) (below_drew (Below.refl _ _)) ?_
    repeat (first
      | (refine settled_not ?_ ?_
         · rfl
         simp only [Act.put, List.setIfInBounds_toArray, List.set_cons_zero, List.set_cons_succ])
      | (refine settled_val (v := ?_) ?_ (fun w' hS => ?_) ?_
         rotate_left
         · rfl
         · obtain ⟨k0, k1, k2, k3, k4, k5⟩ := HF.out w' hS
           go_simp
           with_reducible rfl
         simp only [Act.put, List.setIfInBounds_toArray, List.set_cons_zero, List.set_cons_succ]))
    refine settled_nil (fun w2 hS => ?_)
    have hb2 := hb0.on hS
    go_wp2_with fail
    go_ret
    exact ⟨v, by rw [HM.out]; rfl, by rw [HM.out]; exact h.on hb2, Mod.of_below hb2, fun x hx => .inl hx⟩
  have hwr : IntKind.i64.wrap ((S.per : Int) - pl) = (S.per : Int) - pl := IntWalk.i64_in _ (by omega)
  by_cases c5 : (S.per : Int) - pl < n
  · have HM := Lib.hid (show S.take seg pl n = (2, S) by unfold Sp.take; rw [if_neg]; intro hm; have := (Sp.may_iff.1 hm).1; omega)
    refine wp_region_settleF (Below w1.heap.size w1) (by kernel_rfl) (by kernel_rfl) (by kernel_rfl) (below_drew (Below.refl _ _)) ?_
    repeat (first
      | (refine settled_not ?_ ?_
         · rfl
         simp only [Act.put, List.setIfInBounds_toArray, List.set_cons_zero, List.set_cons_succ])
      | (refine settled_val (v := ?_) ?_ (fun w' hS => ?_) ?_
         rotate_left
         · rfl
         · obtain ⟨k0, k1, k2, k3, k4, k5⟩ := HF.out w' hS
           go_simp
           with_reducible rfl
         simp only [Act.put, List.setIfInBounds_toArray, List.set_cons_zero, List.set_cons_succ]))
    refine settled_nil (fun w2 hS => ?_)
    have hb2 := hb0.on hS
    go_wp2_with fail
    go_ret
    exact ⟨v, by rw [HM.out]; rfl, by rw [HM.out]; exact h.on hb2, Mod.of_below hb2, fun x hx => .inl hx⟩
  by_cases c6 : seg = S.now
  · have HM := Lib.hid (show S.take seg pl n = (2, S) by unfold Sp.take; rw [if_neg]; intro hm; have := (Sp.may_iff.1 hm).1; omega)
    have q2 : (seg == S.now) = true := by simp [c6]
    clear c6
    refine wp_region_settleF (Below w1.heap.size w1) (by kernel_rfl) (by kernel_rfl) (by kernel_rfl) (below_drew (Below.refl _ _)) ?_
    repeat (first
      | (refine settled_not ?_ ?_
         · rfl
         simp only [Act.put, List.setIfInBounds_toArray, List.set_cons_zero, List.set_cons_succ])
      | (refine settled_val (v := ?_) ?_ (fun w' hS => ?_) ?_
         rotate_left
         · rfl
         · obtain ⟨k0, k1, k2, k3, k4, k5⟩ := HF.out w' hS
           go_simp
           with_reducible rfl
         simp only [Act.put, List.setIfInBounds_toArray, List.set_cons_zero, List.set_cons_succ]))
    refine settled_nil (fun w2 hS => ?_)
    have hb2 := hb0.on hS
    go_wp2_with fail
    go_ret
    exact ⟨v, by rw [HM.out]; rfl, by rw [HM.out]; exact h.on hb2, Mod.of_below hb2, fun x hx => .inl hx⟩
  have q2 : (seg == S.now) = false := by simp [c6]
  refine wp_region_settleF (Below w1.heap.size w1) (by kernel_rfl) (by kernel_rfl) (by kernel_rfl) (below_drew (Below.refl _ _)) ?_
  repeat (first
    | (refine settled_not ?_ ?_
       · rfl
       simp only [Act.put, List.setIfInBounds_toArray, List.set_cons_zero, List.set_cons_succ])
    | (refine settled_val (v := ?_) ?_ (fun w' hS => ?_) ?_
       rotate_left
       · rfl
       · obtain ⟨k0, k1, k2, k3, k4, k5⟩ := HF.out w' hS
         go_simp
         with_reducible rfl
       simp only [Act.put, List.setIfInBounds_toArray, List.set_cons_zero, List.set_cons_succ]))
  refine settled_nil (fun w2 hS => ?_)
  obtain ⟨i, rfl⟩ := Int.eq_ofNat_of_zero_le (show 0 ≤ seg by omega)
  obtain ⟨a, rfl⟩ := Int.eq_ofNat_of_zero_le (show 0 ≤ pl by omega)
  obtain ⟨c, rfl⟩ := Int.eq_ofNat_of_zero_le (show 0 ≤ n by omega)
  have hb2 := hb0.on hS
  have hL2 := hL0.on hS
  have h2 := h1.on hS
  clear q2 hwr HF hS h1 hL0 hb0
  have HMay := Lib.hid (show (∀ p ∈ S.ls, ¬ ((p.seg : Int) = i ∧ (p.pl : Int) < a + c ∧ (a : Int) < p.pl + p.n)) → S.take i a c = (0, S.put i a c) from fun hh => by
    unfold Sp.take
    rw [if_pos (Sp.may_iff.2 ⟨by omega, hh⟩)]; rfl)
  have HNot := Lib.hid (show (∃ p ∈ S.ls, ((p.seg : Int) = i ∧ (p.pl : Int) < a + c ∧ (a : Int) < p.pl + p.n)) → S.take i a c = (2, S) from fun ⟨p, hp, hh⟩ => by
    unfold Sp.take
    rw [if_neg (fun hm => (Sp.may_iff.1 hm).2 p hp hh)])
  have HFit := Lib.hid hS0.inv.fit
  have hcn := hS0.cnt
  obtain ⟨va, vc, rfl, hloc⟩ := own_locs h2.own (by omega)
  have hvc := hloc.2.1
  have hw1 : IntKind.i64.wrap ((a : Int) + c) = (a : Int) + c := IntWalk.i64_in _ (by omega)
  go_wp2_with fail
  go_loopw [5, 6] (fun s5 _ wr => ∃ k : Nat, k ≤ S.ls.length ∧ s5 = .int .i64 k ∧ Below w2.heap.size w2 wr ∧ ∀ (j : Nat) (p : Pc), j < k → S.ls[j]? = some p → ¬ ((p.seg : Int) = i ∧ (p.pl : Int) < a + c ∧ (a : Int) < p.pl + p.n)) (fun s5 _ _ => S.ls.length - (intOf s5).toNat)
  case atStart => exact ⟨0, by omega, rfl, Below.refl _ _, fun j p hj _ => by omega⟩
  case round =>
    obtain ⟨k, hk, rfl, hbr, hno⟩ := hrel
    have HNo := Lib.hid hno
    clear hno
    obtain ⟨_, _, d2, _, _⟩ := (h2.on hbr).cells
    by_cases hlt : k < S.ls.length
    · obtain ⟨p, hp⟩ : ∃ p, S.ls[k]? = some p := ⟨_, List.getElem?_eq_getElem hlt⟩
      obtain ⟨G, rfl, hG, k0, k1, k2⟩ := (hloc.on hbr).2.2.2 k p hp
      have hfit := HFit.out p (List.mem_of_getElem? hp)
      have HP := Lib.hid hp
      clear hp
      go_upto_region 7 with fail
      have hX : Blk (wr.alloc (.cells #[.int .i64 p.seg, .int .i64 p.pl, .int .i64 p.n] 31)) wr.heap.size [.int .i64 p.seg, .int .i64 p.pl, .int .i64 p.n] 31 := Blk.new _ _ _
      have hbX := (Below.refl wr.heap.size wr).alloc (Nat.le_refl _) (.cells #[.int .i64 p.seg, .int .i64 p.pl, .int .i64 p.n] 31)
      generalize wr.alloc (.cells #[.int .i64 p.seg, .int .i64 p.pl, .int .i64 p.n] 31) = w3 at *
      have x0 : w3.cell? ⟨wr.heap.size, 0, none⟩ = some (.int .i64 p.seg) := by rw [hX.cell]; rfl
      have x1 : w3.cell? ⟨wr.heap.size, 1, none⟩ = some (.int .i64 p.pl) := by rw [hX.cell]; rfl
      have x2 : w3.cell? ⟨wr.heap.size, 2, none⟩ = some (.int .i64 p.n) := by rw [hX.cell]; rfl
      have hbr3 := hbr.on hbX
      have l0 : w3.cell? ⟨w.heap.size, 0, none⟩ = some (.int .i64 i) := by rw [(hL2.on hbr3).cell]; rfl
      have l1 : w3.cell? ⟨w.heap.size, 1, none⟩ = some (.int .i64 a) := by rw [(hL2.on hbr3).cell]; rfl
      have l2 : w3.cell? ⟨w.heap.size, 2, none⟩ = some (.int .i64 c) := by rw [(hL2.on hbr3).cell]; rfl
      have hw2 : IntKind.i64.wrap ((p.pl : Int) + p.n) = (p.pl : Int) + p.n := IntWalk.i64_in _ (by omega)
      clear d2 k0 k1 k2 hX hbX
      have HG := Lib.hid (show ¬ ((p.seg : Int) = i ∧ (p.pl : Int) < a + c ∧ (a : Int) < p.pl + p.n) → ∀ (j : Nat) (q : Pc), j < k + 1 → S.ls[j]? = some q → ¬ ((q.seg : Int) = i ∧ (q.pl : Int) < a + c ∧ (a : Int) < q.pl + q.n) from fun hh j q hj hq => by
        by_cases hjk : j = k
        · subst hjk
          have := HP.out.symm.trans hq
          cases this; exact hh
        · exact HNo.out j q (by omega) hq)
      by_cases e1 : (p.seg : Int) = i
      · have e1' : ((p.seg : Int) == (i : Int)) = true := by simp [e1]
        by_cases e2 : (p.pl : Int) < a + c
        · by_cases e3 : (a : Int) < p.pl + p.n
          · have HM := Lib.hid (HNot.out ⟨p, List.mem_of_getElem? HP.out, e1, e2, e3⟩)
            have hbf := hb2.on hbr3
            clear e1
            go_wp2_with fail
            go_ret
            exact ⟨_, by rw [HM.out]; rfl, by rw [HM.out]; exact h2.on hbr3, Mod.of_below hbf, fun x hx => .inl hx⟩
          · have HG2 := Lib.hid (HG.out (fun hh => e3 hh.2.2))
            clear e1
            go_wp2_with fail
            go_roundw
            case rel => exact ⟨k + 1, by omega, by go_num, hbr3, HG2.out⟩
            case measure => simp [intOf]; omega
        · have HG2 := Lib.hid (HG.out (fun hh => e2 hh.2.1))
          clear e1
          go_wp2_with fail
          go_roundw
          case rel => exact ⟨k + 1, by omega, by go_num, hbr3, HG2.out⟩
          case measure => simp [intOf]; omega
      · have e1' : ((p.seg : Int) == (i : Int)) = false := by simpa using e1
        have HG2 := Lib.hid (HG.out (fun hh => e1 hh.1))
        clear e1
        go_wp2_with fail
        go_roundw
        case rel => exact ⟨k + 1, by omega, by go_num, hbr3, HG2.out⟩
        case measure => simp [intOf]; omega
    · have HM := Lib.hid (HMay.out (fun p hp hh => by
        obtain ⟨j, hj, rfl⟩ := List.getElem_of_mem hp
        exact HNo.out j _ (by omega) (List.getElem?_eq_getElem hj) hh))
      have h3 := h2.on hbr
      have hL3 := hL2.on hbr
      have hb3 := hb2.on hbr
      clear HNo HMay HNot hL2 hw1 HFit
      go_upto_region 9 with fail
      have hvb : ∀ x, (Value.slice va S.ls.length vc).ownBlock = some x → B ≤ x ∧ x < w.heap.size := fun x hx => h.own.lt x hx
      have hBr : B ≤ wr.heap.size := Nat.le_trans hB hb3.size
      have hrB := h.lt
      have hrn : r ∉ (Value.slice va S.ls.length vc).ownBlock.toList := fun hh => by have := (hvb r (by simpa using hh)).1; omega
      have hLn : w.heap.size ∉ (Value.slice va S.ls.length vc).ownBlock.toList := fun hh => by have := (hvb _ (by simpa using hh)).2; omega
      have HG := Lib.hid (show ∀ w', Mod (Value.slice va S.ls.length vc).ownBlock.toList wr w' → (w'.cell? ⟨r, 2, none⟩ = some (.slice va S.ls.length vc) ∧ w'.cell? ⟨w.heap.size, 0, none⟩ = some (.int .i64 i) ∧ w'.cell? ⟨w.heap.size, 1, none⟩ = some (.int .i64 a) ∧ w'.cell? ⟨w.heap.size, 2, none⟩ = some (.int .i64 c)) from
        fun w' hm => ⟨by rw [(h3.head.mod hm hrn).cell]; rfl, by rw [(hL3.mod hm hLn).cell]; rfl, by rw [(hL3.mod hm hLn).cell]; rfl, by rw [(hL3.mod hm hLn).cell]; rfl⟩)
      refine wp_region_float [0, 1, 2, 3, 4, 5] [6, 7, 8, 9, 10] [8, 9, 10] (fun w' => Mod (Value.slice va S.ls.length vc).ownBlock.toList wr w') (by kernel_rfl) (by kernel_rfl) (by kernel_rfl) (by kernel_rfl) (fun c a d v w h => by cases d <;> exact h) ((Mod.refl _ _).drew) ?_
      have hS : Mod (Value.slice va S.ls.length vc).ownBlock.toList wr { wr with drawn := wr.drawn + 1 } := (Mod.refl _ _).drew
      have hown4 : ({ wr with drawn := wr.drawn + 1 } : World).ownsRow B 31 3 (.slice va S.ls.length vc) S.ls.length (locsCells S.ls) := (h3.on (below_drew (Below.refl _ _))).own
      have hb4 : Below wr.heap.size wr { wr with drawn := wr.drawn + 1 } := below_drew (Below.refl _ _)
      generalize ({ wr with drawn := wr.drawn + 1 } : World) = w4 at *
      simp only [pick, List.map_cons, List.map_nil, List.getD_cons_zero, List.getD_cons_succ]
      repeat (
        refine takes_val (v := ?_) ?_ (fun w' hS => ?_) ?_
        rotate_left
        · rfl
        · obtain ⟨k0, k1, k2, k3⟩ := HG.out w' hS
          go_simp
          with_reducible rfl
        simp only [Act.put, List.setIfInBounds_toArray, List.set_cons_zero, List.set_cons_succ])
      refine takes_nil ?_
      obtain ⟨v5, w5, hrun, hown5, hm5, hmv5⟩ := row_append hown4 (by omega) (Nat.le_trans hBr hb4.size) ⟨i, a, c⟩ 29 #[.int .i64 i, .int .i64 a, .int .i64 c] rfl w4.heap.size rfl
      obtain ⟨ga, gn, gc, rfl⟩ : ∃ a n c, v5 = .slice a n c := by rcases hown5.2 with ⟨rfl, _⟩ | ⟨g, cap, cur, rfl, _⟩ <;> exact ⟨_, _, _, rfl⟩
      have hm45 := hS.trans hm5
      refine seqW_step (by rfl) (fun K hK => ?_)
      go_simp
      refine hK.out _ _ (.inr ((hS).alloc _)) ?_
      clear hK K
      refine seqW_step (by rfl) (fun K hK => ?_)
      refine oper_append_run2 _ _ _ rfl _ _ _ _ ?hs ?hx hrun ?_
      case hs => go_simp
      case hx => go_simp
      simp only [Act.put, List.setIfInBounds_toArray, List.set_cons_zero, List.set_cons_succ]
      refine hK.out _ _ (.inr hm45) ?_
      clear hK K
      refine seqW_step (by rfl) (fun K hK => ?_)
      go_simp
      refine hK.out _ _ (.inl (by rfl)) ?_
      clear hK K
      refine seqW_step (by rfl) (fun K hK => ?_)
      go_simp
      refine hK.out _ _ (.inl (by rfl)) ?_
      clear hK K
      have hH5 := h3.head.mod hm45 hrn
      have z0 := hH5.free 2
      have z1 : w5.cell? ⟨r, 2, none⟩ = some (.slice va S.ls.length vc) := by rw [hH5.cell]; rfl
      have hH6 := hH5.set 2 (.slice ga gn gc)
      have hm6 : Mod [r] w5 (w5.setCell ⟨r, 2, none⟩ (.slice ga gn gc)) := (Mod.refl _ _).setCell _ _ (.inl (by simp))
      have hsz4 := hb4.size
      have hsz3 := hb3.size
      have hown6 := ownsRow_mod hown5 hm6 (fun s hs hh => by
        rw [List.mem_singleton.1 hs] at hh
        rcases hmv5 r hh with hh2 | hh2
        · exact hrn (by simpa using hh2)
        · omega)
      have hmA : Mod (r :: (Value.slice va S.ls.length vc).ownBlock.toList) w (w5.setCell ⟨r, 2, none⟩ (.slice ga gn gc)) := (((Mod.of_below (S := r :: (Value.slice va S.ls.length vc).ownBlock.toList) hb3).trans (hm45.mono (fun x hx => .inl (by simp at hx ⊢; exact .inr hx)))).trans (hm6.mono (fun x hx => .inl (by rw [List.mem_singleton.1 hx]; simp))))
      have HE := Lib.hid (show REnds B r (.slice va S.ls.length vc) (S.put i a c) (.int .i64 0) w (.returned (.int .i64 0)) (w5.setCell ⟨r, 2, none⟩ (.slice ga gn gc)) from ⟨.slice ga gn gc, rfl, ⟨hH6, hown6, hrB⟩, hmA, fun x hx => by
        rcases hmv5 x hx with hh | hh
        · exact .inl hh
        · right; omega⟩)
      refine seqW_step (by rfl) (fun K hK => ?_)
      go_simp
      refine hK.out _ _ (.inl (by rfl)) (seqW_nil ?_)
      clear hK K HG z0 z1 hrun
      go_wp2_with fail
      go_ret
      rw [HM.out]
      exact HE.out
end Go.Proofs.Ytmicpjdlldjapaa
