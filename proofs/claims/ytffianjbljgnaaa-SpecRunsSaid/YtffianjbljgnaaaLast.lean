/-
  What came to a key last: the law's own last. Condition: at most a thousand records.
-/
import Derived.Test.YtffianjbljgnaaaApply
import Derived.Test.YtffianjbljgnaaaCut
namespace Go.Proofs.Ytffianjbljgnaaa
set_option linter.unusedVariables false
set_option linter.unusedSimpArgs false
open Go.RowKit Go.Maps

theorem setR_at {W : List Rec} {r q : Rec} {i : Nat} (h : ∀ p ∈ W.take i, p.key ≠ r.key) (hq : W[i]? = some q) (hk : q.key = r.key) : setR W r = W.set i r := by
  induction W generalizing i with
  | nil => simp at hq
  | cons p t ih =>
    unfold setR
    cases i with
    | zero =>
      simp only [List.getElem?_cons_zero, Option.some.injEq] at hq
      subst hq
      rw [if_pos hk]; rfl
    | succ i =>
      rw [if_neg (h p (by simp)), ih (i := i) (fun x hx => h x (by simp [hx])) (by simpa using hq)]; rfl
theorem setR_end {W : List Rec} {r : Rec} (h : ∀ p ∈ W, p.key ≠ r.key) : setR W r = W ++ [r] := by
  induction W with
  | nil => rfl
  | cons p t ih =>
    unfold setR
    rw [if_neg (h p (by simp)), ih (fun x hx => h x (by simp [hx]))]; rfl
theorem recs_set (W : List Rec) (i : Nat) (r : Rec) : ((((recsCells W).set (i * 4) (.string ⟨r.key.toArray⟩)).set (i * 4 + 1) (.int .u64 (r.lsn : Nat))).set (i * 4 + 2) (.bool r.del)).set (i * 4 + 3) (.string ⟨r.val.toArray⟩) = recsCells (W.set i r) := by
  induction W generalizing i with
  | nil => simp [recsCells]
  | cons q t ih =>
    cases i with
    | zero => rfl
    | succ i =>
      have e : (i + 1) * 4 = i * 4 + 4 := by omega
      have := ih i
      rw [e, List.set_cons_succ]
      show (((((recCells q ++ recsCells t)).set (i * 4 + 4) _).set (i * 4 + 4 + 1) _).set (i * 4 + 4 + 2) _).set (i * 4 + 4 + 3) _ = recCells q ++ recsCells (t.set i r)
      rw [← this]
      rfl
/-- A cell of a row that is owned is stored. -/
theorem own_set {w : World} {B g i : Nat} {e : TypeId} {size : Nat} {v u : Value} {n : Nat} {xs : List Value} (h : w.ownsRow B e size v n xs) (hg : v.ownBlock = some g) : (w.setCell ⟨g, i, none⟩ u).ownsRow B e size v n (xs.set i u) := by
  obtain ⟨h1, h2⟩ := h
  refine ⟨by rw [List.length_set]; exact h1, ?_⟩
  rcases h2 with ⟨rfl, rfl⟩ | ⟨g', cap, cur, rfl, hb, hh, hc1, hc2, hs, ht⟩
  · cases hg
  · simp only [Value.ownBlock, Option.some.injEq] at hg
    subst hg
    right
    have hB : Blk w g' cur.toList e := by unfold Blk; rw [hh]
    have hB2 := hB.set i u
    unfold Blk at hB2
    exact ⟨g', cap, _, rfl, hb, hB2, hc1, hc2, by simp [hs], by rw [List.toList_toArray, List.take_set, ht]⟩
/-- What last ends with. -/
def LastEnd (B : Nat) (v : Value) (W : List Rec) (w : World) (e : Ending) (w' : World) : Prop :=
  ∃ v', e = .returned v' ∧ w'.ownsRow B 58 4 v' W.length (recsCells W) ∧ Mod v.ownBlock.toList w w' ∧ ∀ x, v'.ownBlock = some x → v.ownBlock = some x ∨ w.heap.size ≤ x
set_option maxRecDepth 100000 in
set_option maxHeartbeats 4000000 in
theorem last_any (w : World) (B : Nat) (v : Value) (W : List Rec) (hown : w.ownsRow B 58 4 v W.length (recsCells W)) (hB : B ≤ w.heap.size) (hW : W.length ≤ 1000) (k : Txt) (l : Nat) (d : Bool) (x : Txt) :
    Calls Try.prog 26 #[v, .agg #[.string ⟨k.toArray⟩, .int .u64 (l : Nat), .bool d, .string ⟨x.toArray⟩]] w (LastEnd B v (setR W ⟨k, l, d, x⟩) w) := by
  obtain ⟨a, c, rfl⟩ := own_slice hown
  have hb0 := (Below.refl w.heap.size w).alloc (Nat.le_refl _) (.cells #[.string ⟨k.toArray⟩, .int .u64 (l : Nat), .bool d, .string ⟨x.toArray⟩] 58)
  have hR : Blk (w.alloc (.cells #[.string ⟨k.toArray⟩, .int .u64 (l : Nat), .bool d, .string ⟨x.toArray⟩] 58)) w.heap.size (recCells ⟨k, l, d, x⟩) 58 := Blk.new w (recCells ⟨k, l, d, x⟩) _
  have hO1 := hown.alloc (.cells #[.string ⟨k.toArray⟩, .int .u64 (l : Nat), .bool d, .string ⟨x.toArray⟩] 58)
  have hs1 : (w.alloc (.cells #[.string ⟨k.toArray⟩, .int .u64 (l : Nat), .bool d, .string ⟨x.toArray⟩] 58)).heap.size = w.heap.size + 1 := by simp
  have HLt := Lib.hid hown.lt
  go_enter Try.func26, Try.ntmps26
  go_upto_region 1 with fail
  generalize w.alloc (.cells #[.string ⟨k.toArray⟩, .int .u64 (l : Nat), .bool d, .string ⟨x.toArray⟩] 58) = w1 at *
  have HB0 := Lib.hid hb0
  have HR := Lib.hid hR
  have HO1 := Lib.hid hO1
  have hs0 : w.heap.size < w1.heap.size := by omega
  have HS1 := Lib.hid hs1
  clear hb0 hR hO1 hown hs1
  go_wp2_with fail
  go_loopw [5] (fun s5 wr => ∃ i : Nat, i ≤ W.length ∧ s5 = .int .i64 i ∧ (∀ p ∈ W.take i, p.key ≠ k) ∧ Below w1.heap.size w1 wr) (fun s5 _ => W.length - (intOf s5).toNat)
  case atStart => exact ⟨0, by omega, rfl, by simp, Below.refl _ _⟩
  case round =>
    obtain ⟨i, hi, rfl, hne, hb⟩ := hrel
    by_cases hlt : i < W.length
    · have hil : (i : Int) < (W.length : Int) := by omega
      have how := ownsRow_mod HO1.out (Mod.of_below (S := []) hb) (by simp)
      obtain ⟨hrows, _⟩ := own_rows how
      obtain ⟨r, g, o, hr, hrl, rfl, hg, d0, d1, d2, d3⟩ := recs_row hrows rfl hlt
      obtain ⟨g', cap', rest, eq1, hg1, hc1, hc2, hblk⟩ := owns_blk how (by omega)
      have eqa : g = g' ∧ o = 0 := by simp at eq1; exact eq1.1
      obtain ⟨rfl, rfl⟩ := eqa
      rw [Nat.zero_add] at d0 d1 d2 d3
      have hgw := HLt.out g rfl
      have hRr := HR.out.on hb
      have HF := Lib.hid (show ∀ w', Below wr.heap.size wr w' → (w'.cell? ⟨g, i * 4, none⟩ = some (.string ⟨r.key.toArray⟩) ∧ w'.cell? ⟨w.heap.size, 0, none⟩ = some (.string ⟨k.toArray⟩)) from
        fun w' h => ⟨(h.cell (p := ⟨g, i * 4, none⟩) hg).trans d0, by rw [(hRr.on h).cell]; rfl⟩)
      have e1 := bytes_beq r.key k
      have hsz := hb.size
      by_cases hk : r.key = k
      · have HSet := Lib.hid (show setR W ⟨k, l, d, x⟩ = W.set i ⟨k, l, d, x⟩ from setR_at (fun p hp => hne p hp) hr hk)
        have HOw := Lib.hid how
        have HBw := Lib.hid hb
        have HRr := Lib.hid hRr
        rw [decide_eq_true hk] at e1
        have e2 : (r.key == k) = true := by simp [hk]
        clear hk hne hrows hr hrl how hb d0 d1 d2 d3 hRr hblk
        go_upto_region 4 with fail
        refine wp_region_settle (Below wr.heap.size wr) (by kernel_rfl) (by kernel_rfl) (by kernel_rfl) (below_drew (Below.refl _ _)) ?_
        repeat (first
          | (refine settled_not ?_ ?_
             · rfl
             simp only [Act.put, List.setIfInBounds_toArray, List.set_cons_zero, List.set_cons_succ])
          | (refine settled_val (v := ?_) ?_ (fun w' hS => ?_) ?_
             rotate_left
             · rfl
             · obtain ⟨k0, k1⟩ := HF.out w' hS
               go_simp
               with_reducible rfl
             simp only [Act.put, List.setIfInBounds_toArray, List.set_cons_zero, List.set_cons_succ]))
        refine settled_nil (fun w2 hS => ?_)
        have hOw2 := ownsRow_mod HOw.out (Mod.of_below (S := []) hS) (by simp)
        obtain ⟨g2, cap2, rest2, eq2, _, _, _, hblk2⟩ := owns_blk hOw2 (by omega)
        have eqb : g = g2 := by simp at eq2; exact eq2.1
        subst eqb
        have hR2 := HRr.out.on hS
        have hl4 : i * 4 + 3 < (recsCells W).length := by rw [recs_length]; omega
        obtain ⟨c0, h0⟩ : ∃ c0, w2.cell? ⟨g, i * 4, none⟩ = some c0 := ⟨_, by rw [hblk2.cell, List.getElem?_append_left (by omega), List.getElem?_eq_getElem (by omega)]⟩
        obtain ⟨c1, h1⟩ : ∃ c0, w2.cell? ⟨g, i * 4 + 1, none⟩ = some c0 := ⟨_, by rw [hblk2.cell, List.getElem?_append_left (by omega), List.getElem?_eq_getElem (by omega)]⟩
        obtain ⟨c2', h2⟩ : ∃ c0, w2.cell? ⟨g, i * 4 + 2, none⟩ = some c0 := ⟨_, by rw [hblk2.cell, List.getElem?_append_left (by omega), List.getElem?_eq_getElem (by omega)]⟩
        obtain ⟨c3, h3⟩ : ∃ c0, w2.cell? ⟨g, i * 4 + 3, none⟩ = some c0 := ⟨_, by rw [hblk2.cell, List.getElem?_append_left (by omega), List.getElem?_eq_getElem (by omega)]⟩
        have z0 := hblk2.free (i * 4)
        have z1 := hblk2.free (i * 4 + 1)
        have z2 := hblk2.free (i * 4 + 2)
        have z3 := hblk2.free (i * 4 + 3)
        have r0 : w2.cell? ⟨w.heap.size, 0, none⟩ = some (.string ⟨k.toArray⟩) := by rw [hR2.cell]; rfl
        have r1 : w2.cell? ⟨w.heap.size, 1, none⟩ = some (.int .u64 (l : Nat)) := by rw [hR2.cell]; rfl
        have r2 : w2.cell? ⟨w.heap.size, 2, none⟩ = some (.bool d) := by rw [hR2.cell]; rfl
        have r3 : w2.cell? ⟨w.heap.size, 3, none⟩ = some (.string ⟨x.toArray⟩) := by rw [hR2.cell]; rfl
        have hW4 := own_set (u := .string ⟨x.toArray⟩) (i := i * 4 + 3) (own_set (u := .bool d) (i := i * 4 + 2) (own_set (u := .int .u64 (l : Nat)) (i := i * 4 + 1) (own_set (u := .string ⟨k.toArray⟩) (i := i * 4) hOw2 rfl) rfl) rfl) rfl
        rw [recs_set W i ⟨k, l, d, x⟩, ← HSet.out] at hW4
        have hm4 : Mod [g] w2 ((((w2.setCell ⟨g, i * 4, none⟩ (.string ⟨k.toArray⟩)).setCell ⟨g, i * 4 + 1, none⟩ (.int .u64 (l : Nat))).setCell ⟨g, i * 4 + 2, none⟩ (.bool d)).setCell ⟨g, i * 4 + 3, none⟩ (.string ⟨x.toArray⟩)) :=
          ((((Mod.refl _ _).setCell _ _ (.inl (by simp))).setCell _ _ (.inl (by simp))).setCell _ _ (.inl (by simp))).setCell _ _ (.inl (by simp))
        have hmw : Mod [g] w w2 := (Mod.of_below HB0.out).trans ((Mod.of_below HBw.out).trans (Mod.of_below hS))
        have HE := Lib.hid (show LastEnd B (.slice (some ⟨g, 0, none⟩) W.length c) (setR W ⟨k, l, d, x⟩) w (.returned (.slice (some ⟨g, 0, none⟩) W.length c)) ((((w2.setCell ⟨g, i * 4, none⟩ (.string ⟨k.toArray⟩)).setCell ⟨g, i * 4 + 1, none⟩ (.int .u64 (l : Nat))).setCell ⟨g, i * 4 + 2, none⟩ (.bool d)).setCell ⟨g, i * 4 + 3, none⟩ (.string ⟨x.toArray⟩)) from
          ⟨_, rfl, by have hl : (setR W ⟨k, l, d, x⟩).length = W.length := by rw [HSet.out, List.length_set]
                      rw [hl]; exact hW4, hmw.trans hm4, fun y hy => .inl hy⟩)
        clear hW4 hm4 hmw hOw2 hblk2 hR2 hS HF
        go_wp2_with fail
        go_ret
        exact HE.out
      · rw [decide_eq_false hk] at e1
        have e2 : (r.key == k) = false := by simp [hk]
        have HNe := Lib.hid (show ∀ p ∈ W.take (i + 1), p.key ≠ k from fun p hp => by
          rw [List.take_add_one, hr] at hp
          rcases List.mem_append.1 hp with hp | hp
          · exact hne p hp
          · simp only [Option.toList_some, List.mem_singleton] at hp; subst hp; exact hk)
        have HBw := Lib.hid hb
        clear hk hne hrows hr hrl how hb d0 d1 d2 d3 hRr hblk
        go_upto_region 4 with fail
        refine wp_region_settle (Below wr.heap.size wr) (by kernel_rfl) (by kernel_rfl) (by kernel_rfl) (below_drew (Below.refl _ _)) ?_
        repeat (first
          | (refine settled_not ?_ ?_
             · rfl
             simp only [Act.put, List.setIfInBounds_toArray, List.set_cons_zero, List.set_cons_succ])
          | (refine settled_val (v := ?_) ?_ (fun w' hS => ?_) ?_
             rotate_left
             · rfl
             · obtain ⟨k0, k1⟩ := HF.out w' hS
               go_simp
               with_reducible rfl
             simp only [Act.put, List.setIfInBounds_toArray, List.set_cons_zero, List.set_cons_succ]))
        refine settled_nil (fun w2 hS => ?_)
        have HB2 := Lib.hid (HBw.out.trans (hS.mono HBw.out.size))
        clear hS HF
        go_wp2_with fail
        go_roundw
        case rel => exact ⟨i + 1, by omega, by go_num, HNe.out, HB2.out⟩
        case measure => simp [intOf]; omega
    · have hge : ¬ (i : Int) < (W.length : Int) := by omega
      have hin : i = W.length := by omega
      have HSet := Lib.hid (show setR W ⟨k, l, d, x⟩ = W ++ [⟨k, l, d, x⟩] from setR_end (fun p hp => hne p (by rw [hin, List.take_of_length_le (Nat.le_refl _)]; exact hp)))
      have how := ownsRow_mod HO1.out (Mod.of_below (S := []) hb) (by simp)
      have hR2 := HR.out.on hb
      have r0 : wr.cell? ⟨w.heap.size, 0, none⟩ = some (.string ⟨k.toArray⟩) := by rw [hR2.cell]; rfl
      have r1 : wr.cell? ⟨w.heap.size, 1, none⟩ = some (.int .u64 (l : Nat)) := by rw [hR2.cell]; rfl
      have r2 : wr.cell? ⟨w.heap.size, 2, none⟩ = some (.bool d) := by rw [hR2.cell]; rfl
      have r3 : wr.cell? ⟨w.heap.size, 3, none⟩ = some (.string ⟨x.toArray⟩) := by rw [hR2.cell]; rfl
      have hbn := (Below.refl wr.heap.size wr).alloc (Nat.le_refl _) (.cells #[.string ⟨k.toArray⟩, .int .u64 (l : Nat), .bool d, .string ⟨x.toArray⟩] 58)
      have hN : Blk (wr.alloc (.cells #[.string ⟨k.toArray⟩, .int .u64 (l : Nat), .bool d, .string ⟨x.toArray⟩] 58)) wr.heap.size (recsCells [⟨k, l, d, x⟩]) 58 := Blk.new wr (recsCells [⟨k, l, d, x⟩]) _
      obtain ⟨v', w', hrun, hown', hmod, hblk⟩ := own_append 38 58 38 _ 4 48 Try.underlying38 info_rec rfl (by decide) (by decide) (how.alloc (.cells #[.string ⟨k.toArray⟩, .int .u64 (l : Nat), .bool d, .string ⟨x.toArray⟩] 58))
        (by omega) (by have := hb.size; simp; omega) ⟨wr.heap.size, 0, none⟩ 1 1 (recsCells [⟨k, l, d, x⟩]) (by omega) (by omega) rfl
        (fun j u hj => by rw [addr_add', Nat.zero_add, hN.cell]; exact hj) (recs_one _)
      rw [← recs_append, ← HSet.out] at hown'
      have HE := Lib.hid (show LastEnd B (.slice a W.length c) (setR W ⟨k, l, d, x⟩) w (.returned v') w' from ⟨v', rfl, by
        have hl : (setR W ⟨k, l, d, x⟩).length = W.length + 1 := by rw [HSet.out]; simp
        rw [hl]; exact hown', ((Mod.of_below HB0.out).trans (Mod.of_below hb)).trans ((Mod.of_below hbn).trans hmod), fun y hy => by
        rcases hblk y hy with h | h
        · exact .inl h
        · have := HB0.out.size; have := hb.size; simp at h; omega⟩)
      clear hown' hmod hblk hN hbn how hR2 hne hb
      go_wp2_with (at_builtin; (with_reducible refine wpList_append_run rfl _ _ _ rfl _ _ _ _ ?_ ?_ hrun ?_); rfl; rfl)
      go_ret
      exact HE.out
end Go.Proofs.Ytffianjbljgnaaa
