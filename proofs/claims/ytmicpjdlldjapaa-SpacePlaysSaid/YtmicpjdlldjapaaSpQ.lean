/-
  A list of pieces that a law keeps: a slice of its own, appended to, cut. No condition.
-/
import Derived.Test.YtmicpjdlldjapaaSpP
import Derived.Deep.Upon
namespace Go.Proofs.Ytmicpjdlldjapaa
set_option linter.unusedVariables false
set_option linter.unusedSimpArgs false
open Go.RowKit

theorem locs_length (ls : List Pc) : (locsCells ls).length = ls.length * 3 := by
  induction ls with
  | nil => rfl
  | cons p ps ih => show (locCells p ++ locsCells ps).length = _; rw [List.length_append, ih, List.length_cons]; show 3 + _ = _; omega
theorem locs_append (a b : List Pc) : locsCells (a ++ b) = locsCells a ++ locsCells b := by simp [locsCells]
/-- The pieces stand in v, in a block from B on. -/
def LiveAt (w : World) (B : Nat) (v : Value) (ls : List Pc) : Prop :=
  w.ownsRow B 31 3 v ls.length (locsCells ls) ∨ ∃ g, v = .slice (some ⟨g, 0, none⟩) ls.length ls.length ∧ B ≤ g ∧ g < w.heap.size ∧ ∀ j u, (locsCells ls)[j]? = some u → w.cell? ⟨g, j, none⟩ = some u
theorem LiveAt.start (w : World) (B : Nat) : LiveAt w B (.slice none 0 0) [] := .inl (World.ownsRow_nil _ _ _ _)
theorem LiveAt.locs {w : World} {B : Nat} {v : Value} {ls : List Pc} (h : LiveAt w B v ls) (hl : ls.length ≤ 10000) : ∃ a c, v = .slice a ls.length c ∧ LocsAt w a ls.length c ls := by
  rcases h with h | ⟨g, rfl, hg, hlt, hc⟩
  · exact own_locs h hl
  · refine ⟨_, _, rfl, rfl, Nat.le_refl _, hl, fun i p hp => ⟨g, rfl, hlt, ?_⟩⟩
    obtain ⟨e1, e2, e3⟩ := locs_get ls i p hp
    exact ⟨hc _ _ e1, hc _ _ e2, hc _ _ e3⟩
theorem LiveAt.mod {w w' : World} {B : Nat} {v : Value} {ls : List Pc} {T : List Nat} (h : LiveAt w B v ls) (hm : Mod T w w') (hT : ∀ x ∈ T, x < B) : LiveAt w' B v ls := by
  rcases h with h | ⟨g, rfl, hg, hlt, hc⟩
  · refine .inl (ownsRow_mod h hm (fun s hs e => ?_))
    have := (h.lt s e).1
    have := hT s hs
    omega
  · exact .inr ⟨g, rfl, hg, Nat.lt_of_lt_of_le hlt hm.size, fun j u hj => by rw [hm.cell hlt (fun hin => by have := hT g hin; omega)]; exact hc j u hj⟩
theorem LiveAt.on {w w' : World} {B : Nat} {v : Value} {ls : List Pc} (h : LiveAt w B v ls) (hb : Below w.heap.size w w') : LiveAt w' B v ls := h.mod (T := []) (Mod.of_below hb) (by simp)
theorem info_loc : (Try.prog.info? 31).map (fun i => (i.zero, i.size, i.bytes)) = some (some (.agg #[.int .i64 0, .int .i64 0, .int .i64 0]), 3, 24) := by kernel_rfl
theorem addr_add (g o j : Nat) : (⟨g, o, none⟩ : Addr).add j = ⟨g, o + j, none⟩ := by unfold Addr.add; split <;> simp_all
theorem grown_bytes (n c : Nat) (hn : n ≤ 20000) (hc : c < n) : Builtin.nextslicecap n c * 24 ≤ 281474976710656 := growslice_fits hc (by omega)
/-- What is laid when a slice grows: the cells, and noughts behind. -/
theorem grown_own {w : World} {B n c : Nat} {xs : List Value} (hl : xs.length = n * 3) (hn : n ≤ 20000) (hB : B ≤ w.heap.size) :
    World.ownsRow (w.drew.alloc (.cells (xs.toArray ++ Builtin.zeroCells #[.int .i64 0, .int .i64 0, .int .i64 0] (grownCap w n c 31 - n)) 31)) B 31 3 (.slice (some ⟨w.heap.size, 0, none⟩) n (grownCap w n c 31)) n xs := by
  have h1 := grownCap_ge w n c 31
  have h2 := grownCap_le_maxLen w n c 31 (by unfold maxLen; omega)
  have hs : (xs.toArray ++ Builtin.zeroCells #[.int .i64 0, .int .i64 0, .int .i64 0] (grownCap w n c 31 - n)).size = grownCap w n c 31 * 3 := by
    rw [Array.size_append, size_zeroCells]
    simp only [List.size_toArray, hl]
    show n * 3 + (grownCap w n c 31 - n) * 3 = _
    omega
  have ht : (xs.toArray ++ Builtin.zeroCells #[.int .i64 0, .int .i64 0, .int .i64 0] (grownCap w n c 31 - n)).toList.take (n * 3) = xs := by
    rw [Array.toList_append]
    simp only [← hl, List.take_left']
  generalize xs.toArray ++ Builtin.zeroCells #[.int .i64 0, .int .i64 0, .int .i64 0] (grownCap w n c 31 - n) = Z at *
  have hZ : (w.drew.alloc (.cells Z 31)).heap[w.heap.size]? = some (.cells Z 31 (0, 0)) := by
    have := Blk.new w.drew Z.toList 31
    unfold Blk at this
    simpa using this
  exact ⟨hl, .inr ⟨w.heap.size, _, Z, rfl, hB, hZ, h1, h2, hs, ht⟩⟩
theorem live_append {w : World} {B : Nat} {v : Value} {ls : List Pc} (h : LiveAt w B v ls) (hl : ls.length ≤ 10000) (hB : B ≤ w.heap.size) (p : Pc) (ty : TypeId) (c : Array Value) (hc : c = #[.int .i64 p.seg, .int .i64 p.pl, .int .i64 p.n]) (n : Nat) (hn : n = w.heap.size) :
    ∃ v' w', (Builtin.append_ #[29, 29] ty #[v, .slice (some ⟨n, 0, none⟩) 1 1]).run Try.prog (w.alloc (.cells c 31)) = .ok v' w' ∧ LiveAt w' B v' (ls ++ [p]) ∧ ∃ T, Mod T w w' ∧ ∀ x ∈ T, B ≤ x := by
  subst hc hn
  obtain ⟨i, hi, hz0, hz1, hz2⟩ := info_parts info_loc
  have hnews : ∀ j u, (locCells p)[j]? = some u → (w.alloc (.cells #[.int .i64 p.seg, .int .i64 p.pl, .int .i64 p.n] 31)).cell? ((⟨w.heap.size, 0, none⟩ : Addr).add j) = some u := fun j u hj => by
    rw [addr_add, Nat.zero_add, World.cell?_alloc_new]; simpa [locCells] using hj
  have hone : ∀ u ∈ locCells p, u.oneCell' = true := by
    intro u hu
    simp only [locCells, List.mem_cons, List.not_mem_nil, or_false] at hu
    rcases hu with rfl | rfl | rfl <;> rfl
  rcases h with h | ⟨g, rfl, hg, hlt, hcell⟩
  · obtain ⟨v', w', hrun, hown, hgr, _⟩ := run_append_own (P := Try.prog) (w := w.alloc (.cells #[.int .i64 p.seg, .int .i64 p.pl, .int .i64 p.n] 31)) B 29 ty 31 i _ 3 24 Try.underlying29 hi hz0 hz1 hz2 rfl (by decide) v ls.length (locsCells ls) (h.alloc _)
      ⟨w.heap.size, 0, none⟩ 1 1 (locCells p) rfl hnews hone (by unfold maxLen; omega) (by omega) (by simp; omega)
    refine ⟨v', w', hrun, .inl (by rw [locs_append, List.length_append]; exact hown), v.ownBlock.toList, ((Mod.refl _ _).alloc _).grown hgr (fun b hb => .inl (by rw [hb]; simp)), fun x hx => ?_⟩
    cases hb : v.ownBlock with
    | none => rw [hb] at hx; simp at hx
    | some z =>
      rw [hb] at hx
      simp only [Option.toList_some, List.mem_singleton] at hx
      subst hx
      exact (h.lt _ hb).1
  · have hrun := run_append_grow (P := Try.prog) (w := w.alloc (.cells #[.int .i64 p.seg, .int .i64 p.pl, .int .i64 p.n] 31)) 29 ty 31 i _ Try.underlying29 hi hz0 ⟨g, 0, none⟩ ls.length ls.length (locsCells ls) (by rw [locs_length, hz1]) (fun j u hj => by
        rw [addr_add, Nat.zero_add]
        exact (((Below.refl w.heap.size w).alloc (Nat.le_refl _) _).cell (p := ⟨g, j, none⟩) hlt).trans (hcell j u hj))
      ⟨w.heap.size, 0, none⟩ 1 1 (locCells p) (by rw [hz1]; rfl) hnews (by omega) (by omega) (by rw [hz2]; exact grown_bytes _ _ (by omega) (by omega))
    refine ⟨_, _, hrun, .inl ?_, [], ?_, by simp⟩
    · rw [locs_append, List.length_append, show locsCells [p] = locCells p by simp [locsCells], show [p].length = 1 from rfl]
      have := grown_own (B := B) (w := w.alloc (.cells #[.int .i64 p.seg, .int .i64 p.pl, .int .i64 p.n] 31)) (n := ls.length + 1) (c := ls.length) (xs := locsCells ls ++ locCells p) (by rw [List.length_append, locs_length]; show _ + 3 = _; omega) (by omega) (by simp; omega)
      simpa [Array.append_assoc, Value.cells] using this
    · exact (((Mod.refl [] w).alloc _).drew).alloc _
theorem live_cut {w : World} {B : Nat} {v : Value} {ls : List Pc} (h : LiveAt w B v ls) (hl : ls.length ≤ 10000) (hB : B ≤ w.heap.size) (k : Nat) (hk : k < ls.length) (ty : TypeId) :
    ∃ g c, v = .slice (some ⟨g, 0, none⟩) ls.length c ∧ ls.length ≤ c ∧ ∀ o2, (c = k + 1 ∨ o2 = (k + 1) * 3) → ∃ v' w', (Builtin.append_ #[29, 29] ty #[.slice (some ⟨g, 0, none⟩) k k, .slice (some ⟨g, o2, none⟩) (ls.length - (k + 1)) (c - (k + 1))]).run Try.prog w = .ok v' w' ∧ LiveAt w' B v' (ls.eraseIdx k) ∧ Below w.heap.size w w' := by
  obtain ⟨i, hi, hz0, hz1, hz2⟩ := info_parts info_loc
  obtain ⟨g, c, rfl, hgB, hlt, hc, hcell⟩ : ∃ g c, v = .slice (some ⟨g, 0, none⟩) ls.length c ∧ B ≤ g ∧ g < w.heap.size ∧ ls.length ≤ c ∧ ∀ j u, (locsCells ls)[j]? = some u → w.cell? ⟨g, j, none⟩ = some u := by
    rcases h with h | ⟨g, rfl, hg, hlt, hcell⟩
    · rcases h.2 with ⟨_, h0⟩ | ⟨g, cap, cur, rfl, hg, hh, hc, _⟩
      · omega
      · exact ⟨g, cap, rfl, hg, (Array.getElem?_eq_some_iff.1 hh).1, hc, fun j u hj => by
          have := (List.getElem?_eq_some_iff.1 hj).1
          rw [locs_length] at this
          rw [h.cellAt j (by omega)]; exact hj⟩
    · exact ⟨g, _, rfl, hg, hlt, Nat.le_refl _, hcell⟩
  refine ⟨g, c, rfl, hc, fun o2 ho2 => ?_⟩
  have e0 : ls.eraseIdx k = ls.take k ++ ls.drop (k + 1) := List.eraseIdx_eq_take_drop_succ _ _
  have e1 : locsCells ls = locsCells (ls.take k) ++ locsCells (ls.drop k) := by rw [← locs_append, List.take_append_drop]
  have e2 : locsCells ls = locsCells (ls.take (k + 1)) ++ locsCells (ls.drop (k + 1)) := by rw [← locs_append, List.take_append_drop]
  have l1 : (locsCells (ls.take k)).length = k * 3 := by rw [locs_length, List.length_take]; congr 1; omega
  have l2 : (locsCells (ls.take (k + 1))).length = (k + 1) * 3 := by rw [locs_length, List.length_take]; congr 1; omega
  have l3 : (locsCells (ls.drop (k + 1))).length = (ls.length - (k + 1)) * 3 := by rw [locs_length, List.length_drop]
  have c1 : ∀ j u, (locsCells (ls.take k))[j]? = some u → w.cell? ⟨g, j, none⟩ = some u := fun j u hj => hcell j u (by rw [e1, List.getElem?_append_left (List.getElem?_eq_some_iff.1 hj).1]; exact hj)
  have c2 : ∀ j u, (locsCells (ls.drop (k + 1)))[j]? = some u → w.cell? ⟨g, (k + 1) * 3 + j, none⟩ = some u := fun j u hj => hcell _ u (by rw [e2, List.getElem?_append_right (by omega), l2, Nat.add_sub_cancel_left]; exact hj)
  by_cases hlast : ls.length - (k + 1) = 0
  · have hd : ls.drop (k + 1) = [] := List.drop_eq_nil_of_le (by omega)
    refine ⟨.slice (some ⟨g, 0, none⟩) k k, w, ?_, .inr ⟨g, ?_, hgB, hlt, ?_⟩, Below.refl _ _⟩
    · rw [hlast]
      simp [Builtin.append_, run_underlying Try.underlying29, sizeOf, typeInfo, hi, Builtin.lenOf, storeCells, Builtin.firstCells, go_sem, Result.andThen]
    · rw [e0, hd, List.append_nil, List.length_take, Nat.min_eq_left (by omega)]
    · rw [e0, hd, List.append_nil]; exact c1
  · obtain rfl : o2 = (k + 1) * 3 := ho2.resolve_left (by omega)
    have hrun := run_append_grow (P := Try.prog) (w := w) 29 ty 31 i _ Try.underlying29 hi hz0 ⟨g, 0, none⟩ k k (locsCells (ls.take k)) (by rw [l1, hz1]) (fun j u hj => by rw [addr_add, Nat.zero_add]; exact c1 j u hj)
      ⟨g, (k + 1) * 3, none⟩ (ls.length - (k + 1)) (c - (k + 1)) (locsCells (ls.drop (k + 1))) (by rw [l3, hz1]) (fun j u hj => by rw [addr_add]; exact c2 j u hj) (by omega) (by omega) (by rw [hz2]; exact grown_bytes _ _ (by omega) (by omega))
    refine ⟨_, _, hrun, .inl ?_, ?_⟩
    · have hlen : (ls.eraseIdx k).length = k + (ls.length - (k + 1)) := by rw [List.length_eraseIdx_of_lt hk]; omega
      rw [hlen, e0, locs_append]
      have := grown_own (B := B) (w := w) (n := k + (ls.length - (k + 1))) (c := k) (xs := locsCells (ls.take k) ++ locsCells (ls.drop (k + 1))) (by rw [List.length_append, l1, l3]; omega) (by omega) hB
      simpa [Array.append_assoc, Value.cells] using this
    · exact ((Below.refl _ _).drew).alloc (Nat.le_refl _) _
end Go.Proofs.Ytmicpjdlldjapaa
