/-
  The walk of New. No condition.
-/
import Derived.Test.YtmicpjdlldjapaaSpV
namespace Go.Proofs.Ytmicpjdlldjapaa
set_option linter.unusedVariables false
set_option linter.unusedSimpArgs false
open Go.RowKit

def segCells (ms : List Nat) : List Value := ms.flatMap fun m => [.map (some m), .int .i64 0]
theorem segCells_get (ms : List Nat) (i : Nat) (h : i < ms.length) : (segCells ms)[i * 2]? = some (.map (some (nth ms i))) ∧ (segCells ms)[i * 2 + 1]? = some (.int .i64 0) := by
  induction ms generalizing i with
  | nil => simp at h
  | cons m ms ih =>
    have e : segCells (m :: ms) = [.map (some m), .int .i64 0] ++ segCells ms := rfl
    rw [e]
    cases i with
    | zero => exact ⟨rfl, rfl⟩
    | succ i =>
      have := ih i (by simpa using h)
      refine ⟨?_, ?_⟩
      · rw [List.getElem?_append_right (by simp; omega)]
        have h2 : (i + 1) * 2 - [Value.map (some m), Value.int .i64 0].length = i * 2 := by simp; omega
        rw [h2, this.1]; simp [nth]
      · rw [List.getElem?_append_right (by simp; omega)]
        have h2 : (i + 1) * 2 + 1 - [Value.map (some m), Value.int .i64 0].length = i * 2 + 1 := by simp; omega
        rw [h2, this.2]
theorem info_seg : (Try.prog.info? 56).map (fun i => (i.zero, i.size, i.bytes)) = some (some (.agg #[.map none, .int .i64 0]), 2, 16) := by kernel_rfl
/-- 'append(l, x)' of one segment. -/
theorem append_seg {w : World} {B : Nat} {v : Value} {k : Nat} {xs : List Value} (h : w.ownsRow B 56 2 v k xs) (hk : k ≤ 1000) (hB : B ≤ w.heap.size) (m : Nat) (ty : TypeId) (n : Nat) (hn : n = w.heap.size) :
    ∃ v' w', (Builtin.append_ #[51, 51] ty #[v, .slice (some ⟨n, 0, none⟩) 1 1]).run Try.prog (w.alloc (.cells #[.map (some m), .int .i64 0] 56)) = .ok v' w' ∧
      w'.ownsRow B 56 2 v' (k + 1) (xs ++ [.map (some m), .int .i64 0]) ∧ Mod v.ownBlock.toList w w' := by
  subst hn
  obtain ⟨i, hi, hz0, hz1, hz2⟩ := info_parts info_seg
  obtain ⟨v', w', hrun, hown, hg, _⟩ := run_append_own (P := Try.prog) (w := w.alloc (.cells #[.map (some m), .int .i64 0] 56)) B 51 ty 56 i _ 2 16 Try.underlying51 hi hz0 hz1 hz2 rfl (by decide) v k xs (h.alloc _)
    ⟨w.heap.size, 0, none⟩ 1 1 [.map (some m), .int .i64 0] rfl (fun j u hj => by
      have hp : (⟨w.heap.size, 0, none⟩ : Addr).add j = ⟨w.heap.size, j, none⟩ := by unfold Addr.add; split <;> simp_all
      rw [hp, World.cell?_alloc_new]
      simpa using hj) (by
      intro u hu
      simp only [List.mem_cons, List.not_mem_nil, or_false] at hu
      rcases hu with rfl | rfl <;> rfl) (by unfold maxLen; omega) (by omega) (by simp; omega)
  exact ⟨v', w', hrun, hown, ((Mod.refl _ _).alloc _).grown hg (fun b hb => .inl (by rw [hb]; simp))⟩

theorem SMap.not_cells {w : World} {m n : Nat} {f : Int → Int} (h : SMap w m n f) {cs : Array Value} {T : TypeId} {r : Nat × Nat} (hc : w.heap[m]? = some (.cells cs T r)) : False := by
  obtain ⟨D, ⟨es, clock, h1, _⟩, _⟩ := h
  rw [h1] at hc; cases hc
/-- A space under way: i segments are there. -/
structure NewTo (w : World) (per i : Nat) (ms : List Nat) (v : Value) (wr : World) : Prop where
  bel : Below w.heap.size w wr
  lt : w.heap.size + 1 ≤ wr.heap.size
  head : Blk wr w.heap.size [v, .int .i64 per, .int .i64 (-1), .int .i64 0] 53
  own : wr.ownsRow (w.heap.size + 1) 56 2 v i (segCells ms)
  len : ms.length = i
  maps : ∀ m ∈ ms, SMap wr m 0 (fun _ => 0) ∧ w.heap.size ≤ m
  nd : ms.Nodup
theorem NewTo.start (w : World) (per : Nat) : NewTo w per 0 [] (.slice none 0 0) (w.alloc (.cells #[.slice none 0 0, .int .i64 per, .int .i64 (-1), .int .i64 0] 53)) :=
  ⟨(Below.refl _ _).alloc (Nat.le_refl _) _, by simp, Blk.new _ [.slice none 0 0, .int .i64 per, .int .i64 (-1), .int .i64 0] _, World.ownsRow_nil _ _ _ _, rfl, by simp, List.nodup_nil⟩
theorem NewTo.step {w wr : World} {per i : Nat} {ms : List Nat} {v : Value} (h : NewTo w per i ms v wr) (hi : i ≤ 1000) (ty : TypeId) (n : Nat) (hn : n = (wr.alloc (.map #[] 0)).heap.size) :
    ∃ g cap w', (Builtin.append_ #[51, 51] ty #[v, .slice (some ⟨n, 0, none⟩) 1 1]).run Try.prog ((wr.alloc (.map #[] 0)).alloc (.cells #[.map (some wr.heap.size), .int .i64 0] 56)) = .ok (.slice (some ⟨g, 0, none⟩) (i + 1) cap) w' ∧
      w'.cell? ⟨w.heap.size, 0, none⟩ = some v ∧ w'.frozen? ⟨w.heap.size, 0, none⟩ = false ∧
      NewTo w per (i + 1) (ms ++ [wr.heap.size]) (.slice (some ⟨g, 0, none⟩) (i + 1) cap) (w'.setCell ⟨w.heap.size, 0, none⟩ (.slice (some ⟨g, 0, none⟩) (i + 1) cap)) := by
  have hb1 := (Below.refl wr.heap.size wr).alloc (Nat.le_refl _) (.map #[] 0)
  have hM := SMap.made wr
  have hown1 := h.own.alloc (.map #[] 0)
  have hH1 := h.head.on hb1
  obtain ⟨v', w', hrun, hown, hm⟩ := append_seg hown1 hi (by simp; have := h.lt; omega) wr.heap.size ty n hn
  obtain ⟨g, cap, rfl⟩ := ownsRow_succ hown
  have hv : ∀ y ∈ v.ownBlock.toList, w.heap.size + 1 ≤ y ∧ y < wr.heap.size ∧ ∃ cs T r, wr.heap[y]? = some (.cells cs T r) := by
    intro y hy
    rcases h.own.2 with ⟨rfl, _⟩ | ⟨g, cap, cur, rfl, hg, hh, _⟩
    · simp [Value.ownBlock] at hy
    · simp [Value.ownBlock] at hy
      subst hy
      exact ⟨hg, (Array.getElem?_eq_some_iff.1 hh).1, _, _, _, hh⟩
  have hH2 := hH1.mod hm (fun hin => by have := (hv _ hin).1; omega)
  refine ⟨g, cap, w', hrun, by rw [hH2.cell]; rfl, hH2.free 0, ?_, ?_, hH2.set 0 _, ?_, by simp [h.len], fun m hm' => ?_, ?_⟩
  · exact (Mod.fresh (h.bel.on hb1) hm (fun y hy => by have := (hv _ hy).1; omega)).setCell (by simp) _
  · rw [World.size_setCell]; have h1 := hm.size; have h2 := hb1.size; have h3 := h.lt; omega
  · have := ownsRow_setCell_below hown (a := ⟨w.heap.size, 0, none⟩) (by show w.heap.size < w.heap.size + 1; omega) (.slice (some ⟨g, 0, none⟩) (i + 1) cap)
    simpa [segCells] using this
  · have hs : Mod [w.heap.size] w' (w'.setCell ⟨w.heap.size, 0, none⟩ (.slice (some ⟨g, 0, none⟩) (i + 1) cap)) := (Mod.refl _ _).setCell _ _ (.inl (by simp))
    rcases List.mem_append.1 hm' with hm' | hm'
    · obtain ⟨k1, k2⟩ := h.maps m hm'
      have hne : m ≠ w.heap.size := fun e => k1.not_cells (e ▸ h.head)
      refine ⟨((k1.on hb1).mod hm (fun hin => ?_)).mod hs (by simpa using hne), k2⟩
      obtain ⟨_, _, cs, T, r, hc⟩ := hv _ hin
      exact k1.not_cells hc
    · rw [List.mem_singleton.1 hm']
      have h1 := h.lt
      refine ⟨(hM.mod hm (fun hin => ?_)).mod hs (by simp; omega), by omega⟩
      have := (hv _ hin).2.1; omega
  · rw [List.nodup_append]
    refine ⟨h.nd, by simp, fun x hx y hy => ?_⟩
    rw [List.mem_singleton.1 hy]
    exact Nat.ne_of_lt (h.maps x hx).1.lt

/-- What New hands back: a pointer to a space of its own, all of it new. -/
def NewEnds (segs per : Nat) (w : World) (e : Ending) (w' : World) : Prop :=
  ∃ b g cap ms, e = .returned (.pointer (some ⟨b, 0, none⟩)) ∧ SpAt w' b g cap ms (Sp.new segs per) ∧ Below w.heap.size w w' ∧ ∀ x ∈ b :: g :: ms, w.heap.size ≤ x
theorem NewTo.ends {w wr : World} {per i : Nat} {ms : List Nat} {v : Value} (h : NewTo w per i ms v wr) (hi : 2 ≤ i) : NewEnds i per w (.returned (.pointer (some ⟨w.heap.size, 0, none⟩))) wr := by
  rcases h.own.2 with ⟨_, h0⟩ | ⟨g, cap, cur, rfl, hg, hh, hc, hmx, hsz, htk⟩
  · omega
  · have hG : Blk wr g cur.toList 56 := by unfold Blk; rw [hh]
    refine ⟨w.heap.size, g, cap, ms, rfl, ⟨h.head, ⟨_, hG, fun j hj => ?_⟩, fun j hj => ?_, ⟨h.len, hc, hmx⟩, ?_⟩, h.bel, fun x hx => ?_⟩
    · have hj' : j < i := hj
      obtain ⟨e1, e2⟩ := segCells_get ms j (by rw [h.len]; exact hj)
      rw [← htk] at e1 e2
      rw [List.getElem?_take_of_lt (by omega)] at e1 e2
      exact ⟨e1, by rw [e2]; rfl⟩
    · exact (h.maps _ (getD_mem (by rw [h.len]; exact hj))).1
    · simp only [List.nodup_cons, List.mem_cons, not_or]
      exact ⟨⟨by omega, fun hb => (h.maps _ hb).1.not_cells h.head⟩, fun hb => (h.maps _ hb).1.not_cells hh, h.nd⟩
    · simp only [List.mem_cons] at hx
      rcases hx with rfl | rfl | hx
      · exact Nat.le_refl _
      · omega
      · exact (h.maps x hx).2

theorem make_map (w : World) : (Instr.makeMap 54 none).run Try.prog w = .ok (.map (some w.heap.size)) (w.alloc (.map #[] 0)) := by kernel_rfl
set_option maxHeartbeats 1000000 in
theorem new_any (segs per : Nat) (hs : 2 ≤ segs ∧ segs ≤ 64) (hp : 1 ≤ per ∧ per ≤ 64) (w : World) : Calls Try.prog 8 #[.int .i64 segs, .int .i64 per] w (NewEnds segs per w) := by
  go_enter Try.func8, Try.ntmps8
  go_upto_region 4 with fail
  have h0 := NewTo.start w per
  generalize w.alloc (.cells #[.slice none 0 0, .int .i64 per, .int .i64 (-1), .int .i64 0] 53) = w0 at *
  go_wp2_with fail
  go_loopw [24] (fun s24 wr => ∃ (i : Nat) (ms : List Nat) (v : Value), i ≤ segs ∧ s24 = .int .i64 i ∧ NewTo w per i ms v wr) (fun s24 _ => segs - (intOf s24).toNat)
  case atStart => exact ⟨0, [], _, by omega, rfl, h0⟩
  case round =>
    obtain ⟨i, ms, v, hi, rfl, hto⟩ := hrel
    by_cases hlt : i < segs
    · have c0 : wr.cell? ⟨w.heap.size, 0, none⟩ = some v := by rw [hto.head.cell]; rfl
      have hmk := make_map wr
      obtain ⟨g, cap, w2, hrun, f0, z0, hto2⟩ := hto.step (by omega) 51 (wr.heap.size + 1) (by simp)
      clear hto
      go_wp2_with (at_builtin; (with_reducible refine wpList_append_run rfl _ _ _ rfl _ _ _ _ ?_ ?_ hrun ?_); rfl; rfl)
      clear hrun c0 f0 z0 hmk
      go_roundw
      case rel => exact ⟨i + 1, _, _, by omega, by go_num, hto2⟩
      case measure => simp [intOf]; omega
    · obtain rfl : i = segs := by omega
      have HE := Lib.hid (hto.ends hs.1)
      go_wp2_with fail
      go_ret
      exact HE.out
/-- A size that there is not. -/
def noSize (segs per : Int) : Prop := segs < 2 ∨ 64 < segs ∨ per < 1 ∨ 64 < per
set_option maxHeartbeats 1000000 in
theorem new_none (segs per : Int) (h : noSize segs per) (w : World) : Calls Try.prog 8 #[.int .i64 segs, .int .i64 per] w fun e w' => e = .returned (.pointer none) ∧ w = w' := by
  unfold noSize at h
  by_cases h1 : segs < 2
  · go_enter Try.func8, Try.ntmps8
    go_wp2_with fail
    go_ret
    exact ⟨rfl, rfl⟩
  · by_cases h2 : 64 < segs
    · go_enter Try.func8, Try.ntmps8
      go_wp2_with fail
      go_ret
      exact ⟨rfl, rfl⟩
    · by_cases h3 : per < 1
      · go_enter Try.func8, Try.ntmps8
        go_wp2_with fail
        go_ret
        exact ⟨rfl, rfl⟩
      · have h4 : 64 < per := by omega
        go_enter Try.func8, Try.ntmps8
        go_wp2_with fail
        go_ret
        exact ⟨rfl, rfl⟩
end Go.Proofs.Ytmicpjdlldjapaa
