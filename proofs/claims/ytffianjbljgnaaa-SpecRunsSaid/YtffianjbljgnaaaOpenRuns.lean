/-
  What a [][]Deed and a [2]uint8 that come in are. No condition.
-/
import Derived.Test.YtffianjbljgnaaaWalk27R
import Derived.Test.YtffianjbljgnaaaOpenG
namespace Go.Proofs.Ytffianjbljgnaaa
set_option linter.unusedVariables false
set_option linter.unusedSimpArgs false
open Go.RowKit

section
variable {H : Type} {enc : TypeId × Value → H} {w : World} {base : Nat} {spare : Nat → Bool} {held : Bool}

theorem u8_of {x : Int} (h : (Lit.int .u8 x).wf = true) : ∃ m : Nat, x = m ∧ m < 256 := by
  have hb := bounds_u8 h
  obtain ⟨m, rfl⟩ := Int.eq_ofNat_of_zero_le hb.1
  exact ⟨m, rfl, by have := hb.2; omega⟩
theorem open_deed {fuel : Nat} {cs : List Value} {x : DataW H × List MemPlace} (h : DataW.trod enc Try.prog w base spare held fuel 66 cs = some x) : ∃ d : Deed, cs = deedCells d ∧ d.ok := by
  obtain ⟨y0, y1, y2, y3, n, rfl, hl, h0, h1, h2, h3⟩ := Joins.trod_struct4 Try.underlying66 h
  have hc : Try.prog.cellsOf 66 = 4 := by kernel_rfl
  obtain ⟨a, b, c, d, rfl⟩ := list4 (hl.trans hc)
  have c1 : Try.prog.cellsOf 5 = 1 := by kernel_rfl
  simp only [c1] at h0 h1 h2 h3
  obtain ⟨s0, e0, _, l0⟩ := DataW.trod_int Try.underlying5 h0
  obtain ⟨s1, e1, _, l1⟩ := DataW.trod_int Try.underlying5 h1
  obtain ⟨s2, e2, _, l2⟩ := DataW.trod_int Try.underlying5 h2
  obtain ⟨s3, e3, _, l3⟩ := DataW.trod_int Try.underlying5 h3
  simp only [List.drop_zero, List.drop_succ_cons, List.take_succ_cons, List.take_zero, List.cons.injEq, and_true] at e0 e1 e2 e3
  subst e0 e1 e2 e3
  obtain ⟨m0, rfl, b0⟩ := u8_of l0
  obtain ⟨m1, rfl, b1⟩ := u8_of l1
  obtain ⟨m2, rfl, b2⟩ := u8_of l2
  obtain ⟨m3, rfl, b3⟩ := u8_of l3
  exact ⟨⟨m0, m1, m2, m3⟩, rfl, b0, b1, b2, b3⟩
instance : Inhabited Deed := ⟨⟨0, 0, 0, 0⟩⟩
theorem open_deeds {fuel : Nat} {v : Value} {x : DataW H × List MemPlace} (h : DataW.trod enc Try.prog w base spare held fuel 64 [v] = some x) : ∃ q : DZ, v = hdV q ∧ DeedsIs w q := by
  rcases Deep.open_slice Try.underlying64 h with ⟨e, _⟩ | ⟨a, n, c, m, k, D, Pl, e, hb, hl, hm, hmm, _, hel⟩
  · simp only [List.cons.injEq, and_true] at e
    subst e
    exact ⟨(⟨none, 0, 0⟩, []), rfl, rfl, RowsAt.nil _ _, by simp⟩
  · simp only [List.cons.injEq, and_true] at e
    subst e
    have hc : Try.prog.cellsOf 66 = 4 := by kernel_rfl
    have hnm : n ≤ m := by rw [hmm]; split <;> omega
    have hrec : ∀ i, i < n → ∃ r : Deed, r.ok ∧ w.cells? base (a.add (i * 4)) 4 = some (deedCells r) := by
      intro i hi
      obtain ⟨cs', h1, h2⟩ := hel i (by omega)
      obtain ⟨r, rfl, hr⟩ := open_deed h2
      rw [hc] at h1
      exact ⟨r, hr, h1⟩
    obtain ⟨F, hF⟩ := Deep.choose_lt hrec
    refine ⟨(⟨some a, n, c⟩, (List.range n).map F), rfl, by simp, ?_, ?_⟩
    · have := rows_of (w := w) (base := base) (k := 4) (by omega) (a := a) (n := n) (c := c) (fun i => deedCells (F i)) (fun i hi => ⟨rfl, (hF i hi).2⟩) hl (by unfold maxLen at hm; omega)
      unfold deedsCells
      rw [List.flatMap_map]
      exact this
    · intro r hr
      simp only [List.mem_map, List.mem_range] at hr
      obtain ⟨i, hi, rfl⟩ := hr
      exact (hF i hi).1
theorem list1 {α : Type} {cs : List α} (h : cs.length = 1) : ∃ a, cs = [a] := by
  match cs, h with
  | [a], _ => exact ⟨a, rfl⟩
theorem open_runs {fuel : Nat} {v : Value} {x : DataW H × List MemPlace} (h : DataW.trod enc Try.prog w base spare held fuel 22 [v] = some x) :
    ∃ a n c z, v = .slice a n c ∧ DeedsAt w a n c z := by
  rcases Deep.open_slice Try.underlying22 h with ⟨e, _⟩ | ⟨a, n, c, m, k, D, Pl, e, hb, hl, hm, hmm, _, hel⟩
  · simp only [List.cons.injEq, and_true] at e
    subst e
    exact ⟨none, 0, 0, [], rfl, rfl, RowsAt.nil _ _, by simp⟩
  · simp only [List.cons.injEq, and_true] at e
    subst e
    have hc : Try.prog.cellsOf 64 = 1 := by kernel_rfl
    have hnm : n ≤ m := by rw [hmm]; split <;> omega
    have hrec : ∀ i, i < n → ∃ q : DZ, DeedsIs w q ∧ w.cells? base (a.add (i * 1)) 1 = some [hdV q] := by
      intro i hi
      obtain ⟨cs', h1, h2⟩ := hel i (by omega)
      rw [hc] at h1
      obtain ⟨u, rfl⟩ := list1 (World.cells?_some h1).2.1
      obtain ⟨q, rfl, hq⟩ := open_deeds h2
      exact ⟨q, hq, h1⟩
    haveI : Inhabited DZ := ⟨(⟨none, 0, 0⟩, [])⟩
    obtain ⟨F, hF⟩ := Deep.choose_lt hrec
    refine ⟨some a, n, c, (List.range n).map F, rfl, by simp, ?_, ?_⟩
    · have := rows_of (w := w) (base := base) (k := 1) (by omega) (a := a) (n := n) (c := c) (fun i => [hdV (F i)]) (fun i hi => ⟨rfl, (hF i hi).2⟩) hl (by unfold maxLen at hm; omega)
      rw [List.map_map]
      have e : (List.range n).flatMap (fun i => [hdV (F i)]) = (List.range n).map (hdV ∘ F) := by
        rw [List.flatMap_def]
        induction List.range n with
        | nil => rfl
        | cons i t ih => simp only [List.map_cons, List.flatten_cons, ih]; rfl
      rw [e] at this
      exact this
    · intro q hq
      simp only [List.mem_map, List.mem_range] at hq
      obtain ⟨i, hi, rfl⟩ := hq
      exact (hF i hi).1
set_option maxRecDepth 100000 in
theorem open_two8 {r : Reach} {b0 : Nat} {v : Value} {d : DataW H} {p : List MemPlace} (hok : Value.okWide Try.prog w r b0 23 v) (h : DataW.Trod enc Try.prog w base spare held 23 v d p) :
    ∃ x y : Nat, v = .agg #[.int .u8 (x : Nat), .int .u8 (y : Nat)] ∧ x < 256 ∧ y < 256 := by
  have hc : Try.prog.cellsOf 23 = 2 := by kernel_rfl
  have hc1 : Try.prog.cellsOf 5 = 1 := by kernel_rfl
  simp only [Value.okWide, Try.underlying23] at hok
  obtain ⟨cs, rfl, h2, _⟩ := hok
  rw [hc] at h2
  obtain ⟨fuel, hf⟩ := h
  obtain ⟨xs, m, _, ex, hlen, hl, hel⟩ := DataW.trod_array Try.underlying23 hf
  simp only [hc1, Value.cells] at hel
  have hcs : ∃ a b, cs = #[a, b] := by
    obtain ⟨l⟩ := cs
    match l, h2 with
    | [a, b], _ => exact ⟨a, b, rfl⟩
  obtain ⟨a, b, rfl⟩ := hcs
  have e0 := hel 0 (by omega)
  have e1 := hel 1 (by omega)
  match xs, hl with
  | [y0, y1], _ =>
    obtain ⟨s0, g0, q0, l0⟩ := DataW.trod_int Try.underlying5 (by simpa using e0)
    obtain ⟨s1, g1, q1, l1⟩ := DataW.trod_int Try.underlying5 (by simpa using e1)
    simp only [List.cons.injEq, and_true] at g0 g1
    subst g0 g1
    obtain ⟨m0, rfl, b0⟩ := u8_of l0
    obtain ⟨m1, rfl, b1⟩ := u8_of l1
    exact ⟨m0, m1, rfl, b0, b1⟩
end
end Go.Proofs.Ytffianjbljgnaaa
