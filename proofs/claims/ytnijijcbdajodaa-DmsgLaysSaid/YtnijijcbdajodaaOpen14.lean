/-
  What an api.Msg that comes in by value is. No condition.
-/
import Derived.Test.YtnijijcbdajodaaPlain14
import Derived.Lib.SmallJoins
import Derived.Deep.Slices
namespace Go.Proofs.Ytnijijcbdajodaa
set_option linter.unusedVariables false
set_option linter.unusedSimpArgs false
open Go.Joins Go.ChangeShapes Go.WideShapes Go.RowKit Go.Deep

section
variable {H : Type} {enc : TypeId × Value → H} {w : World} {base : Nat} {spare : Nat → Bool} {held : Bool}

theorem list4 {α : Type} {cs : List α} (h : cs.length = 4) : ∃ a b c d, cs = [a, b, c, d] := by
  match cs, h with
  | [a, b, c, d], _ => exact ⟨a, b, c, d, rfl⟩

theorem open_rec {fuel : Nat} {cs : List Value} {x : DataW H × List MemPlace} (h : DataW.trod enc Try.prog w base spare held fuel 43 cs = some x) : ∃ r : Rec, cs = recCells r ∧ r.ok := by
  obtain ⟨y0, y1, y2, y3, n, rfl, hl, h0, h1, h2, h3⟩ := Joins.trod_struct4 Try.underlying43 h
  have hc : Try.prog.cellsOf 43 = 4 := by kernel_rfl
  obtain ⟨a, b, c, d, rfl⟩ := list4 (hl.trans hc)
  have c1 : Try.prog.cellsOf 9 = 1 := by kernel_rfl
  have c2 : Try.prog.cellsOf 22 = 1 := by kernel_rfl
  have c3 : Try.prog.cellsOf 4 = 1 := by kernel_rfl
  simp only [c1, c2, c3] at h0 h1 h2 h3
  obtain ⟨s0, e0, _, l0⟩ := DataW.trod_string Try.underlying9 h0
  obtain ⟨s1, e1, _, l1⟩ := DataW.trod_int Try.underlying22 h1
  obtain ⟨s2, e2, _⟩ := DataW.trod_bool Try.underlying4 h2
  obtain ⟨s3, e3, _, l3⟩ := DataW.trod_string Try.underlying9 h3
  simp only [List.drop_zero, List.drop_succ_cons, List.take_succ_cons, List.take_zero, List.cons.injEq, and_true] at e0 e1 e2 e3
  subst e0 e1 e2 e3
  have hb := bounds_u64 l1
  obtain ⟨m, rfl⟩ := Int.eq_ofNat_of_zero_le hb.1
  refine ⟨⟨s0.data.toList, m, s2, s3.data.toList⟩, ?_, ?_, ?_, ?_⟩
  · cases s0; cases s3; simp [recCells]
  · have : s0.data.toList.length = s0.size := by cases s0; simp [ByteArray.size]
    rw [this]; exact l0
  · have : s3.data.toList.length = s3.size := by cases s3; simp [ByteArray.size]
    rw [this]; exact l3
  · have := hb.2
    show m < 18446744073709551616
    omega

theorem cells4 {a : Addr} {c0 c1 c2 c3 : Value} (h : w.cells? base a 4 = some [c0, c1, c2, c3]) : w.cell? a = some c0 ∧ w.cell? (a.add 1) = some c1 ∧ w.cell? (a.add 2) = some c2 ∧ w.cell? (a.add 3) = some c3 := by
  unfold World.cells? at h
  split at h
  · have e : List.range 4 = [0, 1, 2, 3] := rfl
    have e0 : a.add 0 = a := rfl
    rw [e] at h
    simp only [List.mapM_cons, List.mapM_nil, e0] at h
    cases h0 : w.cell? a with
    | none => rw [h0] at h; simp at h
    | some v0 =>
      cases h1 : w.cell? (a.add 1) with
      | none => rw [h0, h1] at h; simp at h
      | some v1 =>
        cases h2 : w.cell? (a.add 2) with
        | none => rw [h0, h1, h2] at h; simp at h
        | some v2 =>
          cases h3 : w.cell? (a.add 3) with
          | none => rw [h0, h1, h2, h3] at h; simp at h
          | some v3 =>
            rw [h0, h1, h2, h3] at h
            simp at h
            obtain ⟨rfl, rfl, rfl, rfl⟩ := h
            exact ⟨rfl, rfl, rfl, rfl⟩
  · simp at h
theorem cell_spot {a : Addr} {v : Value} (h : w.cell? a = some v) : a.spot = none ∧ a.block < w.heap.size := by
  unfold World.cell? at h
  split at h
  · rename_i hh
    refine ⟨?_, (Array.getElem?_eq_some_iff.1 hh).1⟩
    split at h
    · simp at h
    · rename_i hs; simpa using hs
  · simp at h

instance : Inhabited Rec := ⟨⟨[], 0, false, []⟩⟩
theorem open_recs {fuel : Nat} {v : Value} {x : DataW H × List MemPlace} (h : DataW.trod enc Try.prog w base spare held fuel 23 [v] = some x) :
    ∃ a n c rs, v = .slice a n c ∧ RecsAt w a n c rs ∧ ∀ r ∈ rs, r.ok := by
  rcases Deep.open_slice Try.underlying23 h with ⟨e, _⟩ | ⟨a, n, c, m, k, D, Pl, e, hb, hl, hm, hmm, _, hel⟩
  · simp only [List.cons.injEq, and_true] at e
    subst e
    exact ⟨none, 0, 0, [], rfl, ⟨rfl, Nat.le_refl _, by omega, fun h0 => absurd h0 (Nat.lt_irrefl 0)⟩, by simp⟩
  · simp only [List.cons.injEq, and_true] at e
    subst e
    have hc : Try.prog.cellsOf 43 = 4 := by kernel_rfl
    have hnm : n ≤ m := by rw [hmm]; split <;> omega
    have hrec : ∀ i, i < n → ∃ r : Rec, r.ok ∧ w.cells? base (a.add (i * 4)) 4 = some (recCells r) := by
      intro i hi
      obtain ⟨cs', h1, h2⟩ := hel i (by omega)
      obtain ⟨r, rfl, hr⟩ := open_rec h2
      rw [hc] at h1
      exact ⟨r, hr, h1⟩
    obtain ⟨F, hF⟩ := Deep.choose_lt hrec
    refine ⟨some a, n, c, (List.range n).map F, rfl, ⟨by simp, hl, by unfold maxLen at hm; omega, fun hn => ?_⟩, ?_⟩
    · have h0 := (hF 0 hn).2
      obtain ⟨z0, _⟩ := cells4 h0
      rw [show a.add (0 * 4) = a from rfl] at z0
      obtain ⟨hsp, hlt⟩ := cell_spot z0
      obtain ⟨g, o, sp⟩ := a
      simp only at hsp hlt
      subst hsp
      refine ⟨g, o, rfl, hlt, fun i hi => ?_⟩
      rw [List.length_map, List.length_range] at hi
      obtain ⟨z0, z1, z2, z3⟩ := cells4 (hF i hi).2
      have ha : ∀ j, (⟨g, o, none⟩ : Addr).add j = ⟨g, o + j, none⟩ := by intro j; unfold Addr.add; split <;> simp_all
      simp only [ha, Nat.add_assoc] at z0 z1 z2 z3 ⊢
      simp only [List.getElem_map, List.getElem_range]
      exact ⟨z0, z1, z2, z3⟩
    · intro r hr
      simp only [List.mem_map, List.mem_range] at hr
      obtain ⟨i, hi, rfl⟩ := hr
      exact (hF i hi).1
end

section
variable {H : Type} {enc : TypeId × Value → H} {w : World} {base : Nat} {spare : Nat → Bool} {held : Bool}
/-- A struct of one-cell fields, by value, whatever their number. -/
theorem open_agg_any {P : Program} {r : Reach} {b0 : Nat} {t : TypeId} {fs : Array Field} {v : Value} {d : DataW H} {p : List MemPlace} (hs : P.underlying t = some (.struct fs)) (hone : oneCellFields P fs = true) (hC : P.cellsOf t = fs.size)
    (hv : Value.okWide P w r b0 t v) (h : DataW.Trod enc P w base spare held t v d p) :
    ∃ (l : List Value) (n : Nat), v = .agg l.toArray ∧ l.length = fs.size ∧ ∀ (j : Nat) (f : Field), fs[j]? = some f → ∃ (u : Value) (y : DataW H × List MemPlace), l[j]? = some u ∧ DataW.trod enc P w base spare held n f.type [u] = some y := by
  obtain ⟨cs, rfl, hsz⟩ := okWide_struct hs hv
  obtain ⟨l⟩ := cs
  have hll : l.length = fs.size := by simpa using hsz.trans hC
  obtain ⟨fuel, hf⟩ := h
  obtain ⟨ys, n, _, hy, _, hyl, hg⟩ := DataW.trod_struct hs hf
  refine ⟨l, n, rfl, hll, fun j f hj => ?_⟩
  obtain ⟨ho, hk⟩ := hone_of hone j f hj
  have hjl : j < fs.size := (Array.getElem?_eq_some_iff.1 hj).1
  have h1 := hg j f hj
  simp only [Value.cells] at h1
  rw [ho, hk] at h1
  have hone' : (l.drop j).take 1 = [l[j]'(by omega)] := by
    rw [List.drop_eq_getElem_cons (by omega)]
    rfl
  rw [hone'] at h1
  have hys : ys[j]? = some (ys[j]'(by omega)) := List.getElem?_eq_getElem (by omega)
  exact ⟨_, _, List.getElem?_eq_getElem (by omega), h1.trans hys⟩

set_option maxHeartbeats 1000000 in
theorem open_msg {rch : Reach} {b0 : Nat} {v : Value} {d : DataW H} {p : List MemPlace} (hv : Value.okWide Try.prog w rch b0 26 v) (h : DataW.Trod enc Try.prog w base spare held 26 v d p) :
    ∃ (m : Msg) (a : Option Addr) (n c : Nat), v = msgV m a n c ∧ RecsAt w a n c m.recs ∧ m.ok := by
  obtain ⟨l, n, rfl, hl, hg⟩ := open_agg_any Try.underlying26 (by kernel_rfl) (by kernel_rfl) hv h
  obtain ⟨c0, c1, c2, c3, c4, c5, c6, c7, c8, c9, c10, c11, c12, rfl⟩ : ∃ c0 c1 c2 c3 c4 c5 c6 c7 c8 c9 c10 c11 c12, l = [c0, c1, c2, c3, c4, c5, c6, c7, c8, c9, c10, c11, c12] := by
    match l, hl with
    | [c0, c1, c2, c3, c4, c5, c6, c7, c8, c9, c10, c11, c12], _ => exact ⟨c0, c1, c2, c3, c4, c5, c6, c7, c8, c9, c10, c11, c12, rfl⟩
  obtain ⟨u0, y0, q0, g0⟩ := hg 0 _ rfl
  cases q0
  obtain ⟨u1, y1, q1, g1⟩ := hg 1 _ rfl
  cases q1
  obtain ⟨u2, y2, q2, g2⟩ := hg 2 _ rfl
  cases q2
  obtain ⟨u3, y3, q3, g3⟩ := hg 3 _ rfl
  cases q3
  obtain ⟨u4, y4, q4, g4⟩ := hg 4 _ rfl
  cases q4
  obtain ⟨u5, y5, q5, g5⟩ := hg 5 _ rfl
  cases q5
  obtain ⟨u6, y6, q6, g6⟩ := hg 6 _ rfl
  cases q6
  obtain ⟨u7, y7, q7, g7⟩ := hg 7 _ rfl
  cases q7
  obtain ⟨u8, y8, q8, g8⟩ := hg 8 _ rfl
  cases q8
  obtain ⟨u9, y9, q9, g9⟩ := hg 9 _ rfl
  cases q9
  obtain ⟨u10, y10, q10, g10⟩ := hg 10 _ rfl
  cases q10
  obtain ⟨u11, y11, q11, g11⟩ := hg 11 _ rfl
  cases q11
  obtain ⟨u12, y12, q12, g12⟩ := hg 12 _ rfl
  cases q12
  obtain ⟨z0, e0, _, l0⟩ := DataW.trod_int Try.underlying3 g0
  obtain ⟨z1, e1, _, l1⟩ := DataW.trod_int Try.underlying22 g1
  obtain ⟨z2, e2, _, l2⟩ := DataW.trod_int Try.underlying22 g2
  obtain ⟨z3, e3, _, l3⟩ := DataW.trod_int Try.underlying22 g3
  obtain ⟨z4, e4, _, l4⟩ := DataW.trod_int Try.underlying22 g4
  obtain ⟨z5, e5, _, l5⟩ := DataW.trod_int Try.underlying22 g5
  obtain ⟨s6, e6, _, l6⟩ := DataW.trod_string Try.underlying9 g6
  obtain ⟨s7, e7, _, l7⟩ := DataW.trod_string Try.underlying9 g7
  obtain ⟨s8, e8, _⟩ := DataW.trod_bool Try.underlying4 g8
  obtain ⟨s9, e9, _⟩ := DataW.trod_bool Try.underlying4 g9
  obtain ⟨s10, e10, _, l10⟩ := DataW.trod_string Try.underlying9 g10
  obtain ⟨a, m, c, rs, e11, hrs, hok⟩ := open_recs g11
  obtain ⟨z12, e12, _, l12⟩ := DataW.trod_int Try.underlying24 g12
  simp only [List.cons.injEq, and_true] at e0 e1 e2 e3 e4 e5 e6 e7 e8 e9 e10 e12
  subst e0 e1 e2 e3 e4 e5 e6 e7 e8 e9 e10 e11 e12
  have b1 := bounds_u64 l1
  obtain ⟨n1, rfl⟩ := Int.eq_ofNat_of_zero_le b1.1
  have b2 := bounds_u64 l2
  obtain ⟨n2, rfl⟩ := Int.eq_ofNat_of_zero_le b2.1
  have b3 := bounds_u64 l3
  obtain ⟨n3, rfl⟩ := Int.eq_ofNat_of_zero_le b3.1
  have b4 := bounds_u64 l4
  obtain ⟨n4, rfl⟩ := Int.eq_ofNat_of_zero_le b4.1
  have b5 := bounds_u64 l5
  obtain ⟨n5, rfl⟩ := Int.eq_ofNat_of_zero_le b5.1
  have b0 := bounds_i64 l0
  have b12 := bounds_i64 l12
  have hlen : ∀ s : ByteArray, s.size ≤ 9223372036854775807 → s.data.toList.length ≤ 9223372036854775807 := fun s hs => by
    have : s.data.toList.length = s.size := by cases s; simp [ByteArray.size]
    rw [this]; exact hs
  have hu : ∀ k : Nat, (k : Int) ≤ 18446744073709551615 → k < U64 := fun k hk => by show k < 18446744073709551616; omega
  refine ⟨⟨z0, n1, n2, n3, n4, n5, s6.data.toList, s7.data.toList, s8, s9, s10.data.toList, rs, z12⟩, a, m, c, ?_, hrs, b0, hu _ b1.2, hu _ b2.2, hu _ b3.2, hu _ b4.2, hu _ b5.2, hlen _ l6, hlen _ l7, hlen _ l10, hok, b12⟩
  cases s6; cases s7; cases s10
  simp [msgV]
end
end Go.Proofs.Ytnijijcbdajodaa
