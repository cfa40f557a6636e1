/-
  Texts folded into one: OpenG, OpenE, SpecMapsProof.
-/
import Derived.Test.YtffianjbljgnaaaSortU
import Derived.Test.YtffianjbljgnaaaEntsA
import Derived.Lib.SmallJoins
import Derived.Deep.Slices
import Derived.Deep.Strs
import Derived.Test.YtffianjbljgnaaaRows
import Derived.Test.YtffianjbljgnaaaWalk27M
import Derived.WalkKit
import Derived.ProofKit
import Derived.OpenShut
import Derived.ShutString
import Derived.Carry

/-! ### OpenG -/
namespace Go.Proofs.Ytffianjbljgnaaa
set_option linter.unusedVariables false
set_option linter.unusedSimpArgs false
open Go.RowKit

section
variable {H : Type} {enc : TypeId × Value → H} {w : World} {base : Nat} {spare : Nat → Bool} {held : Bool}

theorem list3 {α : Type} {cs : List α} (h : cs.length = 3) : ∃ a b c, cs = [a, b, c] := by
  match cs, h with
  | [a, b, c], _ => exact ⟨a, b, c, rfl⟩
theorem list4 {α : Type} {cs : List α} (h : cs.length = 4) : ∃ a b c d, cs = [a, b, c, d] := by
  match cs, h with
  | [a, b, c, d], _ => exact ⟨a, b, c, d, rfl⟩
theorem cell_spot {a : Addr} {v : Value} (h : w.cell? a = some v) : a.spot = none ∧ a.block < w.heap.size := by
  unfold World.cell? at h
  split at h
  · rename_i hh
    refine ⟨?_, (Array.getElem?_eq_some_iff.1 hh).1⟩
    split at h
    · simp at h
    · rename_i hs; simpa using hs
  · simp at h
theorem flat_get {k : Nat} (F : Nat → List Value) (n : Nat) (hF : ∀ i, i < n → (F i).length = k) (j : Nat) (v : Value) (h : ((List.range n).flatMap F)[j]? = some v) : ∃ i m, i < n ∧ m < k ∧ j = i * k + m ∧ (F i)[m]? = some v := by
  induction n with
  | zero => simp at h
  | succ n ih =>
    have hl : ((List.range n).flatMap F).length = n * k := by
      clear ih h
      induction n with
      | zero => simp
      | succ n ihn =>
        rw [List.range_succ, List.flatMap_append, List.length_append, ihn (fun i hi => hF i (by omega))]
        simp [hF n (by omega), Nat.succ_mul]
    rw [List.range_succ, List.flatMap_append] at h
    by_cases hj : j < n * k
    · rw [List.getElem?_append_left (by rw [hl]; exact hj)] at h
      obtain ⟨i, m, h1, h2⟩ := ih (fun i hi => hF i (by omega)) h
      exact ⟨i, m, by omega, h2⟩
    · rw [List.getElem?_append_right (by rw [hl]; omega), hl] at h
      simp only [List.flatMap_cons, List.flatMap_nil, List.append_nil] at h
      have hm := (List.getElem?_eq_some_iff.1 h).1
      rw [hF n (by omega)] at hm
      exact ⟨n, j - n * k, by omega, hm, by omega, h⟩
theorem flat_length {k : Nat} (F : Nat → List Value) (n : Nat) (hF : ∀ i, i < n → (F i).length = k) : ((List.range n).flatMap F).length = n * k := by
  induction n with
  | zero => simp
  | succ n ihn =>
    rw [List.range_succ, List.flatMap_append, List.length_append, ihn (fun i hi => hF i (by omega))]
    simp [hF n (by omega), Nat.succ_mul]
/-- Elements read one by one are a row. -/
theorem rows_of {k : Nat} (hk : 0 < k) {a : Addr} {n c : Nat} (F : Nat → List Value) (hF : ∀ i, i < n → (F i).length = k ∧ w.cells? base (a.add (i * k)) k = some (F i)) (hc : n ≤ c) (hm : n ≤ 9223372036854775807) : RowsAt w (some a) n c k ((List.range n).flatMap F) := by
  refine ⟨flat_length F n (fun i hi => (hF i hi).1), hc, hm, fun hn => ?_⟩
  have z0 : ∃ v, w.cell? a = some v := by
    obtain ⟨hl, h0⟩ := hF 0 hn
    have := (World.cells?_some h0).2.2 0 hk
    rw [List.getElem?_eq_getElem (by omega)] at this
    rw [Nat.zero_mul] at this
    exact ⟨_, this⟩
  obtain ⟨v0, hv0⟩ := z0
  obtain ⟨hsp, hlt⟩ := cell_spot hv0
  obtain ⟨g, o, sp⟩ := a
  simp only at hsp hlt
  subst hsp
  refine ⟨g, o, rfl, hlt, fun j v hj => ?_⟩
  obtain ⟨i, m, hi, hmk, rfl, hv⟩ := flat_get F n (fun i hi => (hF i hi).1) j v hj
  have := (World.cells?_some (hF i hi).2).2.2 m hmk
  rw [addr_add', addr_add', Nat.add_assoc] at this
  rw [this]
  exact hv
end
end Go.Proofs.Ytffianjbljgnaaa

/-! ### OpenE -/
namespace Go.Proofs.Ytffianjbljgnaaa
set_option linter.unusedVariables false
set_option linter.unusedSimpArgs false
open Go.RowKit

section
variable {H : Type} {enc : TypeId × Value → H} {w : World} {base : Nat} {spare : Nat → Bool} {held : Bool}

theorem txt_length (s : ByteArray) : s.data.toList.length = s.size := by cases s; simp [ByteArray.size]
theorem open_rec {fuel : Nat} {cs : List Value} {x : DataW H × List MemPlace} (h : DataW.trod enc Try.prog w base spare held fuel 58 cs = some x) : ∃ r : Rec, cs = recCells r ∧ r.ok := by
  obtain ⟨y0, y1, y2, y3, n, rfl, hl, h0, h1, h2, h3⟩ := Joins.trod_struct4 Try.underlying58 h
  have hc : Try.prog.cellsOf 58 = 4 := by kernel_rfl
  obtain ⟨a, b, c, d, rfl⟩ := list4 (hl.trans hc)
  have c1 : Try.prog.cellsOf 9 = 1 := by kernel_rfl
  have c2 : Try.prog.cellsOf 29 = 1 := by kernel_rfl
  have c3 : Try.prog.cellsOf 4 = 1 := by kernel_rfl
  simp only [c1, c2, c3] at h0 h1 h2 h3
  obtain ⟨s0, e0, _, l0⟩ := DataW.trod_string Try.underlying9 h0
  obtain ⟨s1, e1, _, l1⟩ := DataW.trod_int Try.underlying29 h1
  obtain ⟨s2, e2, _⟩ := DataW.trod_bool Try.underlying4 h2
  obtain ⟨s3, e3, _, l3⟩ := DataW.trod_string Try.underlying9 h3
  simp only [List.drop_zero, List.drop_succ_cons, List.take_succ_cons, List.take_zero, List.cons.injEq, and_true] at e0 e1 e2 e3
  subst e0 e1 e2 e3
  have hb := bounds_u64 l1
  obtain ⟨m, rfl⟩ := Int.eq_ofNat_of_zero_le hb.1
  refine ⟨⟨s0.data.toList, m, s2, s3.data.toList⟩, ?_, ?_, ?_, ?_⟩
  · cases s0; cases s3; simp [recCells]
  · show s0.data.toList.length ≤ maxLen
    rw [txt_length]; exact l0
  · show s3.data.toList.length ≤ maxLen
    rw [txt_length]; exact l3
  · have := hb.2
    show m < 18446744073709551616
    omega
instance : Inhabited Rec := ⟨⟨[], 0, false, []⟩⟩
theorem open_recs {fuel : Nat} {v : Value} {x : DataW H × List MemPlace} (h : DataW.trod enc Try.prog w base spare held fuel 38 [v] = some x) :
    ∃ a n c rs, v = .slice a n c ∧ RowsAt w a n c 4 (recsCells rs) ∧ n = rs.length ∧ ∀ r ∈ rs, r.ok := by
  rcases Deep.open_slice Try.underlying38 h with ⟨e, _⟩ | ⟨a, n, c, m, k, D, Pl, e, hb, hl, hm, hmm, _, hel⟩
  · simp only [List.cons.injEq, and_true] at e
    subst e
    exact ⟨none, 0, 0, [], rfl, RowsAt.nil _ _, rfl, by simp⟩
  · simp only [List.cons.injEq, and_true] at e
    subst e
    have hc : Try.prog.cellsOf 58 = 4 := by kernel_rfl
    have hnm : n ≤ m := by rw [hmm]; split <;> omega
    have hrec : ∀ i, i < n → ∃ r : Rec, r.ok ∧ w.cells? base (a.add (i * 4)) 4 = some (recCells r) := by
      intro i hi
      obtain ⟨cs', h1, h2⟩ := hel i (by omega)
      obtain ⟨r, rfl, hr⟩ := open_rec h2
      rw [hc] at h1
      exact ⟨r, hr, h1⟩
    obtain ⟨F, hF⟩ := Deep.choose_lt hrec
    refine ⟨some a, n, c, (List.range n).map F, rfl, ?_, by simp, ?_⟩
    · have := rows_of (w := w) (base := base) (k := 4) (by omega) (a := a) (n := n) (c := c) (fun i => recCells (F i)) (fun i hi => ⟨rfl, (hF i hi).2⟩) hl (by unfold maxLen at hm; omega)
      unfold recsCells
      rw [List.flatMap_map]
      exact this
    · intro r hr
      simp only [List.mem_map, List.mem_range] at hr
      obtain ⟨i, hi, rfl⟩ := hr
      exact (hF i hi).1
theorem open_ent {fuel : Nat} {cs : List Value} {x : DataW H × List MemPlace} (h : DataW.trod enc Try.prog w base spare held fuel 40 cs = some x) : ∃ q : EZ, cs = entCells q.1 ∧ EntIs w q.1 q.2 := by
  obtain ⟨y0, y1, y2, n, rfl, hl, h0, h1, h2⟩ := Deep.trod_struct3 Try.underlying40 h
  have hc : Try.prog.cellsOf 40 = 3 := by kernel_rfl
  obtain ⟨a, b, c, rfl⟩ := list3 (hl.trans hc)
  have c1 : Try.prog.cellsOf 29 = 1 := by kernel_rfl
  have c2 : Try.prog.cellsOf 38 = 1 := by kernel_rfl
  simp only [c1, c2] at h0 h1 h2
  simp only [List.drop_zero, List.drop_succ_cons, List.take_succ_cons, List.take_zero] at h0 h1 h2
  obtain ⟨s0, e0, _, l0⟩ := DataW.trod_int Try.underlying29 h0
  obtain ⟨s1, e1, _, l1⟩ := DataW.trod_int Try.underlying29 h1
  obtain ⟨sa, sn, sc, rs, e2, hrs, hlen, hok⟩ := open_recs h2
  simp only [List.cons.injEq, and_true] at e0 e1
  subst e0 e1 e2
  have b0 := bounds_u64 l0
  have b1 := bounds_u64 l1
  obtain ⟨m0, rfl⟩ := Int.eq_ofNat_of_zero_le b0.1
  obtain ⟨m1, rfl⟩ := Int.eq_ofNat_of_zero_le b1.1
  exact ⟨(⟨m0, m1, sa, sn, sc⟩, ⟨m0, m1, rs⟩), rfl, ⟨rfl, rfl, hlen, hrs, ⟨by have := b0.2; show m0 < 18446744073709551616; omega, by have := b1.2; show m1 < 18446744073709551616; omega, hok⟩⟩⟩
theorem open_ents {fuel : Nat} {v : Value} {x : DataW H × List MemPlace} (h : DataW.trod enc Try.prog w base spare held fuel 25 [v] = some x) :
    ∃ a n c z, v = .slice a n c ∧ EntsAt w a n c z := by
  rcases Deep.open_slice Try.underlying25 h with ⟨e, _⟩ | ⟨a, n, c, m, k, D, Pl, e, hb, hl, hm, hmm, _, hel⟩
  · simp only [List.cons.injEq, and_true] at e
    subst e
    exact ⟨none, 0, 0, [], rfl, rfl, RowsAt.nil _ _, by simp⟩
  · simp only [List.cons.injEq, and_true] at e
    subst e
    have hc : Try.prog.cellsOf 40 = 3 := by kernel_rfl
    have hnm : n ≤ m := by rw [hmm]; split <;> omega
    have hrec : ∀ i, i < n → ∃ q : EZ, EntIs w q.1 q.2 ∧ w.cells? base (a.add (i * 3)) 3 = some (entCells q.1) := by
      intro i hi
      obtain ⟨cs', h1, h2⟩ := hel i (by omega)
      obtain ⟨q, rfl, hq⟩ := open_ent h2
      rw [hc] at h1
      exact ⟨q, hq, h1⟩
    haveI : Inhabited EZ := ⟨(default, ⟨0, 0, []⟩)⟩
    obtain ⟨F, hF⟩ := Deep.choose_lt hrec
    refine ⟨some a, n, c, (List.range n).map F, rfl, by simp, ?_, ?_⟩
    · have := rows_of (w := w) (base := base) (k := 3) (by omega) (a := a) (n := n) (c := c) (fun i => entCells (F i).1) (fun i hi => ⟨rfl, (hF i hi).2⟩) hl (by unfold maxLen at hm; omega)
      unfold entsCells
      rw [List.map_map, List.flatMap_map]
      exact this
    · intro q hq
      simp only [List.mem_map, List.mem_range] at hq
      obtain ⟨i, hi, rfl⟩ := hq
      exact (hF i hi).1
end
end Go.Proofs.Ytffianjbljgnaaa

/-! ### SpecMapsProof -/
namespace Go.Proofs.Ytffianjbljgnaaa.specMaps
open Go.ChangeShapes Go.WideShapes Go.ChangeAt Go.RowKit
open Go.ChangeMaps (open_string shut_string)
set_option linter.unusedVariables false

theorem own : ownKnob Try.prog.godebug = none := by kernel_rfl
theorem laidOut : laidOutB Try.prog = true := by kernel_rfl

/-! ### The row: by the kit's skeleton -/
set_option maxRecDepth 100000 in
theorem lifted (os : Os) (started : os.Started) (H : Type) (enc : TypeId × Value → H) :
    ReturnsInHanded {} Try.checked os 4 .any (Rows.specMapsSpec.pre6 enc Try.prog Try.f4 Rows.specMapsRow.domain false) (Rows.specMapsSpec.post enc Try.prog Try.f4 false true false false) := by
  refine returnsInHanded_of_change (C := Try.checked) own started (by kernel_rfl) Try.func4
    (ChangeSpec.witness6 (enc := enc) (C := Try.checked) false ⟨#[], #[.slice none 0 0, .agg #[.int .u64 0, .int .u64 0, .slice none 0 0]], []⟩ 8 (by kernel_rfl) (by kernel_rfl) (by kernel_rfl) (by kernel_rfl)) ?_
  intro W base args ds gs before hval0 hW hcnd _
  have hval : ∀ (j : Nat) t v, Try.f4.params[j]? = some t → args[j]? = some v → Value.okWide Try.prog W .any base t v := hval0
  have hW' := hW
  obtain ⟨p, q, hA0, hV, rfl, hfz, hnd⟩ := hW
  have hA : DataW.TrodAll enc Try.prog W 0 (fun _ => true) true Try.f4.params.toList args.toList ds p := hA0
  rw [Try.params4] at hA hval
  obtain ⟨v0, vs0, d0, ds0, p0, q0, hargs, rfl, rfl, h0, r0⟩ := trodAll_cons hA
  obtain ⟨v1, vs1, d1, ds1, p1, q1, rfl, rfl, rfl, h1, r1⟩ := trodAll_cons r0
  obtain ⟨rfl, rfl, rfl⟩ := trodAll_nil r1
  obtain rfl : args = #[v0, v1] := by cases args; simp_all
  obtain ⟨rfl, rfl⟩ := trodVars_none hV
  have k0 := h0
  have lt0 : ∀ x ∈ p0, x.block < W.heap.size := by obtain ⟨m, hm⟩ := k0; exact DataW.trod_lt m _ _ _ hm
  have k1 := h1
  have lt1 : ∀ x ∈ p1, x.block < W.heap.size := by obtain ⟨m, hm⟩ := k1; exact DataW.trod_lt m _ _ _ hm
  obtain ⟨x0, n0, c0, rfl⟩ := okWide_slice Try.underlying25 (hval 0 25 v0 rfl rfl)
  obtain ⟨z, hz⟩ : ∃ z, EntsAt W x0 n0 c0 z := by
    obtain ⟨m, hm⟩ := h0
    obtain ⟨a, n, c, z, e, hd⟩ := open_ents hm
    have e2 : [(.slice x0 n0 c0 : Value)] = [.slice a n c] := by rw [← e]
    simp only [List.cons.injEq, Value.slice.injEq, and_true] at e2
    obtain ⟨rfl, rfl, rfl⟩ := e2
    exact ⟨z, hd⟩
  obtain ⟨u0, u1, u2, y0, y1, y2, m, rfl, _, _, t0, t1, t2⟩ := Joins.open_agg3 Try.underlying40 (by kernel_rfl) (by kernel_rfl) (hval 1 40 v1 rfl rfl) h1
  obtain ⟨s0, e0, _, l0⟩ := DataW.trod_int Try.underlying29 t0
  obtain ⟨s1, e1, _, l1⟩ := DataW.trod_int Try.underlying29 t1
  obtain ⟨sa, sn, sc, rs, e2, hrs, hlen, hok⟩ := open_recs t2
  simp only [List.cons.injEq, and_true] at e0 e1
  subst e0 e1 e2
  have b0 := bounds_u64 l0
  have b1 := bounds_u64 l1
  obtain ⟨m0, rfl⟩ := Int.eq_ofNat_of_zero_le b0.1
  obtain ⟨m1, rfl⟩ := Int.eq_ofNat_of_zero_le b1.1
  have hEI : EntIs W ⟨m0, m1, sa, sn, sc⟩ ⟨m0, m1, rs⟩ := ⟨rfl, rfl, hlen, hrs, ⟨by have := b0.2; show m0 < 18446744073709551616; omega, by have := b1.2; show m1 < 18446744073709551616; omega, hok⟩⟩
  clear hA0 hval0
  refine (maps27_law W x0 n0 c0 z hz ⟨m0, m1, sa, sn, sc⟩ ⟨m0, m1, rs⟩ hEI).mono fun e W' ⟨he, bel⟩ => ?_
  subst he
  exact ⟨_, rfl, _, _, _, [], _, [], hW', trodAll_mk1 (shut_bool Try.underlying4 _), (trodAll_cons_mk (Below.trod laidOut (by kernel_rfl) (of_decide_eq_true (by kernel_rfl)) k0 bel lt0) (trodAll_cons_mk (Below.trod laidOut (by kernel_rfl) (of_decide_eq_true (by kernel_rfl)) k1 bel lt1) trodAll_mk0)), rfl, bel.frame _, fun h => by cases h⟩

theorem over : Rows.specMapsRow.holds Try.pinned (OpenSpec.ofChange Rows.specMapsSpec) :=
  OpenClaim.holds_of_wide 4 Try.f4 rfl rfl rfl rfl rfl rfl rfl ⟨rfl, rfl, rfl, rfl, rfl⟩ rfl rfl rfl rfl rfl (by kernel_rfl) Try.func4 (by kernel_rfl)
    (of_decide_eq_true (by kernel_rfl)) (by unfold Func.isWrapper; first | (rw [if_pos (by decide +kernel)]; kernel_rfl) | (rw [if_neg (by decide +kernel)]; exact ⟨rfl, rfl⟩))
    (fun os started H enc _ => lifted os started H enc)

/-- The statement. -/
theorem proved : Rows.SpecMapsSaid := over
end Go.Proofs.Ytffianjbljgnaaa.specMaps
