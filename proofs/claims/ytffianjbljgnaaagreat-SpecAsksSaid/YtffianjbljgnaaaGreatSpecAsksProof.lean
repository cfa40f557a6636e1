/-
  Texts folded into one: OpenG, OpenE, OpenM, SpecAsksProof.
-/
import Derived.Test.YtffianjbljgnaaaGreatSortU
import Derived.Test.YtffianjbljgnaaaGreatApp
import Derived.Lib.SmallJoins
import Derived.Deep.Slices
import Derived.Deep.Strs
import Derived.Test.YtffianjbljgnaaaGreatEntsA
import Derived.Test.YtffianjbljgnaaaGreatMade
import Derived.Test.YtffianjbljgnaaaGreatRows
import Derived.Test.YtffianjbljgnaaaGreatWalk27A
import Derived.WalkKit
import Derived.ProofKit
import Derived.OpenShut
import Derived.ShutString
import Derived.Carry

/-! ### OpenG -/
namespace Go.Proofs.YtffianjbljgnaaaGreat
set_option linter.unusedVariables false
set_option linter.unusedSimpArgs false
open Go.RowKit

section
variable {H : Type} {enc : TypeId × Value → H} {w : World} {base : Nat} {spare : Nat → Bool} {held : Bool}

theorem list3 {α : Type} {cs : List α} (h : cs.length = 3) : ∃ a b c, cs = [a, b, c] := by
  match cs, h with
  | [a, b, c], _ => exact ⟨a, b, c, rfl⟩
theorem list4 {α : Type} {cs : List α} (h : cs.length = 4) : ∃ a b c d, cs = [a, b, c, d] := by
  match cs, h with
  | [a, b, c, d], _ => exact ⟨a, b, c, d, rfl⟩
theorem cell_spot {a : Addr} {v : Value} (h : w.cell? a = some v) : a.spot = none ∧ a.block < w.heap.size := by
  unfold World.cell? at h
  split at h
  · rename_i hh
    refine ⟨?_, (Array.getElem?_eq_some_iff.1 hh).1⟩
    split at h
    · simp at h
    · rename_i hs; simpa using hs
  · simp at h
theorem flat_get {k : Nat} (F : Nat → List Value) (n : Nat) (hF : ∀ i, i < n → (F i).length = k) (j : Nat) (v : Value) (h : ((List.range n).flatMap F)[j]? = some v) : ∃ i m, i < n ∧ m < k ∧ j = i * k + m ∧ (F i)[m]? = some v := by
  induction n with
  | zero => simp at h
  | succ n ih =>
    have hl : ((List.range n).flatMap F).length = n * k := by
      clear ih h
      induction n with
      | zero => simp
      | succ n ihn =>
        rw [List.range_succ, List.flatMap_append, List.length_append, ihn (fun i hi => hF i (by omega))]
        simp [hF n (by omega), Nat.succ_mul]
    rw [List.range_succ, List.flatMap_append] at h
    by_cases hj : j < n * k
    · rw [List.getElem?_append_left (by rw [hl]; exact hj)] at h
      obtain ⟨i, m, h1, h2⟩ := ih (fun i hi => hF i (by omega)) h
      exact ⟨i, m, by omega, h2⟩
    · rw [List.getElem?_append_right (by rw [hl]; omega), hl] at h
      simp only [List.flatMap_cons, List.flatMap_nil, List.append_nil] at h
      have hm := (List.getElem?_eq_some_iff.1 h).1
      rw [hF n (by omega)] at hm
      exact ⟨n, j - n * k, by omega, hm, by omega, h⟩
theorem flat_length {k : Nat} (F : Nat → List Value) (n : Nat) (hF : ∀ i, i < n → (F i).length = k) : ((List.range n).flatMap F).length = n * k := by
  induction n with
  | zero => simp
  | succ n ihn =>
    rw [List.range_succ, List.flatMap_append, List.length_append, ihn (fun i hi => hF i (by omega))]
    simp [hF n (by omega), Nat.succ_mul]
/-- Elements read one by one are a row. -/
theorem rows_of {k : Nat} (hk : 0 < k) {a : Addr} {n c : Nat} (F : Nat → List Value) (hF : ∀ i, i < n → (F i).length = k ∧ w.cells? base (a.add (i * k)) k = some (F i)) (hc : n ≤ c) (hm : n ≤ 9223372036854775807) : RowsAt w (some a) n c k ((List.range n).flatMap F) := by
  refine ⟨flat_length F n (fun i hi => (hF i hi).1), hc, hm, fun hn => ?_⟩
  have z0 : ∃ v, w.cell? a = some v := by
    obtain ⟨hl, h0⟩ := hF 0 hn
    have := (World.cells?_some h0).2.2 0 hk
    rw [List.getElem?_eq_getElem (by omega)] at this
    rw [Nat.zero_mul] at this
    exact ⟨_, this⟩
  obtain ⟨v0, hv0⟩ := z0
  obtain ⟨hsp, hlt⟩ := cell_spot hv0
  obtain ⟨g, o, sp⟩ := a
  simp only at hsp hlt
  subst hsp
  refine ⟨g, o, rfl, hlt, fun j v hj => ?_⟩
  obtain ⟨i, m, hi, hmk, rfl, hv⟩ := flat_get F n (fun i hi => (hF i hi).1) j v hj
  have := (World.cells?_some (hF i hi).2).2.2 m hmk
  rw [addr_add', addr_add', Nat.add_assoc] at this
  rw [this]
  exact hv
end
end Go.Proofs.YtffianjbljgnaaaGreat

/-! ### OpenE -/
namespace Go.Proofs.YtffianjbljgnaaaGreat
set_option linter.unusedVariables false
set_option linter.unusedSimpArgs false
open Go.RowKit

section
variable {H : Type} {enc : TypeId × Value → H} {w : World} {base : Nat} {spare : Nat → Bool} {held : Bool}

theorem txt_length (s : ByteArray) : s.data.toList.length = s.size := by cases s; simp [ByteArray.size]
theorem open_rec {fuel : Nat} {cs : List Value} {x : DataW H × List MemPlace} (h : DataW.trod enc Tryz.prog w base spare held fuel 68 cs = some x) : ∃ r : Rec, cs = recCells r ∧ r.ok := by
  obtain ⟨y0, y1, y2, y3, n, rfl, hl, h0, h1, h2, h3⟩ := Joins.trod_struct4 Tryz.underlying68 h
  have hc : Tryz.prog.cellsOf 68 = 4 := by kernel_rfl
  obtain ⟨a, b, c, d, rfl⟩ := list4 (hl.trans hc)
  have c1 : Tryz.prog.cellsOf 9 = 1 := by kernel_rfl
  have c2 : Tryz.prog.cellsOf 33 = 1 := by kernel_rfl
  have c3 : Tryz.prog.cellsOf 4 = 1 := by kernel_rfl
  simp only [c1, c2, c3] at h0 h1 h2 h3
  obtain ⟨s0, e0, _, l0⟩ := DataW.trod_string Tryz.underlying9 h0
  obtain ⟨s1, e1, _, l1⟩ := DataW.trod_int Tryz.underlying33 h1
  obtain ⟨s2, e2, _⟩ := DataW.trod_bool Tryz.underlying4 h2
  obtain ⟨s3, e3, _, l3⟩ := DataW.trod_string Tryz.underlying9 h3
  simp only [List.drop_zero, List.drop_succ_cons, List.take_succ_cons, List.take_zero, List.cons.injEq, and_true] at e0 e1 e2 e3
  subst e0 e1 e2 e3
  have hb := bounds_u64 l1
  obtain ⟨m, rfl⟩ := Int.eq_ofNat_of_zero_le hb.1
  refine ⟨⟨s0.data.toList, m, s2, s3.data.toList⟩, ?_, ?_, ?_, ?_⟩
  · cases s0; cases s3; simp [recCells]
  · show s0.data.toList.length ≤ maxLen
    rw [txt_length]; exact l0
  · show s3.data.toList.length ≤ maxLen
    rw [txt_length]; exact l3
  · have := hb.2
    show m < 18446744073709551616
    omega
instance : Inhabited Rec := ⟨⟨[], 0, false, []⟩⟩
theorem open_recs {fuel : Nat} {v : Value} {x : DataW H × List MemPlace} (h : DataW.trod enc Tryz.prog w base spare held fuel 34 [v] = some x) :
    ∃ a n c rs, v = .slice a n c ∧ RowsAt w a n c 4 (recsCells rs) ∧ n = rs.length ∧ ∀ r ∈ rs, r.ok := by
  rcases Deep.open_slice Tryz.underlying34 h with ⟨e, _⟩ | ⟨a, n, c, m, k, D, Pl, e, hb, hl, hm, hmm, _, hel⟩
  · simp only [List.cons.injEq, and_true] at e
    subst e
    exact ⟨none, 0, 0, [], rfl, RowsAt.nil _ _, rfl, by simp⟩
  · simp only [List.cons.injEq, and_true] at e
    subst e
    have hc : Tryz.prog.cellsOf 68 = 4 := by kernel_rfl
    have hnm : n ≤ m := by rw [hmm]; split <;> omega
    have hrec : ∀ i, i < n → ∃ r : Rec, r.ok ∧ w.cells? base (a.add (i * 4)) 4 = some (recCells r) := by
      intro i hi
      obtain ⟨cs', h1, h2⟩ := hel i (by omega)
      obtain ⟨r, rfl, hr⟩ := open_rec h2
      rw [hc] at h1
      exact ⟨r, hr, h1⟩
    obtain ⟨F, hF⟩ := Deep.choose_lt hrec
    refine ⟨some a, n, c, (List.range n).map F, rfl, ?_, by simp, ?_⟩
    · have := rows_of (w := w) (base := base) (k := 4) (by omega) (a := a) (n := n) (c := c) (fun i => recCells (F i)) (fun i hi => ⟨rfl, (hF i hi).2⟩) hl (by unfold maxLen at hm; omega)
      unfold recsCells
      rw [List.flatMap_map]
      exact this
    · intro r hr
      simp only [List.mem_map, List.mem_range] at hr
      obtain ⟨i, hi, rfl⟩ := hr
      exact (hF i hi).1
theorem open_ent {fuel : Nat} {cs : List Value} {x : DataW H × List MemPlace} (h : DataW.trod enc Tryz.prog w base spare held fuel 36 cs = some x) : ∃ q : EZ, cs = entCells q.1 ∧ EntIs w q.1 q.2 := by
  obtain ⟨y0, y1, y2, n, rfl, hl, h0, h1, h2⟩ := Deep.trod_struct3 Tryz.underlying36 h
  have hc : Tryz.prog.cellsOf 36 = 3 := by kernel_rfl
  obtain ⟨a, b, c, rfl⟩ := list3 (hl.trans hc)
  have c1 : Tryz.prog.cellsOf 33 = 1 := by kernel_rfl
  have c2 : Tryz.prog.cellsOf 34 = 1 := by kernel_rfl
  simp only [c1, c2] at h0 h1 h2
  simp only [List.drop_zero, List.drop_succ_cons, List.take_succ_cons, List.take_zero] at h0 h1 h2
  obtain ⟨s0, e0, _, l0⟩ := DataW.trod_int Tryz.underlying33 h0
  obtain ⟨s1, e1, _, l1⟩ := DataW.trod_int Tryz.underlying33 h1
  obtain ⟨sa, sn, sc, rs, e2, hrs, hlen, hok⟩ := open_recs h2
  simp only [List.cons.injEq, and_true] at e0 e1
  subst e0 e1 e2
  have b0 := bounds_u64 l0
  have b1 := bounds_u64 l1
  obtain ⟨m0, rfl⟩ := Int.eq_ofNat_of_zero_le b0.1
  obtain ⟨m1, rfl⟩ := Int.eq_ofNat_of_zero_le b1.1
  exact ⟨(⟨m0, m1, sa, sn, sc⟩, ⟨m0, m1, rs⟩), rfl, ⟨rfl, rfl, hlen, hrs, ⟨by have := b0.2; show m0 < 18446744073709551616; omega, by have := b1.2; show m1 < 18446744073709551616; omega, hok⟩⟩⟩
theorem open_ents {fuel : Nat} {v : Value} {x : DataW H × List MemPlace} (h : DataW.trod enc Tryz.prog w base spare held fuel 22 [v] = some x) :
    ∃ a n c z, v = .slice a n c ∧ EntsAt w a n c z := by
  rcases Deep.open_slice Tryz.underlying22 h with ⟨e, _⟩ | ⟨a, n, c, m, k, D, Pl, e, hb, hl, hm, hmm, _, hel⟩
  · simp only [List.cons.injEq, and_true] at e
    subst e
    exact ⟨none, 0, 0, [], rfl, rfl, RowsAt.nil _ _, by simp⟩
  · simp only [List.cons.injEq, and_true] at e
    subst e
    have hc : Tryz.prog.cellsOf 36 = 3 := by kernel_rfl
    have hnm : n ≤ m := by rw [hmm]; split <;> omega
    have hrec : ∀ i, i < n → ∃ q : EZ, EntIs w q.1 q.2 ∧ w.cells? base (a.add (i * 3)) 3 = some (entCells q.1) := by
      intro i hi
      obtain ⟨cs', h1, h2⟩ := hel i (by omega)
      obtain ⟨q, rfl, hq⟩ := open_ent h2
      rw [hc] at h1
      exact ⟨q, hq, h1⟩
    haveI : Inhabited EZ := ⟨(default, ⟨0, 0, []⟩)⟩
    obtain ⟨F, hF⟩ := Deep.choose_lt hrec
    refine ⟨some a, n, c, (List.range n).map F, rfl, by simp, ?_, ?_⟩
    · have := rows_of (w := w) (base := base) (k := 3) (by omega) (a := a) (n := n) (c := c) (fun i => entCells (F i).1) (fun i hi => ⟨rfl, (hF i hi).2⟩) hl (by unfold maxLen at hm; omega)
      unfold entsCells
      rw [List.map_map, List.flatMap_map]
      exact this
    · intro q hq
      simp only [List.mem_map, List.mem_range] at hq
      obtain ⟨i, hi, rfl⟩ := hq
      exact (hF i hi).1
end
end Go.Proofs.YtffianjbljgnaaaGreat

/-! ### OpenM -/
namespace Go.Proofs.YtffianjbljgnaaaGreat
set_option linter.unusedVariables false
set_option linter.unusedSimpArgs false
open Go.RowKit

section
variable {H : Type} {enc : TypeId × Value → H} {w : World} {base : Nat} {spare : Nat → Bool} {held : Bool}

theorem list2 {α : Type} {cs : List α} (h : cs.length = 2) : ∃ a b, cs = [a, b] := by
  match cs, h with
  | [a, b], _ => exact ⟨a, b, rfl⟩
theorem list5 {α : Type} {cs : List α} (h : cs.length = 5) : ∃ a b c d e, cs = [a, b, c, d, e] := by
  match cs, h with
  | [a, b, c, d, e], _ => exact ⟨a, b, c, d, e, rfl⟩
theorem list6 {α : Type} {cs : List α} (h : cs.length = 6) : ∃ a b c d e f, cs = [a, b, c, d, e, f] := by
  match cs, h with
  | [a, b, c, d, e, f], _ => exact ⟨a, b, c, d, e, f, rfl⟩
theorem list7 {α : Type} {cs : List α} (h : cs.length = 7) : ∃ a b c d e f g, cs = [a, b, c, d, e, f, g] := by
  match cs, h with
  | [a, b, c, d, e, f, g], _ => exact ⟨a, b, c, d, e, f, g, rfl⟩
theorem list16 {α : Type} {cs : List α} (h : cs.length = 16) : ∃ v0 v1 v2 v3 v4 v5 v6 v7 v8 v9 v10 v11 v12 v13 v14 v15, cs = [v0, v1, v2, v3, v4, v5, v6, v7, v8, v9, v10, v11, v12, v13, v14, v15] := by
  match cs, h with
  | [v0, v1, v2, v3, v4, v5, v6, v7, v8, v9, v10, v11, v12, v13, v14, v15], _ => exact ⟨v0, v1, v2, v3, v4, v5, v6, v7, v8, v9, v10, v11, v12, v13, v14, v15, rfl⟩
theorem open_pair {fuel : Nat} {cs : List Value} {x : DataW H × List MemPlace} (h : DataW.trod enc Tryz.prog w base spare held fuel 76 cs = some x) : ∃ p : KV, cs = pairCells p := by
  obtain ⟨xs, n, _, _, hl, hlen, hf⟩ := DataW.trod_struct Tryz.underlying76 h
  have hc : Tryz.prog.cellsOf 76 = 2 := by kernel_rfl
  have c1 : Tryz.prog.cellsOf 9 = 1 := by kernel_rfl
  obtain ⟨a, b, rfl⟩ := list2 (hl.trans hc)
  obtain ⟨y0, y1, rfl⟩ := list2 (show xs.length = 2 from hlen)
  have h0 : DataW.trod enc Tryz.prog w base spare held n 9 [a] = some y0 := by have := hf 0 _ rfl; simpa [c1] using this
  have h1 : DataW.trod enc Tryz.prog w base spare held n 9 [b] = some y1 := by have := hf 1 _ rfl; simpa [c1] using this
  obtain ⟨s0, e0, _, l0⟩ := DataW.trod_string Tryz.underlying9 h0
  obtain ⟨s1, e1, _, l1⟩ := DataW.trod_string Tryz.underlying9 h1
  simp only [List.cons.injEq, and_true] at e0 e1
  subst e0 e1
  refine ⟨(s0.data.toList, s1.data.toList), ?_⟩
  cases s0; cases s1; simp [pairCells]
theorem open_pairs {fuel : Nat} {v : Value} {x : DataW H × List MemPlace} (h : DataW.trod enc Tryz.prog w base spare held fuel 41 [v] = some x) :
    ∃ a n c ps, v = .slice a n c ∧ RowsAt w a n c 2 (pairsCells ps) ∧ n = ps.length := by
  rcases Deep.open_slice Tryz.underlying41 h with ⟨e, _⟩ | ⟨a, n, c, m, k, D, Pl, e, hb, hl, hm, hmm, _, hel⟩
  · simp only [List.cons.injEq, and_true] at e
    subst e
    exact ⟨none, 0, 0, [], rfl, RowsAt.nil _ _, rfl⟩
  · simp only [List.cons.injEq, and_true] at e
    subst e
    have hc : Tryz.prog.cellsOf 76 = 2 := by kernel_rfl
    have hnm : n ≤ m := by rw [hmm]; split <;> omega
    have hrec : ∀ i, i < n → ∃ r : KV, w.cells? base (a.add (i * 2)) 2 = some (pairCells r) := by
      intro i hi
      obtain ⟨cs', h1, h2⟩ := hel i (by omega)
      obtain ⟨r, rfl⟩ := open_pair h2
      rw [hc] at h1
      exact ⟨r, h1⟩
    haveI : Inhabited KV := ⟨([], [])⟩
    obtain ⟨F, hF⟩ := Deep.choose_lt hrec
    refine ⟨some a, n, c, (List.range n).map F, rfl, ?_, by simp⟩
    have := rows_of (w := w) (base := base) (k := 2) (by omega) (a := a) (n := n) (c := c) (fun i => pairCells (F i)) (fun i hi => ⟨rfl, hF i hi⟩) hl (by unfold maxLen at hm; omega)
    unfold pairsCells
    rw [List.flatMap_map]
    exact this
theorem open_nums {fuel : Nat} {v : Value} {x : DataW H × List MemPlace} (h : DataW.trod enc Tryz.prog w base spare held fuel 27 [v] = some x) :
    ∃ a n c T, v = .slice a n c ∧ RowsAt w a n c 1 (u64s T) ∧ T.length = n := by
  rcases Deep.open_slice Tryz.underlying27 h with ⟨e, _⟩ | ⟨a, n, c, m, k, D, Pl, e, hb, hl, hm, hmm, _, hel⟩
  · simp only [List.cons.injEq, and_true] at e
    subst e
    exact ⟨none, 0, 0, [], rfl, RowsAt.nil _ _, rfl⟩
  · simp only [List.cons.injEq, and_true] at e
    subst e
    have hc : Tryz.prog.cellsOf 33 = 1 := by kernel_rfl
    have hnm : n ≤ m := by rw [hmm]; split <;> omega
    have hrec : ∀ i, i < n → ∃ r : Nat, w.cells? base (a.add (i * 1)) 1 = some [.int .u64 (r : Nat)] := by
      intro i hi
      obtain ⟨cs', h1, h2⟩ := hel i (by omega)
      rw [hc] at h1
      have hl1 := (World.cells?_some h1).2.1
      match cs', hl1 with
      | [u], _ =>
        obtain ⟨z, e, _, l⟩ := DataW.trod_int Tryz.underlying33 h2
        simp only [List.cons.injEq, and_true] at e
        subst e
        have b := bounds_u64 l
        obtain ⟨r, rfl⟩ := Int.eq_ofNat_of_zero_le b.1
        exact ⟨r, h1⟩
    obtain ⟨F, hF⟩ := Deep.choose_lt hrec
    refine ⟨some a, n, c, (List.range n).map F, rfl, ?_, by simp⟩
    have := rows_of (w := w) (base := base) (k := 1) (by omega) (a := a) (n := n) (c := c) (fun i => [.int .u64 (F i : Nat)]) (fun i hi => ⟨rfl, hF i hi⟩) hl (by unfold maxLen at hm; omega)
    unfold u64s
    rw [List.map_map]
    have e : (List.range n).flatMap (fun i => [Value.int .u64 (F i : Nat)]) = (List.range n).map ((fun n : Nat => Value.int .u64 (n : Int)) ∘ F) := by
      rw [List.flatMap_def]
      induction List.range n with
      | nil => rfl
      | cons i t ih => simp only [List.map_cons, List.flatten_cons, ih]; rfl
    rw [e] at this
    exact this
theorem open_call {fuel : Nat} {cs : List Value} {x : DataW H × List MemPlace} (h : DataW.trod enc Tryz.prog w base spare held fuel 39 cs = some x) :
    ∃ (k : Int) (t : Nat) (a b c : Txt), cs = [.int .i64 k, .int .u64 (t : Nat), .string ⟨a.toArray⟩, .string ⟨b.toArray⟩, .string ⟨c.toArray⟩] ∧ isI k ∧ t < 18446744073709551616 ∧ a.length ≤ maxLen ∧ b.length ≤ maxLen ∧ c.length ≤ maxLen := by
  obtain ⟨xs, n, _, _, hl, hlen, hf⟩ := DataW.trod_struct Tryz.underlying39 h
  have hc : Tryz.prog.cellsOf 39 = 5 := by kernel_rfl
  have k1 : Tryz.prog.cellsOf 33 = 1 := by kernel_rfl
  have k2 : Tryz.prog.cellsOf 3 = 1 := by kernel_rfl
  have k3 : Tryz.prog.cellsOf 9 = 1 := by kernel_rfl
  have k4 : Tryz.prog.cellsOf 4 = 1 := by kernel_rfl
  obtain ⟨c0, c1, c2, c3, c4, rfl⟩ := list5 (hl.trans hc)
  obtain ⟨y0, y1, y2, y3, y4, rfl⟩ := list5 (show xs.length = 5 from hlen)
  have h0 : DataW.trod enc Tryz.prog w base spare held n 3 [c0] = some y0 := by have := hf 0 _ rfl; simpa [k1, k2, k3, k4] using this
  have h1 : DataW.trod enc Tryz.prog w base spare held n 33 [c1] = some y1 := by have := hf 1 _ rfl; simpa [k1, k2, k3, k4] using this
  have h2 : DataW.trod enc Tryz.prog w base spare held n 9 [c2] = some y2 := by have := hf 2 _ rfl; simpa [k1, k2, k3, k4] using this
  have h3 : DataW.trod enc Tryz.prog w base spare held n 9 [c3] = some y3 := by have := hf 3 _ rfl; simpa [k1, k2, k3, k4] using this
  have h4 : DataW.trod enc Tryz.prog w base spare held n 9 [c4] = some y4 := by have := hf 4 _ rfl; simpa [k1, k2, k3, k4] using this
  obtain ⟨z0, e0, _, l0⟩ := DataW.trod_int Tryz.underlying3 h0
  obtain ⟨z1, e1, _, l1⟩ := DataW.trod_int Tryz.underlying33 h1
  obtain ⟨s2, e2, _, l2⟩ := DataW.trod_string Tryz.underlying9 h2
  obtain ⟨s3, e3, _, l3⟩ := DataW.trod_string Tryz.underlying9 h3
  obtain ⟨s4, e4, _, l4⟩ := DataW.trod_string Tryz.underlying9 h4
  simp only [List.cons.injEq, and_true] at e0 e1 e2 e3 e4
  subst e0 e1 e2 e3 e4
  have b0 := bounds_i64 l0
  have b1 := bounds_u64 l1
  obtain ⟨m1, rfl⟩ := Int.eq_ofNat_of_zero_le b1.1
  refine ⟨z0, m1, s2.data.toList, s3.data.toList, s4.data.toList, ?_, b0, by have := b1.2; omega, by rw [txt_length]; exact l2, by rw [txt_length]; exact l3, by rw [txt_length]; exact l4⟩
  cases s2; cases s3; cases s4; simp
theorem open_out {fuel : Nat} {cs : List Value} {x : DataW H × List MemPlace} (h : DataW.trod enc Tryz.prog w base spare held fuel 43 cs = some x) :
    ∃ (t : Nat) (k e : Int) (f : Bool) (v : Txt) (a : Option Addr) (pn pc : Nat) (ps : List KV), cs = [.int .u64 (t : Nat), .int .i64 k, .int .i64 e, .bool f, .string ⟨v.toArray⟩, .slice a pn pc] ∧ RowsAt w a pn pc 2 (pairsCells ps) ∧ pn = ps.length ∧ v.length ≤ maxLen ∧ isI e := by
  obtain ⟨xs, n, _, _, hl, hlen, hf⟩ := DataW.trod_struct Tryz.underlying43 h
  have hc : Tryz.prog.cellsOf 43 = 6 := by kernel_rfl
  have k1 : Tryz.prog.cellsOf 33 = 1 := by kernel_rfl
  have k2 : Tryz.prog.cellsOf 3 = 1 := by kernel_rfl
  have k3 : Tryz.prog.cellsOf 9 = 1 := by kernel_rfl
  have k4 : Tryz.prog.cellsOf 4 = 1 := by kernel_rfl
  obtain ⟨c0, c1, c2, c3, c4, c5, rfl⟩ := list6 (hl.trans hc)
  obtain ⟨y0, y1, y2, y3, y4, y5, rfl⟩ := list6 (show xs.length = 6 from hlen)
  have h0 : DataW.trod enc Tryz.prog w base spare held n 33 [c0] = some y0 := by have := hf 0 _ rfl; simpa [k1, k2, k3, k4] using this
  have h1 : DataW.trod enc Tryz.prog w base spare held n 3 [c1] = some y1 := by have := hf 1 _ rfl; simpa [k1, k2, k3, k4] using this
  have h2 : DataW.trod enc Tryz.prog w base spare held n 40 [c2] = some y2 := by have := hf 2 _ rfl; simpa [k1, k2, k3, k4, show Tryz.prog.cellsOf 40 = 1 from by kernel_rfl] using this
  have h3 : DataW.trod enc Tryz.prog w base spare held n 4 [c3] = some y3 := by have := hf 3 _ rfl; simpa [k1, k2, k3, k4] using this
  have h4 : DataW.trod enc Tryz.prog w base spare held n 9 [c4] = some y4 := by have := hf 4 _ rfl; simpa [k1, k2, k3, k4] using this
  have h5 : DataW.trod enc Tryz.prog w base spare held n 41 [c5] = some y5 := by have := hf 5 _ rfl; simpa [k1, k2, k3, k4, show Tryz.prog.cellsOf 41 = 1 from by kernel_rfl] using this
  obtain ⟨z0, e0, _, l0⟩ := DataW.trod_int Tryz.underlying33 h0
  obtain ⟨z1, e1, _, l1⟩ := DataW.trod_int Tryz.underlying3 h1
  obtain ⟨z2, e2, _, l2⟩ := DataW.trod_int Tryz.underlying40 h2
  obtain ⟨b3, e3, _⟩ := DataW.trod_bool Tryz.underlying4 h3
  obtain ⟨s4, e4, _, l4⟩ := DataW.trod_string Tryz.underlying9 h4
  obtain ⟨a, pn, pc, ps, e5, hr, hn⟩ := open_pairs h5
  simp only [List.cons.injEq, and_true] at e0 e1 e2 e3 e4
  subst e0 e1 e2 e3 e4 e5
  have b0 := bounds_u64 l0
  obtain ⟨m0, rfl⟩ := Int.eq_ofNat_of_zero_le b0.1
  refine ⟨m0, z1, z2, b3, s4.data.toList, a, pn, pc, ps, ?_, hr, hn, by rw [txt_length]; exact l4, bounds_i64 l2⟩
  cases s4; simp
/-- A call that came in, with what else is known of its cells. -/
structure MdOk (q : MZ) : Prop where
  kind : isI q.1.kind
  n : isI q.1.n
  err : isI q.1.err
  val : q.1.val.length ≤ maxLen
  hi : q.1.hi.length ≤ maxLen
  frm : isI q.1.frm
  til : isI q.1.til
theorem open_made {fuel : Nat} {cs : List Value} {x : DataW H × List MemPlace} (h : DataW.trod enc Tryz.prog w base spare held fuel 45 cs = some x) : ∃ q : MZ, cs = mdCells q.1 ∧ MdIs w q ∧ MdOk q := by
  obtain ⟨xs, n, _, _, hl, hlen, hf⟩ := DataW.trod_struct Tryz.underlying45 h
  have hc : Tryz.prog.cellsOf 45 = 16 := by kernel_rfl
  have k1 : Tryz.prog.cellsOf 33 = 1 := by kernel_rfl
  have k2 : Tryz.prog.cellsOf 3 = 1 := by kernel_rfl
  have k3 : Tryz.prog.cellsOf 9 = 1 := by kernel_rfl
  have k4 : Tryz.prog.cellsOf 4 = 1 := by kernel_rfl
  obtain ⟨c0, c1, c2, c3, c4, c5, c6, c7, c8, c9, c10, c11, c12, c13, c14, c15, rfl⟩ := list16 (hl.trans hc)
  obtain ⟨y0, y1, y2, y3, y4, y5, y6, rfl⟩ := list7 (show xs.length = 7 from hlen)
  have h0 : DataW.trod enc Tryz.prog w base spare held n 33 [c0] = some y0 := by have := hf 0 _ rfl; simpa [k1, k2, k3, k4] using this
  have h1 : DataW.trod enc Tryz.prog w base spare held n 3 [c1] = some y1 := by have := hf 1 _ rfl; simpa [k1, k2, k3, k4] using this
  have h2 : DataW.trod enc Tryz.prog w base spare held n 39 [c2, c3, c4, c5, c6] = some y2 := by have := hf 2 _ rfl; simpa [k1, k2, k3, k4, show Tryz.prog.cellsOf 39 = 5 from by kernel_rfl] using this
  have h3 : DataW.trod enc Tryz.prog w base spare held n 4 [c7] = some y3 := by have := hf 3 _ rfl; simpa [k1, k2, k3, k4] using this
  have h4 : DataW.trod enc Tryz.prog w base spare held n 43 [c8, c9, c10, c11, c12, c13] = some y4 := by have := hf 4 _ rfl; simpa [k1, k2, k3, k4, show Tryz.prog.cellsOf 43 = 6 from by kernel_rfl] using this
  have h5 : DataW.trod enc Tryz.prog w base spare held n 3 [c14] = some y5 := by have := hf 5 _ rfl; simpa [k1, k2, k3, k4] using this
  have h6 : DataW.trod enc Tryz.prog w base spare held n 3 [c15] = some y6 := by have := hf 6 _ rfl; simpa [k1, k2, k3, k4] using this
  obtain ⟨z0, e0, _, l0⟩ := DataW.trod_int Tryz.underlying33 h0
  obtain ⟨z1, e1, _, l1⟩ := DataW.trod_int Tryz.underlying3 h1
  obtain ⟨b3, e3, _⟩ := DataW.trod_bool Tryz.underlying4 h3
  obtain ⟨z5, e5, _, l5⟩ := DataW.trod_int Tryz.underlying3 h5
  obtain ⟨z6, e6, _, l6⟩ := DataW.trod_int Tryz.underlying3 h6
  obtain ⟨kk, ct, ka, kb, kc, eC, hki, hct, hka, hkb, hkc⟩ := open_call h2
  obtain ⟨ot, on, oe, of', ov, pa, pn, pc, ps, eO, hr, hn, hov, hoe⟩ := open_out h4
  simp only [List.cons.injEq, and_true] at e0 e1 e3 e5 e6 eC eO
  obtain ⟨rfl, rfl, rfl, rfl, rfl⟩ := eC
  obtain ⟨rfl, rfl, rfl, rfl, rfl, rfl⟩ := eO
  subst e0 e1 e3 e5 e6
  have b0 := bounds_u64 l0
  obtain ⟨m0, rfl⟩ := Int.eq_ofNat_of_zero_le b0.1
  exact ⟨(⟨m0, z1, kk, ct, ka, kb, kc, b3, ot, on, oe, of', ov, pa, pn, pc, z5, z6⟩, ps), rfl, ⟨hn, hr, by have := b0.2; show m0 < 18446744073709551616; omega, hka⟩, ⟨hki, bounds_i64 l1, hoe, hkc, hkb, bounds_i64 l5, bounds_i64 l6⟩⟩
theorem open_mades {fuel : Nat} {v : Value} {x : DataW H × List MemPlace} (h : DataW.trod enc Tryz.prog w base spare held fuel 23 [v] = some x) :
    ∃ a n c z, v = .slice a n c ∧ MadeAt w a n c z ∧ ∀ q ∈ z, MdOk q := by
  rcases Deep.open_slice Tryz.underlying23 h with ⟨e, _⟩ | ⟨a, n, c, m, k, D, Pl, e, hb, hl, hm, hmm, _, hel⟩
  · simp only [List.cons.injEq, and_true] at e
    subst e
    exact ⟨none, 0, 0, [], rfl, ⟨rfl, RowsAt.nil _ _, by simp⟩, by simp⟩
  · simp only [List.cons.injEq, and_true] at e
    subst e
    have hc : Tryz.prog.cellsOf 45 = 16 := by kernel_rfl
    have hnm : n ≤ m := by rw [hmm]; split <;> omega
    have hrec : ∀ i, i < n → ∃ q : MZ, (MdIs w q ∧ MdOk q) ∧ w.cells? base (a.add (i * 16)) 16 = some (mdCells q.1) := by
      intro i hi
      obtain ⟨cs', h1, h2⟩ := hel i (by omega)
      obtain ⟨q, rfl, hq⟩ := open_made h2
      rw [hc] at h1
      exact ⟨q, hq, h1⟩
    haveI : Inhabited MZ := ⟨(⟨0, 0, 0, 0, [], [], [], false, 0, 0, 0, false, [], none, 0, 0, 0, 0⟩, [])⟩
    obtain ⟨F, hF⟩ := Deep.choose_lt hrec
    have hmem : ∀ q ∈ (List.range n).map F, MdIs w q ∧ MdOk q := by
      intro q hq
      simp only [List.mem_map, List.mem_range] at hq
      obtain ⟨i, hi, rfl⟩ := hq
      exact (hF i hi).1
    refine ⟨some a, n, c, (List.range n).map F, rfl, ⟨by simp, ?_, fun q hq => (hmem q hq).1⟩, fun q hq => (hmem q hq).2⟩
    have := rows_of (w := w) (base := base) (k := 16) (by omega) (a := a) (n := n) (c := c) (fun i => mdCells (F i).1) (fun i hi => ⟨rfl, (hF i hi).2⟩) hl (by unfold maxLen at hm; omega)
    unfold mdsCells
    rw [List.map_map, List.flatMap_map]
    exact this
end
end Go.Proofs.YtffianjbljgnaaaGreat

/-! ### SpecAsksProof -/
namespace Go.Proofs.YtffianjbljgnaaaGreat.specAsks
open Go.ChangeShapes Go.WideShapes Go.ChangeAt Go.RowKit
open Go.ChangeMaps (open_string shut_string)
set_option linter.unusedVariables false

theorem own : ownKnob Tryz.prog.godebug = none := by kernel_rfl
theorem laidOut : laidOutB Tryz.prog = true := by kernel_rfl

/-! ### The row: by the kit's skeleton -/
set_option maxRecDepth 100000 in
theorem lifted (os : Os) (started : os.Started) (H : Type) (enc : TypeId × Value → H) :
    ReturnsInHanded {} Tryz.checked os 3 .any (Rows.specAsksSpec.pre6 enc Tryz.prog Tryz.f3 Rows.specAsksRow.domain false) (Rows.specAsksSpec.post enc Tryz.prog Tryz.f3 false true false false) := by
  refine returnsInHanded_of_change (C := Tryz.checked) own started (by kernel_rfl) Tryz.func3
    (ChangeSpec.witness6 (enc := enc) (C := Tryz.checked) false ⟨#[], #[.slice none 0 0, .slice none 0 0], []⟩ 8 (by kernel_rfl) (by kernel_rfl) (by kernel_rfl) (by kernel_rfl)) ?_
  intro W base args ds gs before hval0 hW hcnd _
  have hval : ∀ (j : Nat) t v, Tryz.f3.params[j]? = some t → args[j]? = some v → Value.okWide Tryz.prog W .any base t v := hval0
  have hW' := hW
  obtain ⟨p, q, hA0, hV, rfl, hfz, hnd⟩ := hW
  have hA : DataW.TrodAll enc Tryz.prog W 0 (fun _ => true) true Tryz.f3.params.toList args.toList ds p := hA0
  rw [Tryz.params3] at hA hval
  obtain ⟨v0, vs0, d0, ds0, p0, q0, hargs, rfl, rfl, h0, r0⟩ := trodAll_cons hA
  obtain ⟨v1, vs1, d1, ds1, p1, q1, rfl, rfl, rfl, h1, r1⟩ := trodAll_cons r0
  obtain ⟨rfl, rfl, rfl⟩ := trodAll_nil r1
  obtain rfl : args = #[v0, v1] := by cases args; simp_all
  obtain ⟨rfl, rfl⟩ := trodVars_none hV
  have k0 := h0
  have lt0 : ∀ x ∈ p0, x.block < W.heap.size := by obtain ⟨m, hm⟩ := k0; exact DataW.trod_lt m _ _ _ hm
  have k1 := h1
  have lt1 : ∀ x ∈ p1, x.block < W.heap.size := by obtain ⟨m, hm⟩ := k1; exact DataW.trod_lt m _ _ _ hm
  obtain ⟨x0, n0, c0, rfl⟩ := okWide_slice Tryz.underlying22 (hval 0 22 v0 rfl rfl)
  obtain ⟨z, hz⟩ : ∃ z, EntsAt W x0 n0 c0 z := by
    obtain ⟨m, hm⟩ := h0
    obtain ⟨a, n, c, z, e, hd⟩ := open_ents hm
    have e2 : [(.slice x0 n0 c0 : Value)] = [.slice a n c] := by rw [← e]
    simp only [List.cons.injEq, Value.slice.injEq, and_true] at e2
    obtain ⟨rfl, rfl, rfl⟩ := e2
    exact ⟨z, hd⟩
  obtain ⟨x1, n1, c1, rfl⟩ := okWide_slice Tryz.underlying23 (hval 1 23 v1 rfl rfl)
  obtain ⟨zm, hzm, hok⟩ : ∃ z, MadeAt W x1 n1 c1 z ∧ ∀ q ∈ z, MdOk q := by
    obtain ⟨m, hm⟩ := h1
    obtain ⟨a, n, c, z, e, hd⟩ := open_mades hm
    have e2 : [(.slice x1 n1 c1 : Value)] = [.slice a n c] := by rw [← e]
    simp only [List.cons.injEq, Value.slice.injEq, and_true] at e2
    obtain ⟨rfl, rfl, rfl⟩ := e2
    exact ⟨z, hd⟩
  clear hA0 hval0
  refine (asks27_law W x0 n0 c0 z hz x1 n1 c1 zm hzm (fun q hq => (hok q hq).kind)).mono fun e W' ⟨he, bel⟩ => ?_
  subst he
  exact ⟨_, rfl, _, _, _, [], _, [], hW', trodAll_mk1 (shut_bool Tryz.underlying4 _), (trodAll_cons_mk (Below.trod laidOut (by kernel_rfl) (of_decide_eq_true (by kernel_rfl)) k0 bel lt0) (trodAll_cons_mk (Below.trod laidOut (by kernel_rfl) (of_decide_eq_true (by kernel_rfl)) k1 bel lt1) trodAll_mk0)), rfl, bel.frame _, fun h => by cases h⟩

theorem over : Rows.specAsksRow.holds Tryz.pinned (OpenSpec.ofChange Rows.specAsksSpec) :=
  OpenClaim.holds_of_wide 3 Tryz.f3 rfl rfl rfl rfl rfl rfl rfl ⟨rfl, rfl, rfl, rfl, rfl⟩ rfl rfl rfl rfl rfl (by kernel_rfl) Tryz.func3 (by kernel_rfl)
    (of_decide_eq_true (by kernel_rfl)) (by unfold Func.isWrapper; first | (rw [if_pos (by decide +kernel)]; kernel_rfl) | (rw [if_neg (by decide +kernel)]; exact ⟨rfl, rfl⟩))
    (fun os started H enc _ => lifted os started H enc)

/-- The statement. -/
theorem proved : Rows.SpecAsksSaid := over
end Go.Proofs.YtffianjbljgnaaaGreat.specAsks
