/-
  Texts folded into one: OpenG, OpenW, LookRightProof.
-/
import Derived.Test.YtecknikehieioaaGreatSortU
import Derived.Test.YtecknikehieioaaGreatApp
import Derived.Lib.SmallJoins
import Derived.Deep.Slices
import Derived.Deep.Strs
import Derived.Test.YtecknikehieioaaGreatLookH
import Derived.Test.YtecknikehieioaaGreatRows
import Derived.Test.YtecknikehieioaaGreatWalk28R
import Derived.WalkKit
import Derived.ProofKit
import Derived.OpenShut
import Derived.ShutString
import Derived.Carry

/-! ### OpenG -/
namespace Go.Proofs.YtecknikehieioaaGreat
set_option linter.unusedVariables false
set_option linter.unusedSimpArgs false
open Go.RowKit

section
variable {H : Type} {enc : TypeId × Value → H} {w : World} {base : Nat} {spare : Nat → Bool} {held : Bool}

theorem list3 {α : Type} {cs : List α} (h : cs.length = 3) : ∃ a b c, cs = [a, b, c] := by
  match cs, h with
  | [a, b, c], _ => exact ⟨a, b, c, rfl⟩
theorem list4 {α : Type} {cs : List α} (h : cs.length = 4) : ∃ a b c d, cs = [a, b, c, d] := by
  match cs, h with
  | [a, b, c, d], _ => exact ⟨a, b, c, d, rfl⟩
theorem cell_spot {a : Addr} {v : Value} (h : w.cell? a = some v) : a.spot = none ∧ a.block < w.heap.size := by
  unfold World.cell? at h
  split at h
  · rename_i hh
    refine ⟨?_, (Array.getElem?_eq_some_iff.1 hh).1⟩
    split at h
    · simp at h
    · rename_i hs; simpa using hs
  · simp at h
theorem flat_get {k : Nat} (F : Nat → List Value) (n : Nat) (hF : ∀ i, i < n → (F i).length = k) (j : Nat) (v : Value) (h : ((List.range n).flatMap F)[j]? = some v) : ∃ i m, i < n ∧ m < k ∧ j = i * k + m ∧ (F i)[m]? = some v := by
  induction n with
  | zero => simp at h
  | succ n ih =>
    have hl : ((List.range n).flatMap F).length = n * k := by
      clear ih h
      induction n with
      | zero => simp
      | succ n ihn =>
        rw [List.range_succ, List.flatMap_append, List.length_append, ihn (fun i hi => hF i (by omega))]
        simp [hF n (by omega), Nat.succ_mul]
    rw [List.range_succ, List.flatMap_append] at h
    by_cases hj : j < n * k
    · rw [List.getElem?_append_left (by rw [hl]; exact hj)] at h
      obtain ⟨i, m, h1, h2⟩ := ih (fun i hi => hF i (by omega)) h
      exact ⟨i, m, by omega, h2⟩
    · rw [List.getElem?_append_right (by rw [hl]; omega), hl] at h
      simp only [List.flatMap_cons, List.flatMap_nil, List.append_nil] at h
      have hm := (List.getElem?_eq_some_iff.1 h).1
      rw [hF n (by omega)] at hm
      exact ⟨n, j - n * k, by omega, hm, by omega, h⟩
theorem flat_length {k : Nat} (F : Nat → List Value) (n : Nat) (hF : ∀ i, i < n → (F i).length = k) : ((List.range n).flatMap F).length = n * k := by
  induction n with
  | zero => simp
  | succ n ihn =>
    rw [List.range_succ, List.flatMap_append, List.length_append, ihn (fun i hi => hF i (by omega))]
    simp [hF n (by omega), Nat.succ_mul]
/-- Elements read one by one are a row. -/
theorem rows_of {k : Nat} (hk : 0 < k) {a : Addr} {n c : Nat} (F : Nat → List Value) (hF : ∀ i, i < n → (F i).length = k ∧ w.cells? base (a.add (i * k)) k = some (F i)) (hc : n ≤ c) (hm : n ≤ 9223372036854775807) : RowsAt w (some a) n c k ((List.range n).flatMap F) := by
  refine ⟨flat_length F n (fun i hi => (hF i hi).1), hc, hm, fun hn => ?_⟩
  have z0 : ∃ v, w.cell? a = some v := by
    obtain ⟨hl, h0⟩ := hF 0 hn
    have := (World.cells?_some h0).2.2 0 hk
    rw [List.getElem?_eq_getElem (by omega)] at this
    rw [Nat.zero_mul] at this
    exact ⟨_, this⟩
  obtain ⟨v0, hv0⟩ := z0
  obtain ⟨hsp, hlt⟩ := cell_spot hv0
  obtain ⟨g, o, sp⟩ := a
  simp only at hsp hlt
  subst hsp
  refine ⟨g, o, rfl, hlt, fun j v hj => ?_⟩
  obtain ⟨i, m, hi, hmk, rfl, hv⟩ := flat_get F n (fun i hi => (hF i hi).1) j v hj
  have := (World.cells?_some (hF i hi).2).2.2 m hmk
  rw [addr_add', addr_add', Nat.add_assoc] at this
  rw [this]
  exact hv
end
end Go.Proofs.YtecknikehieioaaGreat

/-! ### OpenW -/
namespace Go.Proofs.YtecknikehieioaaGreat
set_option linter.unusedVariables false
set_option linter.unusedSimpArgs false
open Go.RowKit

section
variable {H : Type} {enc : TypeId × Value → H} {w : World} {base : Nat} {spare : Nat → Bool} {held : Bool}

theorem u8_of {x : Int} (h : (Lit.int .u8 x).wf = true) : ∃ m : Nat, x = m ∧ m < 256 := by
  have hb := bounds_u8 h
  obtain ⟨m, rfl⟩ := Int.eq_ofNat_of_zero_le hb.1
  exact ⟨m, rfl, by have := hb.2; omega⟩
def Wr.fit (x : Wr) : Prop := x.key < 256 ∧ x.val < 256
theorem open_wr {fuel : Nat} {cs : List Value} {x : DataW H × List MemPlace} (h : DataW.trod enc Tryz.prog w base spare held fuel 70 cs = some x) : ∃ d : Wr, cs = wrCells d ∧ d.fit := by
  obtain ⟨y0, y1, y2, y3, n, rfl, hl, h0, h1, h2, h3⟩ := Joins.trod_struct4 Tryz.underlying70 h
  have hc : Tryz.prog.cellsOf 70 = 4 := by kernel_rfl
  obtain ⟨a, b, c, d, rfl⟩ := list4 (hl.trans hc)
  have c1 : Tryz.prog.cellsOf 5 = 1 := by kernel_rfl
  have c2 : Tryz.prog.cellsOf 4 = 1 := by kernel_rfl
  simp only [c1, c2] at h0 h1 h2 h3
  obtain ⟨s0, e0, _, l0⟩ := DataW.trod_int Tryz.underlying5 h0
  obtain ⟨s1, e1, _, l1⟩ := DataW.trod_int Tryz.underlying5 h1
  obtain ⟨s2, e2, _⟩ := DataW.trod_bool Tryz.underlying4 h2
  obtain ⟨s3, e3, _⟩ := DataW.trod_bool Tryz.underlying4 h3
  simp only [List.drop_zero, List.drop_succ_cons, List.take_succ_cons, List.take_zero, List.cons.injEq, and_true] at e0 e1 e2 e3
  subst e0 e1 e2 e3
  obtain ⟨m0, rfl, b0⟩ := u8_of l0
  obtain ⟨m1, rfl, b1⟩ := u8_of l1
  exact ⟨⟨m0, m1, s2, s3⟩, rfl, b0, b1⟩
instance : Inhabited Wr := ⟨⟨0, 0, false, false⟩⟩
theorem open_wrs {fuel : Nat} {v : Value} {x : DataW H × List MemPlace} (h : DataW.trod enc Tryz.prog w base spare held fuel 30 [v] = some x) : ∃ (a : Option Addr) (n c : Nat) (l : List Wr), v = .slice a n c ∧ RowsAt w a n c 4 (wrsCells l) ∧ n = l.length ∧ ∀ x ∈ l, x.key < 256 ∧ x.val < 256 := by
  rcases Deep.open_slice Tryz.underlying30 h with ⟨e, _⟩ | ⟨a, n, c, m, k, D, Pl, e, hb, hl, hm, hmm, _, hel⟩
  · simp only [List.cons.injEq, and_true] at e
    subst e
    exact ⟨none, 0, 0, [], rfl, RowsAt.nil _ _, rfl, by simp⟩
  · simp only [List.cons.injEq, and_true] at e
    subst e
    have hc : Tryz.prog.cellsOf 70 = 4 := by kernel_rfl
    have hnm : n ≤ m := by rw [hmm]; split <;> omega
    have hrec : ∀ i, i < n → ∃ r : Wr, r.fit ∧ w.cells? base (a.add (i * 4)) 4 = some (wrCells r) := by
      intro i hi
      obtain ⟨cs', h1, h2⟩ := hel i (by omega)
      obtain ⟨r, rfl, hr⟩ := open_wr h2
      rw [hc] at h1
      exact ⟨r, hr, h1⟩
    obtain ⟨F, hF⟩ := Deep.choose_lt hrec
    refine ⟨some a, n, c, (List.range n).map F, rfl, ?_, by simp, ?_⟩
    · have := rows_of (w := w) (base := base) (k := 4) (by omega) (a := a) (n := n) (c := c) (fun i => wrCells (F i)) (fun i hi => ⟨rfl, (hF i hi).2⟩) hl (by unfold maxLen at hm; omega)
      unfold wrsCells
      rw [List.flatMap_map]
      exact this
    · intro r hr
      simp only [List.mem_map, List.mem_range] at hr
      obtain ⟨i, hi, rfl⟩ := hr
      exact (hF i hi).1
end
end Go.Proofs.YtecknikehieioaaGreat

/-! ### LookRightProof -/
namespace Go.Proofs.YtecknikehieioaaGreat.lookRight
open Go.ChangeShapes Go.WideShapes Go.ChangeAt Go.RowKit
open Go.ChangeMaps (open_string shut_string)
set_option linter.unusedVariables false

theorem own : ownKnob Tryz.prog.godebug = none := by kernel_rfl
theorem laidOut : laidOutB Tryz.prog = true := by kernel_rfl

/-! ### The row: by the kit's skeleton -/
set_option maxRecDepth 100000 in
theorem lifted (os : Os) (started : os.Started) (H : Type) (enc : TypeId × Value → H) :
    ReturnsInHanded {} Tryz.checked os 4 .any (Rows.lookRightSpec.pre6 enc Tryz.prog Tryz.f4 Rows.lookRightRow.domain false) (Rows.lookRightSpec.post enc Tryz.prog Tryz.f4 false true false false) := by
  refine returnsInHanded_of_change (C := Tryz.checked) own started (by kernel_rfl) Tryz.func4
    (ChangeSpec.witness6 (enc := enc) (C := Tryz.checked) false ⟨#[], #[.slice none 0 0, .int .u8 0], []⟩ 8 (by kernel_rfl) (by kernel_rfl) (by kernel_rfl) (by kernel_rfl)) ?_
  intro W base args ds gs before hval0 hW hcnd _
  have hval : ∀ (j : Nat) t v, Tryz.f4.params[j]? = some t → args[j]? = some v → Value.okWide Tryz.prog W .any base t v := hval0
  have hW' := hW
  obtain ⟨p, q, hA0, hV, rfl, hfz, hnd⟩ := hW
  have hA : DataW.TrodAll enc Tryz.prog W 0 (fun _ => true) true Tryz.f4.params.toList args.toList ds p := hA0
  rw [Tryz.params4] at hA hval
  obtain ⟨v0, vs0, d0, ds0, p0, q0, hargs, rfl, rfl, h0, r0⟩ := trodAll_cons hA
  obtain ⟨v1, vs1, d1, ds1, p1, q1, rfl, rfl, rfl, h1, r1⟩ := trodAll_cons r0
  obtain ⟨rfl, rfl, rfl⟩ := trodAll_nil r1
  obtain rfl : args = #[v0, v1] := by cases args; simp_all
  obtain ⟨rfl, rfl⟩ := trodVars_none hV
  have k0 := h0
  have lt0 : ∀ x ∈ p0, x.block < W.heap.size := by obtain ⟨m, hm⟩ := k0; exact DataW.trod_lt m _ _ _ hm
  obtain ⟨a1, rfl, rfl, rfl, w1⟩ := open_int Tryz.underlying5 (hval 1 5 v1 rfl rfl) h1
  obtain ⟨wh, rfl, hwh⟩ := u8_of w1
  obtain ⟨x0, n0, c0, rfl⟩ := okWide_slice Tryz.underlying30 (hval 0 30 v0 rfl rfl)
  obtain ⟨l, hz, hn0, hfit⟩ : ∃ l : List Wr, RowsAt W x0 n0 c0 4 (wrsCells l) ∧ n0 = l.length ∧ ∀ x ∈ l, x.key < 256 ∧ x.val < 256 := by
    obtain ⟨m, hm⟩ := h0
    obtain ⟨a, n, c, z, e, hd⟩ := open_wrs hm
    have e2 : [(.slice x0 n0 c0 : Value)] = [.slice a n c] := by rw [← e]
    simp only [List.cons.injEq, Value.slice.injEq, and_true] at e2
    obtain ⟨rfl, rfl, rfl⟩ := e2
    exact ⟨z, hd⟩
  clear hA0 hval0
  refine (right_law W x0 n0 c0 l hz hn0 hfit wh hwh).mono fun e W' ⟨he, bel⟩ => ?_
  subst he
  exact ⟨_, rfl, _, _, _, [], _, [], hW', trodAll_mk1 (shut_bool Tryz.underlying4 _), (trodAll_cons_mk (Below.trod laidOut (by kernel_rfl) (of_decide_eq_true (by kernel_rfl)) k0 bel lt0) (trodAll_cons_mk (shut_int Tryz.underlying5 w1) trodAll_mk0)), rfl, bel.frame _, fun h => by cases h⟩

theorem over : Rows.lookRightRow.holds Tryz.pinned (OpenSpec.ofChange Rows.lookRightSpec) :=
  OpenClaim.holds_of_wide 4 Tryz.f4 rfl rfl rfl rfl rfl rfl rfl ⟨rfl, rfl, rfl, rfl, rfl⟩ rfl rfl rfl rfl rfl (by kernel_rfl) Tryz.func4 (by kernel_rfl)
    (of_decide_eq_true (by kernel_rfl)) (by unfold Func.isWrapper; first | (rw [if_pos (by decide +kernel)]; kernel_rfl) | (rw [if_neg (by decide +kernel)]; exact ⟨rfl, rfl⟩))
    (fun os started H enc _ => lifted os started H enc)

/-- The statement. -/
theorem proved : Rows.LookRightSaid := over
end Go.Proofs.YtecknikehieioaaGreat.lookRight
