/-
  Maps from numbers to pairs of functions. No condition.
-/
import Derived.Test.YtnijijcbdajodaaMsg
import Derived.Maps.Own
import Derived.Maps.OwnOps
import Derived.Maps.Views
namespace Go.Proofs.Ytnijijcbdajodaa
set_option linter.unusedVariables false
set_option linter.unusedSimpArgs false
open Go.RowKit Go.Maps

/-- A rule: two functions that capture nothing. -/
def ruleV (c : Nat) : Value := .agg #[.func (.func (c / 100000)) #[] #[], .func (.func (c % 100000)) #[] #[]]
def ruleFn : Value → Option Nat
  | .func (.func i) first cap => if first.size = 0 ∧ cap.size = 0 then some i else none
  | _ => none
theorem ruleFn_inv {v : Value} {i : Nat} (h : ruleFn v = some i) : v = .func (.func i) #[] #[] := by
  unfold ruleFn at h
  split at h
  · rename_i j first cap
    split at h
    · rename_i hc
      simp only [Option.some.injEq] at h
      subst h
      rw [Array.eq_empty_of_size_eq_zero hc.1, Array.eq_empty_of_size_eq_zero hc.2]
    · simp at h
  · simp at h
def rulePair : List Value → Option (DataW Unit × List MemPlace)
  | [a, b] => match ruleFn a, ruleFn b with
    | some i, some j => if j < 100000 then some (.lit (.int .i64 ((i * 100000 + j : Nat) : Int)), []) else none
    | _, _ => none
  | _ => none
def ruleR : Value → Option (DataW Unit × List MemPlace)
  | .agg cells => rulePair cells.toList
  | _ => none
theorem ruleR_mk (i j : Nat) (h : j < 100000) : ruleR (.agg #[.func (.func i) #[] #[], .func (.func j) #[] #[]]) = some (.lit (.int .i64 ((i * 100000 + j : Nat) : Int)), []) := by
  simp [ruleR, rulePair, ruleFn, h]
theorem ruleR_inv {v : Value} {c : Nat} {ps : List MemPlace} (h : ruleR v = some (.lit (.int .i64 (c : Int)), ps)) : v = ruleV c := by
  unfold ruleR at h
  split at h
  · rename_i cells
    unfold rulePair at h
    split at h
    · rename_i a b hl
      split at h
      · rename_i i j hi hj2
        split at h
        · rename_i hj
          simp only [Option.some.injEq, Prod.mk.injEq, DataW.lit.injEq, Lit.int.injEq, true_and] at h
          have e := h.1
          have e2 : i * 100000 + j = c := by omega
          subst e2
          unfold ruleV
          rw [show (i * 100000 + j) / 100000 = i from by omega, show (i * 100000 + j) % 100000 = j from by omega]
          have hc : cells = #[a, b] := by
            apply Array.ext'
            rw [hl]
          rw [hc, ruleFn_inv hi, ruleFn_inv hj2]
        · simp at h
      · simp at h
    · simp at h
  · simp at h

theorem intLaw : Keyed Try.prog 3 := int_keyed Try.underlying3
/-- Block b is a map of rules. -/
def RMap (w : World) (b n : Nat) (f : Int → Option Nat) : Prop :=
  ∃ D : DataW Unit, w.ownsMap Try.prog 3 ruleR b n D ∧ IsMap D ∧ ∀ k zd, D.atKey (.int .i64 k) zd = match f k with | some c => .lit (.int .i64 (c : Nat)) | none => zd
theorem RMap.made (w : World) : RMap (w.alloc (.map #[] 0)) w.heap.size 0 (fun _ => none) := by
  exact ⟨.map [], World.ownsMap_made _ _ _ _, isMap_empty, fun l zd => rfl⟩
theorem RMap.lt {w : World} {b n : Nat} {f : Int → Option Nat} (h : RMap w b n f) : b < w.heap.size := by obtain ⟨D, hD, _⟩ := h; exact hD.lt
theorem RMap.of_block {w w' : World} {b n : Nat} {f : Int → Option Nat} (h : RMap w b n f) (hb : w'.heap[b]? = w.heap[b]?) : RMap w' b n f := by
  obtain ⟨D, ⟨es, clock, h1, r⟩, h2⟩ := h
  exact ⟨D, ⟨es, clock, by rw [hb]; exact h1, r⟩, h2⟩
theorem RMap.on {w w' : World} {b n : Nat} {f : Int → Option Nat} (h : RMap w b n f) (hb : Below w.heap.size w w') : RMap w' b n f := h.of_block (hb.block b h.lt)
theorem RMap.store {w : World} {b n : Nat} {f : Int → Option Nat} (h : RMap w b n f) (k : Int) (hk : (Lit.int .i64 k).wf = true) (hn : n < maxLen) (i j : Nat) (hj : j < 100000) :
    ∃ w', (Instr.mapUpdate 56 (.map (some b)) (.int .i64 k) (.agg #[.func (.func i) #[] #[], .func (.func j) #[] #[]])).run Try.prog w = .ok () w' ∧ RMap w' b (n + 1) (fun q => if q = k then some (i * 100000 + j) else f q) ∧ Mod [b] w w' := by
  obtain ⟨D, hD, hm, hf⟩ := h
  obtain ⟨w', hrun, hown, hg⟩ := hD.update intLaw Try.underlying56 hn (keyOf_int_mk Try.underlying3 hk) (ruleR_mk i j hj)
  refine ⟨w', hrun, ⟨_, hown, hm.put _ _, fun q zd => ?_⟩, (Mod.refl _ _).grown hg (fun y hy => by cases hy; simp)⟩
  by_cases hq : q = k
  · subst hq
    simp only [if_pos]
    exact atKey_put_same (k := .int .i64 q) hm (show True from trivial) _ _
  · simp only [if_neg hq]
    rw [← hf q]
    exact atKey_put_other (by intro e; injection e with e1 e2; exact hq e2) _ _
theorem zeroRule (w : World) : (zeroValue 54).run Try.prog w = .ok (.agg #[.nilFunc, .nilFunc]) w := by kernel_rfl
theorem RMap.look {w : World} {b n : Nat} {f : Int → Option Nat} (h : RMap w b n f) (k : Int) (hk : (Lit.int .i64 k).wf = true) :
    (Instr.lookup 56 (.map (some b)) (.int .i64 k) true).run Try.prog w = .ok (match f k with | some c => .tuple #[ruleV c, .bool true] | none => .tuple #[.agg #[.nilFunc, .nilFunc], .bool false]) w := by
  obtain ⟨D, ⟨es, clock, hb, F, _, rfl⟩, hm, hf⟩ := h
  have hf := hf k
  rcases Maps.fit_look true intLaw Try.underlying56 (zeroRule w) hb F (keyOf_int_mk Try.underlying3 hk) with ⟨hrun, _, hat⟩ | ⟨e0, y, _, _, hrun, hRv, hat, _⟩
  · rw [hrun]
    cases hfk : f k with
    | none => rfl
    | some c =>
      rw [hfk] at hf
      have h1 := (hat (.lit (.bool true))).symm.trans (hf (.lit (.bool true)))
      simp at h1
  · rw [hrun]
    cases hfk : f k with
    | none =>
      rw [hfk] at hf
      have h1 := (hat (.lit (.bool true))).symm.trans (hf (.lit (.bool true)))
      have h2 := (hat (.lit (.bool false))).symm.trans (hf (.lit (.bool false)))
      rw [h1] at h2
      simp at h2
    | some c =>
      rw [hfk] at hf
      have h1 := (hat (.lit (.bool true))).symm.trans (hf (.lit (.bool true)))
      obtain ⟨y1, y2⟩ := y
      simp only at h1
      subst h1
      rw [ruleR_inv hRv]
      rfl
end Go.Proofs.Ytnijijcbdajodaa
