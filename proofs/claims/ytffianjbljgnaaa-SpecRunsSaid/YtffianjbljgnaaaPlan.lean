/-
  A region that draws its order, walked by a plan: at each step either an operation is taken that floats (it yields its value in every world that meets S), or the one that alone may come up comes up, and S stays. No program here. No condition.
-/
import Derived.Test.YtffianjbljgnaaaSettleF
namespace Go.Proofs.Ytffianjbljgnaaa
open Go
set_option linter.unusedVariables false
set_option linter.unusedSimpArgs false
section
variable {P : Program} {ops : Array Oper} {md : Region.Mode} {S : World → Prop}
/-- An operation comes up: S stays, and what follows holds. -/
def stepP (P : Program) (ops : Array Oper) (Q : Exit → Act → World → Prop) (S : World → Prop) (o : Oper) (K : Act → World → Prop) (a : Act) (w : World) : Prop :=
  if Region.wanted o (yielded ops a.tmps) = true then Oper.wp P o a w (fun a' w' => S w' ∧ K a' w') Q else K (a.put o.dst undef) w
/-- A plan: an operation is taken; one alone may come up; one of two may. -/
inductive Plan where
  | done
  | take (i : Nat) (o : Oper) (r : Plan)
  | one (i : Nat) (o : Oper) (r : Plan)
  | two (i : Nat) (o : Oper) (r : Plan) (j : Nat) (p : Oper) (s : Plan)
/-- The walk along a plan. -/
def wpPlan (P : Program) (ops : Array Oper) (Q : Exit → Act → World → Prop) (S : World → Prop) : Plan → Act → World → Prop
  | .done, a, w => Q .normal a w
  | .take _ o r, a, w => ∃ v, YieldsIf P ops S o v a ∧ wpPlan P ops Q S r (a.put o.dst v) w
  | .one _ o r, a, w => stepP P ops Q S o (wpPlan P ops Q S r) a w
  | .two _ o r _ p s, a, w => stepP P ops Q S o (wpPlan P ops Q S r) a w ∧ stepP P ops Q S p (wpPlan P ops Q S s) a w
/-- The indices of a plan. -/
inductive PlanI where
  | done
  | take (i : Nat) (r : PlanI)
  | one (i : Nat) (r : PlanI)
  | two (i : Nat) (r : PlanI) (j : Nat) (s : PlanI)
def PlanI.fill (l : List Oper) : PlanI → Plan
  | .done => .done
  | .take i r => .take i (l.getD i default) (r.fill l)
  | .one i r => .one i (l.getD i default) (r.fill l)
  | .two i r j s => .two i (l.getD i default) (r.fill l) j (l.getD j default) (s.fill l)
def planOk (md : Region.Mode) (ops : Array Oper) : PlanI → Nat → Array Bool → Bool
  | .done, n, listed => (n == 0) && Region.ready md ops listed == []
  | .take i r, n, listed => Nat.blt i ops.size && Nat.blt 0 n && (Region.ready md ops listed).contains i && Region.free md ops listed i && planOk md ops r (n - 1) (listed.setIfInBounds i true)
  | .one i r, n, listed => Nat.blt i ops.size && Nat.blt 0 n && Region.ready md ops listed == [i] && planOk md ops r (n - 1) (listed.setIfInBounds i true)
  | .two i r j s, n, listed => Nat.blt i ops.size && Nat.blt j ops.size && Nat.blt 0 n && Region.ready md ops listed == [i, j] && planOk md ops r (n - 1) (listed.setIfInBounds i true) && planOk md ops s (n - 1) (listed.setIfInBounds j true)
theorem wpOp_of_stepP {Q : Exit → Act → World → Prop} {i : Nat} {o : Oper} (hi : ops[i]? = some o) {K K' : Act → World → Prop} {a : Act} {w : World} (hS : S w) (hK : ∀ a' w', S w' → K a' w' → K' a' w') (h : stepP P ops Q S o K a w) : wpOp P ops Q i K' a w := by
  refine wpOp_mono (K := fun a' w' => S w' ∧ K a' w') (fun a' w' h' => hK a' w' h'.1 h'.2) ?_
  unfold wpOp
  simp only [hi]
  unfold stepP at h
  split
  · rename_i hw; simp only [hw, if_true] at h; exact .inl h
  · rename_i hw; simp only [hw, Bool.false_eq_true, if_false] at h; exact ⟨hS, h⟩
theorem getD_of {l : List Oper} {i : Nat} (h : Nat.blt i l.toArray.size = true) : l.toArray[i]? = some (l.getD i default) := by
  have h' : i < l.length := by simpa [Nat.blt_eq] using h
  simp [List.getD, List.getElem?_eq_getElem h']
theorem wpAnyW_of_plan {l : List Oper} {Q : Exit → Act → World → Prop} (hsel : ∀ (j : Nat) (o : Oper) cs b, l.toArray[j]? = some o → o.op ≠ .select cs b) (hQ : ∀ c a d v w, Q (.panic c) (Act.put a d v) w → Q (.panic c) a w) :
    ∀ (pl : PlanI) (n : Nat) (listed : Array Bool) (a : Act) (w : World), S w → Closed md l.toArray listed → planOk md l.toArray pl n listed = true →
    wpPlan P l.toArray Q S (pl.fill l) a w → wpAnyW P md l.toArray Q S (fun _ => false) n listed a w
  | .done, n, listed, a, w, _, _, hok, h => by
    simp only [planOk, Bool.and_eq_true, beq_iff_eq] at hok
    obtain ⟨rfl, hok⟩ := hok
    exact ⟨hok, h⟩
  | .take i r, n, listed, a, w, hS, hc, hok, h => by
    simp only [planOk, Bool.and_eq_true] at hok
    obtain ⟨⟨⟨⟨hl, hn⟩, hr⟩, hf⟩, hok⟩ := hok
    obtain ⟨v, hy, h⟩ := h
    have hi := getD_of hl
    have hr' : i ∈ Region.ready md l.toArray listed := by simpa using hr
    obtain ⟨m, rfl⟩ : ∃ m, n = m + 1 := ⟨n - 1, by have : 0 < n := by simpa [Nat.blt_eq] using hn
                                                   omega⟩
    rw [Nat.add_sub_cancel] at hok
    exact wpAnyW_first (n := 0) hi hsel (fun c a w => hQ c a _ _ w) (fun j hj => by cases hj) _ listed a w hc (Region.free_spec hi hf) hr' hy hS
      (wpAnyW_of_plan hsel hQ r m _ _ w hS (hc.set hr') hok h)
  | .one i r, n, listed, a, w, hS, hc, hok, h => by
    simp only [planOk, Bool.and_eq_true, beq_iff_eq] at hok
    obtain ⟨⟨⟨hl, hn⟩, hr⟩, hok⟩ := hok
    have hi := getD_of hl
    have hr' : i ∈ Region.ready md l.toArray listed := by rw [hr]; simp
    obtain ⟨m, rfl⟩ : ∃ m, n = m + 1 := ⟨n - 1, by have : 0 < n := by simpa [Nat.blt_eq] using hn
                                                   omega⟩
    rw [Nat.add_sub_cancel] at hok
    refine ⟨fun h0 => (by rw [hr] at h0; cases h0), fun j hj => ?_⟩
    rw [hr] at hj
    cases List.mem_singleton.1 hj
    exact wpOp_of_stepP hi hS (fun a' w' hS' hK => ⟨.inr hS', wpAnyW_of_plan hsel hQ r m _ a' w' hS' (hc.set hr') hok hK⟩) h
  | .two i r j s, n, listed, a, w, hS, hc, hok, h => by
    simp only [planOk, Bool.and_eq_true, beq_iff_eq] at hok
    obtain ⟨⟨⟨⟨⟨hl, hl2⟩, hn⟩, hr⟩, hok⟩, hok2⟩ := hok
    have hi := getD_of hl
    have hj := getD_of hl2
    have hr' : i ∈ Region.ready md l.toArray listed := by rw [hr]; simp
    have hr2 : j ∈ Region.ready md l.toArray listed := by rw [hr]; simp
    obtain ⟨m, rfl⟩ : ∃ m, n = m + 1 := ⟨n - 1, by have : 0 < n := by simpa [Nat.blt_eq] using hn
                                                   omega⟩
    rw [Nat.add_sub_cancel] at hok hok2
    refine ⟨fun h0 => (by rw [hr] at h0; cases h0), fun k hk => ?_⟩
    rw [hr] at hk
    rcases List.mem_cons.1 hk with rfl | hk
    · exact wpOp_of_stepP hi hS (fun a' w' hS' hK => ⟨.inr hS', wpAnyW_of_plan hsel hQ r m _ a' w' hS' (hc.set hr') hok hK⟩) h.1
    · cases List.mem_singleton.1 hk
      exact wpOp_of_stepP hj hS (fun a' w' hS' hK => ⟨.inr hS', wpAnyW_of_plan hsel hQ s m _ a' w' hS' (hc.set hr2) hok2 hK⟩) h.2
theorem wp_region_plan (pl : PlanI) {l : List Oper} {Q : Exit → Act → World → Prop} (S : World → Prop) {id : Nat} {a : Act} {w : World} (hm : P.follows .mixedOrders = true) (hs : Region.noSelect l.toArray = true)
    (hok : planOk .any l.toArray pl l.length (Array.replicate l.length false) = true)
    (hQ : ∀ c a d v w, Q (.panic c) (Act.put a d v) w → Q (.panic c) a w) (hS : S { w with drawn := w.drawn + 1 })
    (h : wpPlan P l.toArray Q S (pl.fill l) a { w with drawn := w.drawn + 1 }) : (Code.region id l.toArray true).wp P Q a w := by
  refine wp_region_any hm (wpAny_of_W (S := S) (W := fun _ => false) _ _ _ _ ?_)
  have := wpAnyW_of_plan (P := P) (md := .any) (S := S) (Q := Q) (Region.noSelect_spec hs) hQ pl l.length (Array.replicate l.length false) a { w with drawn := w.drawn + 1 } hS (Closed.start _) hok h
  simpa using this
variable {Q : Exit → Act → World → Prop} {i j : Nat} {o p : Oper} {r s : Plan} {v : Value} {a : Act} {w : World}
theorem plan_take (hw : Region.wanted o (yielded ops a.tmps) = true) (hv : ∀ w, S w → (execOp a.eval o).run P w = .ok (.value v) w)
    (h : wpPlan P ops Q S r (a.put o.dst v) w) : wpPlan P ops Q S (.take i o r) a w := ⟨v, .inl ⟨hw, hv⟩, h⟩
theorem plan_untaken (hw : Region.wanted o (yielded ops a.tmps) = false) (h : wpPlan P ops Q S r (a.put o.dst undef) w) : wpPlan P ops Q S (.take i o r) a w := ⟨undef, .inr ⟨hw, rfl⟩, h⟩
theorem stepP_on {K : Act → World → Prop} (hw : Region.wanted o (yielded ops a.tmps) = true)
    (h : ∀ K' : Act → World → Prop, Kept (∀ a w, S w → K a w → K' a w) → Oper.wp P o a w K' Q) : stepP P ops Q S o K a w := by
  unfold stepP
  rw [if_pos hw]
  exact h _ (fun _ _ h1 h2 => ⟨h1, h2⟩)
theorem stepP_off {K : Act → World → Prop} (hw : Region.wanted o (yielded ops a.tmps) = false) (h : K (a.put o.dst undef) w) : stepP P ops Q S o K a w := by
  unfold stepP
  rw [if_neg (by simp [hw])]
  exact h
theorem plan_step (hw : Region.wanted o (yielded ops a.tmps) = true)
    (h : ∀ K : Act → World → Prop, Kept (∀ a w, S w → wpPlan P ops Q S r a w → K a w) → Oper.wp P o a w K Q) : wpPlan P ops Q S (.one i o r) a w := stepP_on hw h
theorem plan_not (hw : Region.wanted o (yielded ops a.tmps) = false) (h : wpPlan P ops Q S r (a.put o.dst undef) w) : wpPlan P ops Q S (.one i o r) a w := stepP_off hw h
theorem plan_two (h1 : stepP P ops Q S o (wpPlan P ops Q S r) a w) (h2 : stepP P ops Q S p (wpPlan P ops Q S s) a w) : wpPlan P ops Q S (.two i o r j p s) a w := ⟨h1, h2⟩
theorem plan_done (h : Q .normal a w) : wpPlan P ops Q S .done a w := h
end
end Go.Proofs.Ytffianjbljgnaaa
