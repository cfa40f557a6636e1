/-
  A law for a region that draws its order: where each operation leaves one value in every world that meets S, and S stays, the order makes no difference. Condition: the operations are apart, or wait for one another.
-/
import Derived.OrdersHeld
namespace Go.Proofs.Ytffianjbljgnaaa
open Go
section
variable {P : Program} {ops : Array Oper} {md : Region.Mode} {S : World → Prop}

/-- In state 'a', in every world that meets S, operation 'o' leaves 'v' in its temporary, and a world that meets S. -/
def Settles (P : Program) (ops : Array Oper) (S : World → Prop) (o : Oper) (v : Value) (a : Act) : Prop :=
  (Region.wanted o (yielded ops a.tmps) = true ∧ ∀ w, S w → ∀ (b : Act) (K : Act → World → Prop) (Q : Exit → Act → World → Prop),
    (∀ w', S w' → K (b.put o.dst v) w') → o.upon P b K Q ((execOp a.eval o).run P w)) ∨
  (Region.wanted o (yielded ops a.tmps) = false ∧ v = undef)

theorem Settles.of_same {o : Oper} {v : Value} {a a' : Act} (hy : Settles P ops S o v a) (he : execOp a'.eval o = execOp a.eval o)
    (hw : Region.wanted o (yielded ops a'.tmps) = Region.wanted o (yielded ops a.tmps)) : Settles P ops S o v a' := by
  unfold Settles at *
  rw [he, hw]
  exact hy

theorem Settles.wpOp {Q : Exit → Act → World → Prop} {i : Nat} {o : Oper} {v : Value} {a : Act} (hi : ops[i]? = some o) (hy : Settles P ops S o v a)
    {K : Act → World → Prop} {w : World} (hS : S w) (h : ∀ w', S w' → K (a.put o.dst v) w') : wpOp P ops Q i K a w := by
  unfold Go.wpOp
  simp only [hi]
  rcases hy with ⟨hw, hv⟩ | ⟨hw, rfl⟩
  · simp only [hw, if_true, Oper.wp]; exact .inl (hv w hS a K Q h)
  · simp only [hw, Bool.false_eq_true, if_false]; exact h w hS

/-- One order in which all comes up and settles. -/
inductive Runs (P : Program) (md : Region.Mode) (ops : Array Oper) (S : World → Prop) : Nat → Array Bool → Act → Act → Prop
  | done {listed : Array Bool} {a : Act} : Region.ready md ops listed = [] → Runs P md ops S 0 listed a a
  | step {n i : Nat} {o : Oper} {v : Value} {listed : Array Bool} {a aF : Act} : ops[i]? = some o → i ∈ Region.ready md ops listed →
      (∀ j oj, ops[j]? = some oj → j ≠ i → listed.getD j true = false → (∀ e ∈ oj.after, Region.binds md e = true → e.on ≠ i) → o.apart ops oj = true) →
      Settles P ops S o v a → Runs P md ops S n (listed.setIfInBounds i true) (a.put o.dst v) aF → Runs P md ops S (n + 1) listed a aF

/-- Whatever may come up may come up first. -/
theorem Runs.move (hsel : ∀ (j : Nat) (o : Oper) cs b, ops[j]? = some o → o.op ≠ .select cs b) {n : Nat} {listed : Array Bool} {a aF : Act} (h : Runs P md ops S n listed a aF) :
    ∀ {j : Nat}, j ∈ Region.ready md ops listed → ∃ m o v, n = m + 1 ∧ ops[j]? = some o ∧ Settles P ops S o v a ∧ Runs P md ops S m (listed.setIfInBounds j true) (a.put o.dst v) aF := by
  induction h with
  | done hr => intro j hj; rw [hr] at hj; cases hj
  | @step n i o v listed a aF hi hin hfree hy hR ih =>
    intro j hj
    by_cases hji : j = i
    · subst hji; exact ⟨n, o, v, rfl, hi, hy, hR⟩
    · obtain ⟨m, oj, vj, rfl, hoj, hyj, hRj⟩ := ih (ready_mono hj hji)
      obtain ⟨hjun, oj', hoj', hall⟩ := mem_ready.1 hj
      rw [hoj] at hoj'
      cases hoj'
      have hnot : ∀ e ∈ oj.after, Region.binds md e = true → e.on ≠ i := fun e he hb heq => by
        have h1 := hall e he hb
        have h0 := (mem_ready.1 hin).1
        rw [heq] at h1
        rcases Nat.lt_or_ge i listed.size with h' | h'
        · simp [h'] at h0 h1; rw [h0] at h1; cases h1
        · simp [Array.getElem?_eq_none h'] at h1
      obtain ⟨h1, h2, h3⟩ := Oper.apart_spec (hfree j oj hoj hji hjun hnot)
      have hyj' : Settles P ops S oj vj a := hyj.of_same (execOp_put oj (fun cs b => hsel j oj cs b hoj) a o.dst v h1).symm (wanted_put oj a o.dst v h1).symm
      have hy' : Settles P ops S o v (a.put oj.dst vj) := hy.of_same (execOp_put o (fun cs b => hsel i o cs b hi) a oj.dst vj h3) (wanted_put o a oj.dst vj h3)
      refine ⟨m + 1, oj, vj, rfl, hoj, hyj', Runs.step hi (ready_mono hin (Ne.symm hji)) (fun k ok hk hki hun hno => ?_) hy' ?_⟩
      · refine hfree k ok hk hki ?_ hno
        by_cases hjk : j = k
        · subst hjk; exact hjun
        · rw [getD_set_ne true hjk] at hun; exact hun
      · rw [Array.setIfInBounds_comm _ _ hji, ← Act.put_comm a v vj h2]
        exact hRj

theorem wpAny_of_runs (hsel : ∀ (j : Nat) (o : Oper) cs b, ops[j]? = some o → o.op ≠ .select cs b) {Q : Exit → Act → World → Prop} :
    ∀ (n : Nat) (listed : Array Bool) (a aF : Act), Runs P md ops S n listed a aF → (∀ w, S w → Q .normal aF w) → ∀ w, S w → wpAny P md ops Q n listed a w
  | 0, listed, a, aF, h, hq, w, hS => by
    cases h with
    | done hr => exact ⟨hr, hq w hS⟩
  | n + 1, listed, a, aF, h, hq, w, hS => by
    refine ⟨fun hr => ?_, fun j hj => ?_⟩
    · cases h with
      | step _ hin _ _ _ => rw [hr] at hin; cases hin
    · obtain ⟨m, o, v, hm, ho, hy, hR⟩ := h.move hsel hj
      cases hm
      exact hy.wpOp ho hS fun w' hS' => wpAny_of_runs hsel n _ _ aF hR hq w' hS'

/-- May the operations come up in the text's order, each apart from what does not wait for it? -/
def inOrder (md : Region.Mode) (ops : Array Oper) : Nat → Nat → Array Bool → Bool
  | 0, _, listed => (Region.ready md ops listed).isEmpty
  | n + 1, k, listed => (Region.ready md ops listed).contains k && Region.free md ops listed k && inOrder md ops n (k + 1) (listed.setIfInBounds k true)

/-- The walk in the text's order. -/
def Settled (P : Program) (ops : Array Oper) (S : World → Prop) (Q : Act → Prop) : List Oper → Act → Prop
  | [], a => Q a
  | o :: rest, a => ∃ v, Settles P ops S o v a ∧ Settled P ops S Q rest (a.put o.dst v)

theorem runs_of {Q : Act → Prop} : ∀ (rest : List Oper) (k : Nat) (listed : Array Bool) (a : Act), ops.toList.drop k = rest → inOrder md ops rest.length k listed = true → Settled P ops S Q rest a →
    ∃ aF, Runs P md ops S rest.length listed a aF ∧ Q aF
  | [], k, listed, a, _, hc, h => ⟨a, .done (by simpa [inOrder] using hc), h⟩
  | o :: rest, k, listed, a, hd, hc, h => by
    obtain ⟨v, hy, h⟩ := h
    have hk : ops[k]? = some o := by
      have : (ops.toList.drop k)[0]? = some o := by rw [hd]; rfl
      rw [List.getElem?_drop] at this
      simpa using this
    have hd' : ops.toList.drop (k + 1) = rest := by rw [← List.drop_drop, hd]; rfl
    simp only [List.length_cons, inOrder, Bool.and_eq_true] at hc
    obtain ⟨⟨hr, hf⟩, hc⟩ := hc
    obtain ⟨aF, hR, hq⟩ := runs_of rest (k + 1) _ _ hd' hc h
    exact ⟨aF, .step hk (by simpa using hr) (Region.free_spec hk hf) hy hR, hq⟩

/-- A region whose operations settle. -/
theorem wp_region_settle {l : List Oper} {Q : Exit → Act → World → Prop} (S : World → Prop) {id : Nat} {a : Act} {w : World} (hm : P.follows .mixedOrders = true) (hs : Region.noSelect l.toArray = true)
    (hc : inOrder .any l.toArray l.length 0 (Array.replicate l.length false) = true) (hS : S { w with drawn := w.drawn + 1 })
    (h : Settled P l.toArray S (fun aF => ∀ w', S w' → Q .normal aF w') l a) : (Code.region id l.toArray true).wp P Q a w := by
  obtain ⟨aF, hR, hq⟩ := runs_of (ops := l.toArray) (P := P) (S := S) l 0 (Array.replicate l.length false) a (by simp) hc h
  exact wp_region_any hm (by
    have := wpAny_of_runs (Region.noSelect_spec hs) _ _ _ _ hR hq _ hS
    simpa using this)

variable {Q : Act → Prop} {o : Oper} {rest : List Oper} {v : Value} {a : Act}
theorem settled_val (hw : Region.wanted o (yielded ops a.tmps) = true) (hv : ∀ w, S w → (execOp a.eval o).run P w = .ok (.value v) w)
    (h : Settled P ops S Q rest (a.put o.dst v)) : Settled P ops S Q (o :: rest) a :=
  ⟨v, .inl ⟨hw, fun w hS b K Q hK => by rw [hv w hS]; exact hK w hS⟩, h⟩
theorem settled_call {f : FuncId} {args : Array Value} (hw : Region.wanted o (yielded ops a.tmps) = true) (he : ∀ w, S w → (execOp a.eval o).run P w = .ok (.enter f args) w)
    (hc : ∀ w, S w → Calls P f args w fun e w' => e = .returned v ∧ S w') (h : Settled P ops S Q rest (a.put o.dst v)) : Settled P ops S Q (o :: rest) a :=
  ⟨v, .inl ⟨hw, fun w hS b K Q hK => by rw [he w hS]; exact (hc w hS).mono fun e w' ⟨h1, h2⟩ => by subst h1; exact hK w' h2⟩, h⟩
theorem settled_not (hw : Region.wanted o (yielded ops a.tmps) = false) (h : Settled P ops S Q rest (a.put o.dst undef)) : Settled P ops S Q (o :: rest) a :=
  ⟨undef, .inr ⟨hw, rfl⟩, h⟩
theorem settled_nil (h : Q a) : Settled P ops S Q [] a := h
/-! ### A last operation, behind which S need not stay -/

/-- What is listed has what it waits for listed. -/
def Closed (md : Region.Mode) (ops : Array Oper) (listed : Array Bool) : Prop :=
  ∀ j o, ops[j]? = some o → listed.getD j false = true → ∀ e ∈ o.after, Region.binds md e = true → listed.getD e.on false = true
theorem Closed.start (n : Nat) : Closed md ops (Array.replicate n false) := by
  intro j o _ h
  rw [Array.getD_eq_getD_getElem?, Array.getElem?_replicate] at h
  split at h <;> simp at h
theorem Closed.set {listed : Array Bool} (h : Closed md ops listed) {i : Nat} (hi : i ∈ Region.ready md ops listed) : Closed md ops (listed.setIfInBounds i true) := by
  intro j o ho hj e he hb
  by_cases hij : i = j
  · subst hij
    obtain ⟨_, o', ho', hall⟩ := mem_ready.1 hi
    rw [ho] at ho'; cases ho'
    exact getD_set_true (hall e he hb)
  · rw [getD_set_ne false hij] at hj
    exact getD_set_true (h j o ho hj e he hb)
/-- Does somebody up to L wait for each that stands ahead of L? -/
def lastWaits (md : Region.Mode) (ops : Array Oper) (l0 : Array Bool) (L : Nat) : Bool :=
  (List.range L).all fun i => l0.getD i false || (List.range (L + 1)).any fun j => decide (i < j) && ((ops[j]?).map fun o => o.after.any fun e => Region.binds md e && e.on == i).getD false
/-- From L on each comes up alone, in the text's order. -/
def inSeq (md : Region.Mode) (ops : Array Oper) : Nat → Nat → Array Bool → Bool
  | 0, _, listed => Region.ready md ops listed == []
  | m + 1, L, listed => Region.ready md ops listed == [L] && inSeq md ops m (L + 1) (listed.setIfInBounds L true)
theorem all_listed {L : Nat} {l0 : Array Bool} (hw : lastWaits md ops l0 L = true) {listed : Array Bool} (hm : ∀ i, l0.getD i false = true → listed.getD i false = true) (hc : Closed md ops listed) (hL : L ∈ Region.ready md ops listed) : ∀ k i, i + k + 1 = L → listed.getD i false = true := by
  intro k
  induction k using Nat.strongRecOn with
  | _ k ih =>
    intro i hi
    have h1 := List.all_eq_true.1 hw i (List.mem_range.2 (by omega))
    rcases Bool.or_eq_true_iff.1 h1 with h1 | h1
    · exact hm i h1
    obtain ⟨j, hj, h2⟩ := List.any_eq_true.1 h1
    simp only [Bool.and_eq_true, decide_eq_true_eq] at h2
    obtain ⟨hij, h2⟩ := h2
    cases ho : ops[j]? with
    | none => rw [ho] at h2; simp at h2
    | some o =>
      rw [ho] at h2
      simp only [Option.map_some, Option.getD_some] at h2
      obtain ⟨e, he, h3⟩ := Array.any_eq_true'.1 h2
      simp only [Bool.and_eq_true, beq_iff_eq] at h3
      have hjL := List.mem_range.1 hj
      by_cases hjl : j = L
      · subst hjl
        obtain ⟨_, o', ho', hall⟩ := mem_ready.1 hL
        rw [ho] at ho'; cases ho'
        have := hall e he h3.1
        rw [h3.2] at this; exact this
      · have := hc j o ho (ih (L - j - 1) (by omega) j (by omega)) e he h3.1
        rw [h3.2] at this; exact this

inductive RunsL (P : Program) (md : Region.Mode) (ops : Array Oper) (S : World → Prop) (L m : Nat) : Nat → Array Bool → Act → Act → Prop
  | done {listed : Array Bool} {a : Act} : inSeq md ops m L listed = true → RunsL P md ops S L m 0 listed a a
  | step {n i : Nat} {o : Oper} {v : Value} {listed : Array Bool} {a aF : Act} : i < L → ops[i]? = some o → i ∈ Region.ready md ops listed →
      (∀ j oj, ops[j]? = some oj → j ≠ i → listed.getD j true = false → (∀ e ∈ oj.after, Region.binds md e = true → e.on ≠ i) → o.apart ops oj = true) →
      Settles P ops S o v a → RunsL P md ops S L m n (listed.setIfInBounds i true) (a.put o.dst v) aF → RunsL P md ops S L m (n + 1) listed a aF

theorem inSeq_ready {m L : Nat} {listed : Array Bool} (h : inSeq md ops m L listed = true) {j : Nat} (hj : j ∈ Region.ready md ops listed) : j = L := by
  cases m with
  | zero => simp only [inSeq, beq_iff_eq] at h; rw [h] at hj; cases hj
  | succ m => simp only [inSeq, Bool.and_eq_true, beq_iff_eq] at h; rw [h.1] at hj; exact List.mem_singleton.1 hj

theorem RunsL.move {L m₀ : Nat} (hsel : ∀ (j : Nat) (o : Oper) cs b, ops[j]? = some o → o.op ≠ .select cs b) {n : Nat} {listed : Array Bool} {a aF : Act} (h : RunsL P md ops S L m₀ n listed a aF) :
    ∀ {j : Nat}, j < L → j ∈ Region.ready md ops listed → ∃ m o v, n = m + 1 ∧ ops[j]? = some o ∧ Settles P ops S o v a ∧ RunsL P md ops S L m₀ m (listed.setIfInBounds j true) (a.put o.dst v) aF := by
  induction h with
  | done hr => intro j hL hj; have := inSeq_ready hr hj; omega
  | @step n i o v listed a aF hiL hi hin hfree hy hR ih =>
    intro j hjL hj
    by_cases hji : j = i
    · subst hji; exact ⟨n, o, v, rfl, hi, hy, hR⟩
    · obtain ⟨m, oj, vj, rfl, hoj, hyj, hRj⟩ := ih hjL (ready_mono hj hji)
      obtain ⟨hjun, oj', hoj', hall⟩ := mem_ready.1 hj
      rw [hoj] at hoj'
      cases hoj'
      have hnot : ∀ e ∈ oj.after, Region.binds md e = true → e.on ≠ i := fun e he hb heq => by
        have h1 := hall e he hb
        have h0 := (mem_ready.1 hin).1
        rw [heq] at h1
        rcases Nat.lt_or_ge i listed.size with h' | h'
        · simp [h'] at h0 h1; rw [h0] at h1; cases h1
        · simp [Array.getElem?_eq_none h'] at h1
      obtain ⟨h1, h2, h3⟩ := Oper.apart_spec (hfree j oj hoj hji hjun hnot)
      have hyj' : Settles P ops S oj vj a := hyj.of_same (execOp_put oj (fun cs b => hsel j oj cs b hoj) a o.dst v h1).symm (wanted_put oj a o.dst v h1).symm
      have hy' : Settles P ops S o v (a.put oj.dst vj) := hy.of_same (execOp_put o (fun cs b => hsel i o cs b hi) a oj.dst vj h3) (wanted_put o a oj.dst vj h3)
      refine ⟨m + 1, oj, vj, rfl, hoj, hyj', RunsL.step hiL hi (ready_mono hin (Ne.symm hji)) (fun k ok hk hki hun hno => ?_) hy' ?_⟩
      · refine hfree k ok hk hki ?_ hno
        by_cases hjk : j = k
        · subst hjk; exact hjun
        · rw [getD_set_ne true hjk] at hun; exact hun
      · rw [Array.setIfInBounds_comm _ _ hji, ← Act.put_comm a v vj h2]
        exact hRj

/-- The operations of a list, one behind the other. -/
def wpSeq (P : Program) (ops : Array Oper) (Q : Exit → Act → World → Prop) : List Oper → Act → World → Prop
  | [], a, w => Q .normal a w
  | o :: rest, a, w => if Region.wanted o (yielded ops a.tmps) = true then Oper.wp P o a w (wpSeq P ops Q rest) Q else wpSeq P ops Q rest (a.put o.dst undef) w
theorem wpAny_of_seq {Q : Exit → Act → World → Prop} : ∀ (rest : List Oper) (L : Nat) (listed : Array Bool) (a : Act) (w : World), ops.toList.drop L = rest → inSeq md ops rest.length L listed = true →
    wpSeq P ops Q rest a w → wpAny P md ops Q rest.length listed a w
  | [], L, listed, a, w, _, hs, h => by simp only [List.length_nil, inSeq, beq_iff_eq] at hs; exact ⟨hs, h⟩
  | o :: rest, L, listed, a, w, hd, hs, h => by
    simp only [List.length_cons, inSeq, Bool.and_eq_true, beq_iff_eq] at hs
    have hk : ops[L]? = some o := by
      have : (ops.toList.drop L)[0]? = some o := by rw [hd]; rfl
      rw [List.getElem?_drop] at this
      simpa using this
    have hd' : ops.toList.drop (L + 1) = rest := by rw [← List.drop_drop, hd]; rfl
    refine ⟨fun h0 => (by rw [hs.1] at h0; cases h0), fun j hj => ?_⟩
    rw [hs.1] at hj
    cases List.mem_singleton.1 hj
    refine wpOp_mono (fun a' w' h' => wpAny_of_seq rest (L + 1) _ a' w' hd' hs.2 h') ?_
    unfold wpOp
    simp only [hk]
    unfold wpSeq at h
    split
    · rename_i hw; simp only [hw, if_true] at h; exact .inl h
    · rename_i hw; simp only [hw, Bool.false_eq_true, if_false] at h; exact h

theorem wpAny_of_runsL {L : Nat} {l0 : Array Bool} {rest : List Oper} (hsel : ∀ (j : Nat) (o : Oper) cs b, ops[j]? = some o → o.op ≠ .select cs b) (hd : ops.toList.drop L = rest)
    (hw : ∀ j, L ≤ j → j < ops.size → lastWaits md ops l0 j = true) {Q : Exit → Act → World → Prop} :
    ∀ (n : Nat) (listed : Array Bool) (a aF : Act), (∀ i, l0.getD i false = true → listed.getD i false = true) → Closed md ops listed → RunsL P md ops S L rest.length n listed a aF → (∀ w, S w → wpSeq P ops Q rest aF w) → ∀ w, S w → wpAny P md ops Q (n + rest.length) listed a w
  | 0, listed, a, aF, _, _, h, hq, w, hS => by
    cases h with
    | done hr => rw [Nat.zero_add]; exact wpAny_of_seq rest L listed a w hd hr (hq w hS)
  | n + 1, listed, a, aF, hm, hc, h, hq, w, hS => by
    rw [Nat.add_right_comm]
    refine ⟨fun hr => ?_, fun j hj => ?_⟩
    · cases h with
      | step _ _ hin _ _ _ => rw [hr] at hin; cases hin
    · by_cases hjL : j < L
      · obtain ⟨m, o, v, hmm, ho, hy, hR⟩ := h.move hsel hjL hj
        cases hmm
        exact hy.wpOp ho hS fun w' hS' => wpAny_of_runsL hsel hd hw n _ _ aF (fun i h => getD_set_true (hm i h)) (hc.set hj) hR hq w' hS'
      · obtain ⟨_, oj, hoj, _⟩ := mem_ready.1 hj
        have hjs := (Array.getElem?_eq_some_iff.1 hoj).1
        cases h with
        | @step _ i _ _ _ _ _ hiL _ hin _ _ _ =>
          have h1 := all_listed (hw j (by omega) hjs) hm hc hj (j - i - 1) i (by omega)
          have h0 := (mem_ready.1 hin).1
          rcases Nat.lt_or_ge i listed.size with h' | h'
          · simp [h'] at h0 h1; rw [h0] at h1; cases h1
          · simp [Array.getElem?_eq_none h'] at h1

def inOrderL (md : Region.Mode) (ops : Array Oper) (L m : Nat) : Nat → Nat → Array Bool → Bool
  | 0, k, listed => k == L && inSeq md ops m L listed
  | n + 1, k, listed => decide (k < L) && (Region.ready md ops listed).contains k && Region.free md ops listed k && inOrderL md ops L m n (k + 1) (listed.setIfInBounds k true)
/-- The walk in the text's order of the first n. -/
def SettledL (P : Program) (ops : Array Oper) (S : World → Prop) (Q : List Oper → Act → Prop) : Nat → List Oper → Act → Prop
  | 0, rest, a => Q rest a
  | _ + 1, [], _ => False
  | n + 1, o :: rest, a => ∃ v, Settles P ops S o v a ∧ SettledL P ops S Q n rest (a.put o.dst v)
theorem runsL_of {L m : Nat} {Q : List Oper → Act → Prop} : ∀ (n : Nat) (rest : List Oper) (k : Nat) (listed : Array Bool) (a : Act), ops.toList.drop k = rest → inOrderL md ops L m n k listed = true → SettledL P ops S Q n rest a →
    ∃ aF, RunsL P md ops S L m n listed a aF ∧ Q (ops.toList.drop L) aF
  | 0, rest, k, listed, a, hd, hc, h => by
    simp only [inOrderL, Bool.and_eq_true, beq_iff_eq] at hc
    obtain ⟨rfl, hc⟩ := hc
    exact ⟨a, .done hc, by rw [hd]; exact h⟩
  | n + 1, [], k, listed, a, hd, hc, h => h.elim
  | n + 1, o :: rest, k, listed, a, hd, hc, h => by
    obtain ⟨v, hy, h⟩ := h
    have hk : ops[k]? = some o := by
      have : (ops.toList.drop k)[0]? = some o := by rw [hd]; rfl
      rw [List.getElem?_drop] at this
      simpa using this
    have hd' : ops.toList.drop (k + 1) = rest := by rw [← List.drop_drop, hd]; rfl
    simp only [inOrderL, Bool.and_eq_true, decide_eq_true_eq] at hc
    obtain ⟨⟨⟨hkL, hr⟩, hf⟩, hc⟩ := hc
    obtain ⟨aF, hR, hq⟩ := runsL_of n rest (k + 1) _ _ hd' hc h
    exact ⟨aF, .step hkL hk (by simpa using hr) (Region.free_spec hk hf) hy hR, hq⟩

/-- A region whose first L operations settle; the others come up alone behind them, one behind the other. -/
theorem wp_region_settle_then (L : Nat) {l : List Oper} {Q : Exit → Act → World → Prop} (S : World → Prop) {id : Nat} {a : Act} {w : World} (hm : P.follows .mixedOrders = true) (hs : Region.noSelect l.toArray = true)
    (hc : inOrderL .any l.toArray L (l.length - L) L 0 (Array.replicate l.length false) = true) (hL : decide (L ≤ l.length) = true) (hw : ((List.range l.length).all fun j => decide (j < L) || lastWaits .any l.toArray (Array.replicate l.length false) j) = true) (hS : S { w with drawn := w.drawn + 1 })
    (h : SettledL P l.toArray S (fun rest aF => ∀ w', S w' → wpSeq P l.toArray Q rest aF w') L l a) : (Code.region id l.toArray true).wp P Q a w := by
  obtain ⟨aF, hR, hq⟩ := runsL_of (ops := l.toArray) (P := P) (S := S) L l 0 (Array.replicate l.length false) a (by simp) hc h
  have hLn : L ≤ l.length := by simpa using hL
  have hlen : (l.toArray.toList.drop L).length = l.length - L := by simp
  refine wp_region_any hm ?_
  have := wpAny_of_runsL (ops := l.toArray) (P := P) (S := S) (Region.noSelect_spec hs) rfl (fun j h1 h2 => by
    have := List.all_eq_true.1 hw j (List.mem_range.2 (by simpa using h2))
    simp only [Bool.or_eq_true, decide_eq_true_eq] at this
    exact this.resolve_left (by omega)) L _ _ _ (fun _ h => h) (Closed.start _) (by rw [hlen]; exact hR) (fun w hS => hq w hS) _ hS
  rw [hlen, show L + (l.length - L) = l.length by omega] at this
  simpa using this

/-- The same, where operation number 0 yields its value in whatever world, and is taken first. -/
theorem wp_region_settle_take (L : Nat) {o0 : Oper} {v0 : Value} {l : List Oper} {Q : Exit → Act → World → Prop} (S : World → Prop) {id : Nat} {a : Act} {w : World} (hm : P.follows .mixedOrders = true) (hs : Region.noSelect (o0 :: l).toArray = true)
    (h0 : Region.free .any (o0 :: l).toArray (Array.replicate (l.length + 1) false) 0 = true) (h1 : (Region.ready .any (o0 :: l).toArray (Array.replicate (l.length + 1) false)).contains 0 = true)
    (hc : inOrderL .any (o0 :: l).toArray (L + 1) (l.length - L) L 1 ((Array.replicate (l.length + 1) false).setIfInBounds 0 true) = true) (hL : decide (L ≤ l.length) = true)
    (hw : ((List.range (l.length + 1)).all fun j => decide (j < L + 1) || lastWaits .any (o0 :: l).toArray ((Array.replicate (l.length + 1) false).setIfInBounds 0 true) j) = true) (hS : S { w with drawn := w.drawn + 1 })
    (hQ : ∀ c a w, Q (.panic c) (a.put o0.dst v0) w → Q (.panic c) a w) (hy0 : Region.wanted o0 (yielded (o0 :: l).toArray a.tmps) = true) (hy : ∀ w, (execOp a.eval o0).run P w = .ok (.value v0) w)
    (h : SettledL P (o0 :: l).toArray S (fun rest aF => ∀ w', S w' → wpSeq P (o0 :: l).toArray Q rest aF w') L l (a.put o0.dst v0)) : (Code.region id (o0 :: l).toArray true).wp P Q a w := by
  obtain ⟨aF, hR, hq⟩ := runsL_of (ops := (o0 :: l).toArray) (P := P) (S := S) L l 1 ((Array.replicate (l.length + 1) false).setIfInBounds 0 true) (a.put o0.dst v0) (by simp) hc h
  have hLn : L ≤ l.length := by simpa using hL
  have hlen : ((o0 :: l).toArray.toList.drop (L + 1)).length = l.length - L := by simp
  refine wp_region_any hm ?_
  have hr0 : (Region.ready .any (o0 :: l).toArray (Array.replicate (l.length + 1) false)).contains 0 = true := h1
  have := wpAny_of_runsL (ops := (o0 :: l).toArray) (P := P) (S := S) (L := L + 1) (Region.noSelect_spec hs) rfl (fun j h1 h2 => by
    have := List.all_eq_true.1 hw j (List.mem_range.2 (by simpa using h2))
    simp only [Bool.or_eq_true, decide_eq_true_eq] at this
    exact this.resolve_left (by omega)) L _ _ _ (fun _ h => h) ((Closed.start _).set (by simpa using hr0)) (by rw [hlen]; exact hR) (fun w hS => hq w hS) _ hS
  rw [hlen, show L + (l.length - L) = l.length by omega] at this
  have h3 := wpAny_take (ops := (o0 :: l).toArray) (P := P) (md := .any) (i := 0) (oi := o0) (v := v0) (fuel := l.length) (a := a) (by simp) hs h0 h1 hQ (.inl ⟨hy0, hy⟩) this
  simpa using h3

/-- A hypothesis that no tactic looks into till it is opened. -/
def Kept (p : Prop) : Prop := p
theorem Kept.out {p : Prop} (h : Kept p) : p := h
theorem seq_step {Q : Exit → Act → World → Prop} {o : Oper} {rest : List Oper} {a : Act} {w : World} (hw : Region.wanted o (yielded ops a.tmps) = true)
    (h : ∀ K : Act → World → Prop, Kept (∀ a w, wpSeq P ops Q rest a w → K a w) → Oper.wp P o a w K Q) : wpSeq P ops Q (o :: rest) a w := by
  unfold wpSeq
  rw [if_pos hw]
  exact h _ (fun _ _ h => h)
theorem seq_not {Q : Exit → Act → World → Prop} {o : Oper} {rest : List Oper} {a : Act} {w : World} (hw : Region.wanted o (yielded ops a.tmps) = false) (h : wpSeq P ops Q rest (a.put o.dst undef) w) : wpSeq P ops Q (o :: rest) a w := by
  unfold wpSeq
  rw [if_neg (by simp [hw])]
  exact h
theorem seq_nil {Q : Exit → Act → World → Prop} {a : Act} {w : World} (h : Q .normal a w) : wpSeq P ops Q [] a w := h

variable {QL : List Oper → Act → Prop} {n : Nat}
theorem settledL_val (hw : Region.wanted o (yielded ops a.tmps) = true) (hv : ∀ w, S w → (execOp a.eval o).run P w = .ok (.value v) w)
    (h : SettledL P ops S QL n rest (a.put o.dst v)) : SettledL P ops S QL (n + 1) (o :: rest) a :=
  ⟨v, .inl ⟨hw, fun w hS b K Q hK => by rw [hv w hS]; exact hK w hS⟩, h⟩
theorem settledL_call {f : FuncId} {args : Array Value} (hw : Region.wanted o (yielded ops a.tmps) = true) (he : ∀ w, S w → (execOp a.eval o).run P w = .ok (.enter f args) w)
    (hc : ∀ w, S w → Calls P f args w fun e w' => e = .returned v ∧ S w') (h : SettledL P ops S QL n rest (a.put o.dst v)) : SettledL P ops S QL (n + 1) (o :: rest) a :=
  ⟨v, .inl ⟨hw, fun w hS b K Q hK => by rw [he w hS]; exact (hc w hS).mono fun e w' ⟨h1, h2⟩ => by subst h1; exact hK w' h2⟩, h⟩
theorem settledL_not (hw : Region.wanted o (yielded ops a.tmps) = false) (h : SettledL P ops S QL n rest (a.put o.dst undef)) : SettledL P ops S QL (n + 1) (o :: rest) a :=
  ⟨undef, .inr ⟨hw, rfl⟩, h⟩
theorem settledL_end (h : QL rest a) : SettledL P ops S QL 0 rest a := h
/-! ### What floats is taken first, under a condition that the others keep as long as it floats -/

/-- Does j wait for i? -/
def waitsOn (md : Region.Mode) (ops : Array Oper) (i : Nat) : Nat → Nat → Bool
  | 0, _ => false
  | n + 1, j => ((ops[j]?).map fun o => o.after.any fun e => Region.binds md e && (e.on == i || waitsOn md ops i n e.on)).getD false
theorem waitsOn_listed {i : Nat} {listed : Array Bool} (hc : Closed md ops listed) : ∀ (n j : Nat), waitsOn md ops i n j = true → listed.getD j false = true → listed.getD i false = true
  | 0, _, h, _ => by simp [waitsOn] at h
  | n + 1, j, h, hj => by
    unfold waitsOn at h
    cases ho : ops[j]? with
    | none => rw [ho] at h; simp at h
    | some o =>
      rw [ho] at h
      simp only [Option.map_some, Option.getD_some] at h
      obtain ⟨e, he, h3⟩ := Array.any_eq_true'.1 h
      simp only [Bool.and_eq_true, Bool.or_eq_true, beq_iff_eq] at h3
      have hl := hc j o ho hj e he h3.1
      rcases h3.2 with h4 | h4
      · rw [h4] at hl; exact hl
      · exact waitsOn_listed hc n e.on h4 hl
theorem waitsOn_ready {i : Nat} {listed : Array Bool} (hc : Closed md ops listed) {n j : Nat} (h : waitsOn md ops i n j = true) (hj : j ∈ Region.ready md ops listed) : listed.getD i false = true := by
  cases n with
  | zero => simp [waitsOn] at h
  | succ n =>
    unfold waitsOn at h
    obtain ⟨_, o, ho, hall⟩ := mem_ready.1 hj
    rw [ho] at h
    simp only [Option.map_some, Option.getD_some] at h
    obtain ⟨e, he, h3⟩ := Array.any_eq_true'.1 h
    simp only [Bool.and_eq_true, Bool.or_eq_true, beq_iff_eq] at h3
    have hl := hall e he h3.1
    rcases h3.2 with h4 | h4
    · rw [h4] at hl; exact hl
    · exact waitsOn_listed hc n e.on h4 hl

def wpAnyW (P : Program) (md : Region.Mode) (ops : Array Oper) (Q : Exit → Act → World → Prop) (S : World → Prop) (W : Nat → Bool) : Nat → Array Bool → Act → World → Prop
  | 0, listed, a, w => Region.ready md ops listed = [] ∧ Q .normal a w
  | fuel + 1, listed, a, w =>
    (Region.ready md ops listed = [] → Q .normal a w) ∧
    ∀ i ∈ Region.ready md ops listed, wpOp P ops Q i (fun a' w' => (W i = true ∨ S w') ∧ wpAnyW P md ops Q S W fuel (listed.setIfInBounds i true) a' w') a w
theorem wpAny_of_W {Q : Exit → Act → World → Prop} {W : Nat → Bool} : ∀ (fuel : Nat) (listed : Array Bool) (a : Act) (w : World), wpAnyW P md ops Q S W fuel listed a w → wpAny P md ops Q fuel listed a w
  | 0, _, _, _, h => h
  | fuel + 1, _, _, _, h => ⟨h.1, fun i hi => wpOp_mono (fun a' w' h' => wpAny_of_W fuel _ a' w' h'.2) (h.2 i hi)⟩

theorem wpAnyW_first {Q : Exit → Act → World → Prop} {W : Nat → Bool} {i n : Nat} {oi : Oper} {v : Value} (hi : ops[i]? = some oi) (hsel : ∀ (j : Nat) (o : Oper) cs b, ops[j]? = some o → o.op ≠ .select cs b)
    (hQ : ∀ c a w, Q (.panic c) (a.put oi.dst v) w → Q (.panic c) a w) (hW : ∀ j, W j = true → waitsOn md ops i n j = true) :
    ∀ (fuel : Nat) (listed : Array Bool) (a : Act) (w : World), Closed md ops listed →
      (∀ j oj, ops[j]? = some oj → j ≠ i → listed.getD j true = false → (∀ e ∈ oj.after, Region.binds md e = true → e.on ≠ i) → oi.apart ops oj = true) →
      i ∈ Region.ready md ops listed → YieldsIf P ops S oi v a → S w →
      wpAnyW P md ops Q S W fuel (listed.setIfInBounds i true) (a.put oi.dst v) w → wpAnyW P md ops Q S W (fuel + 1) listed a w := by
  intro fuel
  induction fuel with
  | zero =>
    intro listed a w _ _ hr hy hS H
    refine ⟨fun h => (by rw [h] at hr; cases hr), fun j hj => ?_⟩
    by_cases hji : j = i
    · subst hji; exact hy.wpOp hi hS ⟨.inr hS, H⟩
    · have := ready_mono hj hji
      rw [H.1] at this
      cases this
  | succ fuel ih =>
    intro listed a w hc hfree hr hy hS H
    refine ⟨fun h => (by rw [h] at hr; cases hr), fun j hj => ?_⟩
    by_cases hji : j = i
    · subst hji; exact hy.wpOp hi hS ⟨.inr hS, H⟩
    · have h1 := H.2 j (ready_mono hj hji)
      obtain ⟨hjun, oj, hoj, hall⟩ := mem_ready.1 hj
      have hiun := (mem_ready.1 hr).1
      have hno : listed.getD i false = true → False := fun h1 => by
        rcases Nat.lt_or_ge i listed.size with h' | h'
        · simp [h'] at hiun h1; rw [hiun] at h1; cases h1
        · simp [Array.getElem?_eq_none h'] at h1
      have hnot : ∀ e ∈ oj.after, Region.binds md e = true → e.on ≠ i := fun e he hb heq => by
        have h1 := hall e he hb
        rw [heq] at h1
        exact hno h1
      have h2 := wpOp_putIf hoj (hfree j oj hoj hji hjun hnot) (fun cs b => hsel i oi cs b hi) (fun cs b => hsel j oj cs b hoj) hQ hy h1
      have hfree' : ∀ k ok, ops[k]? = some ok → k ≠ i → (listed.setIfInBounds j true).getD k true = false →
          (∀ e ∈ ok.after, Region.binds md e = true → e.on ≠ i) → oi.apart ops ok = true := fun k ok hk hki hun hno => by
        refine hfree k ok hk hki ?_ hno
        by_cases hjk : j = k
        · subst hjk; exact hjun
        · rw [getD_set_ne true hjk] at hun; exact hun
      refine wpOp_mono (fun a' w' h3 => ?_) h2
      have hSw : S w' := by
        rcases h3.2.1 with h | h
        · exact (hno (waitsOn_ready hc (hW j h) hj)).elim
        · exact h
      refine ⟨.inr hSw, ih (listed.setIfInBounds j true) a' w' (hc.set hj) hfree' (ready_mono hr (Ne.symm hji)) h3.1 hSw ?_⟩
      rw [Array.setIfInBounds_comm _ _ hji]
      exact h3.2.2

/-- Operations of a region, one behind the other; behind each that others may still float past, S. -/
def wpSeqW (P : Program) (ops : Array Oper) (Q : Exit → Act → World → Prop) (S : World → Prop) (W : Nat → Bool) : List (Nat × Oper) → Act → World → Prop
  | [], a, w => Q .normal a w
  | (i, o) :: rest, a, w => if Region.wanted o (yielded ops a.tmps) = true then Oper.wp P o a w (fun a' w' => (W i = true ∨ S w') ∧ wpSeqW P ops Q S W rest a' w') Q else (W i = true ∨ S w) ∧ wpSeqW P ops Q S W rest (a.put o.dst undef) w
def inSeqL (md : Region.Mode) (ops : Array Oper) : List Nat → Array Bool → Bool
  | [], listed => Region.ready md ops listed == []
  | i :: rest, listed => Region.ready md ops listed == [i] && inSeqL md ops rest (listed.setIfInBounds i true)
theorem wpAnyW_of_seq {Q : Exit → Act → World → Prop} {W : Nat → Bool} : ∀ (rest : List (Nat × Oper)) (listed : Array Bool) (a : Act) (w : World), (∀ p ∈ rest, ops[p.1]? = some p.2) → inSeqL md ops (rest.map (·.1)) listed = true →
    wpSeqW P ops Q S W rest a w → wpAnyW P md ops Q S W rest.length listed a w
  | [], listed, a, w, _, hs, h => by simp only [List.map_nil, inSeqL, beq_iff_eq] at hs; exact ⟨hs, h⟩
  | (i, o) :: rest, listed, a, w, hd, hs, h => by
    simp only [List.map_cons, inSeqL, Bool.and_eq_true, beq_iff_eq] at hs
    have hk : ops[i]? = some o := hd (i, o) (by simp)
    refine ⟨fun h0 => (by rw [hs.1] at h0; cases h0), fun j hj => ?_⟩
    rw [hs.1] at hj
    cases List.mem_singleton.1 hj
    refine wpOp_mono (K := fun a' w' => (W i = true ∨ S w') ∧ wpSeqW P ops Q S W rest a' w') (fun a' w' h' => ⟨h'.1, wpAnyW_of_seq rest _ a' w' (fun p hp => hd p (by simp [hp])) hs.2 h'.2⟩) ?_
    unfold wpOp
    simp only [hk]
    unfold wpSeqW at h
    split
    · rename_i hw; simp only [hw, if_true] at h; exact .inl h
    · rename_i hw; simp only [hw, Bool.false_eq_true, if_false] at h; exact h
/-- Operations that are taken first. -/
def wpTakes (P : Program) (ops : Array Oper) (S : World → Prop) (K : Act → Prop) : List (Nat × Oper) → Act → Prop
  | [], a => K a
  | (_, o) :: rest, a => ∃ v, YieldsIf P ops S o v a ∧ wpTakes P ops S K rest (a.put o.dst v)
def takesOk (md : Region.Mode) (ops : Array Oper) (W : List Nat) (sq : List Nat) : List Nat → Array Bool → Bool
  | [], listed => inSeqL md ops sq listed
  | i :: rest, listed => (Region.ready md ops listed).contains i && Region.free md ops listed i && W.all (fun j => waitsOn md ops i ops.size j) && takesOk md ops W sq rest (listed.setIfInBounds i true)
theorem wpAnyW_of_takes {Q : Exit → Act → World → Prop} {W : List Nat} {sq : List (Nat × Oper)} (hsel : ∀ (j : Nat) (o : Oper) cs b, ops[j]? = some o → o.op ≠ .select cs b) (hQ : ∀ c a d v w, Q (.panic c) (Act.put a d v) w → Q (.panic c) a w)
    (hsq : ∀ p ∈ sq, ops[p.1]? = some p.2) {w : World} (hS : S w) : ∀ (tk : List (Nat × Oper)) (listed : Array Bool) (a : Act), Closed md ops listed → (∀ p ∈ tk, ops[p.1]? = some p.2) → takesOk md ops W (sq.map (·.1)) (tk.map (·.1)) listed = true →
    wpTakes P ops S (fun a => wpSeqW P ops Q S (fun j => W.contains j) sq a w) tk a → wpAnyW P md ops Q S (fun j => W.contains j) (tk.length + sq.length) listed a w
  | [], listed, a, _, _, hok, h => by rw [List.length_nil, Nat.zero_add]; exact wpAnyW_of_seq sq listed a w hsq hok h
  | (i, o) :: tk, listed, a, hc, htk, hok, h => by
    simp only [List.map_cons, takesOk, Bool.and_eq_true] at hok
    obtain ⟨⟨⟨hr, hf⟩, hw⟩, hok⟩ := hok
    obtain ⟨v, hy, h⟩ := h
    have hi : ops[i]? = some o := htk (i, o) (by simp)
    have hr' : i ∈ Region.ready md ops listed := by simpa using hr
    rw [show ((i, o) :: tk).length + sq.length = (tk.length + sq.length) + 1 by simp only [List.length_cons]; omega]
    exact wpAnyW_first (n := ops.size) hi hsel (fun c a w => hQ c a _ _ w) (fun j hj => List.all_eq_true.1 hw j (by simpa using hj)) _ listed a w hc (Region.free_spec hi hf) hr' hy hS
      (wpAnyW_of_takes hsel hQ hsq hS tk _ _ (hc.set hr') (fun p hp => htk p (by simp [hp])) hok h)

def pick (l : List Oper) (ix : List Nat) : List (Nat × Oper) := ix.map fun i => (i, l.getD i default)
/-- A region of which some operations (tk) float, and yield their values in every world that meets S, the others (sq) come up one behind the other: S stays behind each of them but those of W, which wait for all that float. -/
theorem wp_region_float (tk sq W : List Nat) {l : List Oper} {Q : Exit → Act → World → Prop} (S : World → Prop) {id : Nat} {a : Act} {w : World} (hm : P.follows .mixedOrders = true) (hs : Region.noSelect l.toArray = true)
    (hok : takesOk .any l.toArray W sq tk (Array.replicate l.length false) = true) (hlen : (tk.length + sq.length == l.length && (tk ++ sq).all fun i => decide (i < l.length)) = true)
    (hQ : ∀ c a d v w, Q (.panic c) (Act.put a d v) w → Q (.panic c) a w) (hS : S { w with drawn := w.drawn + 1 })
    (h : wpTakes P l.toArray S (fun a => wpSeqW P l.toArray Q S (fun j => W.contains j) (pick l sq) a { w with drawn := w.drawn + 1 }) (pick l tk) a) : (Code.region id l.toArray true).wp P Q a w := by
  simp only [Bool.and_eq_true, beq_iff_eq, List.all_eq_true, decide_eq_true_eq] at hlen
  have hpick : ∀ ix : List Nat, (∀ i ∈ ix, i ∈ tk ++ sq) → ∀ p ∈ pick l ix, l.toArray[p.1]? = some p.2 := fun ix hix p hp => by
    obtain ⟨i, hi, rfl⟩ := List.mem_map.1 hp
    have := hlen.2 i (hix i hi)
    simp [List.getD, List.getElem?_eq_getElem this]
  have hfst : ∀ ix : List Nat, (pick l ix).map (·.1) = ix := fun ix => by simp [pick, Function.comp_def]
  refine wp_region_any hm (wpAny_of_W (S := S) (W := fun j => W.contains j) _ _ _ _ ?_)
  have := wpAnyW_of_takes (ops := l.toArray) (P := P) (md := .any) (S := S) (W := W) (Q := Q) (sq := pick l sq) (Region.noSelect_spec hs) hQ (hpick sq (by simp +contextual)) hS (pick l tk) (Array.replicate l.length false) a (Closed.start _) (hpick tk (by simp +contextual)) (by rw [hfst, hfst]; exact hok) h
  have e : (pick l tk).length + (pick l sq).length = l.length := by simp [pick]; exact hlen.1
  rw [e] at this
  simpa using this

theorem takes_val {KT : Act → Prop} {i : Nat} {rt : List (Nat × Oper)} (hw : Region.wanted o (yielded ops a.tmps) = true) (hv : ∀ w, S w → (execOp a.eval o).run P w = .ok (.value v) w)
    (h : wpTakes P ops S KT rt (a.put o.dst v)) : wpTakes P ops S KT ((i, o) :: rt) a := ⟨v, .inl ⟨hw, hv⟩, h⟩
theorem takes_not {KT : Act → Prop} {i : Nat} {rt : List (Nat × Oper)} (hw : Region.wanted o (yielded ops a.tmps) = false) (h : wpTakes P ops S KT rt (a.put o.dst undef)) : wpTakes P ops S KT ((i, o) :: rt) a := ⟨undef, .inr ⟨hw, rfl⟩, h⟩
theorem takes_nil {KT : Act → Prop} (h : KT a) : wpTakes P ops S KT [] a := h
theorem seqW_step {Q : Exit → Act → World → Prop} {W : Nat → Bool} {i : Nat} {rt : List (Nat × Oper)} {w : World} (hw : Region.wanted o (yielded ops a.tmps) = true)
    (h : ∀ K : Act → World → Prop, Kept (∀ a w, (W i = true ∨ S w) → wpSeqW P ops Q S W rt a w → K a w) → Oper.wp P o a w K Q) : wpSeqW P ops Q S W ((i, o) :: rt) a w := by
  unfold wpSeqW
  rw [if_pos hw]
  exact h _ (fun _ _ h1 h2 => ⟨h1, h2⟩)
theorem seqW_not {Q : Exit → Act → World → Prop} {W : Nat → Bool} {i : Nat} {rt : List (Nat × Oper)} {w : World} (hw : Region.wanted o (yielded ops a.tmps) = false) (hS : W i = true ∨ S w) (h : wpSeqW P ops Q S W rt (a.put o.dst undef) w) : wpSeqW P ops Q S W ((i, o) :: rt) a w := by
  unfold wpSeqW
  rw [if_neg (by simp [hw])]
  exact ⟨hS, h⟩
theorem seqW_nil {Q : Exit → Act → World → Prop} {W : Nat → Bool} {w : World} (h : Q .normal a w) : wpSeqW P ops Q S W [] a w := h
/-! ### A region in the text's order -/
theorem wpOps_of_settled {Q : Exit → Act → World → Prop} : ∀ (rest : List Oper) (k : Nat) (a : Act), ops.toList.drop k = rest → Settled P ops S (fun aF => ∀ w', S w' → Q .normal aF w') rest a → ∀ w, S w → wpOps P ops Q (List.range' k rest.length) a w
  | [], k, a, _, h, w, hS => h w hS
  | o :: rest, k, a, hd, h, w, hS => by
    obtain ⟨v, hy, h⟩ := h
    have hk : ops[k]? = some o := by
      have : (ops.toList.drop k)[0]? = some o := by rw [hd]; rfl
      rw [List.getElem?_drop] at this
      simpa using this
    have hd' : ops.toList.drop (k + 1) = rest := by rw [← List.drop_drop, hd]; rfl
    rw [List.length_cons, List.range'_succ, wpOps_cons]
    exact hy.wpOp hk hS fun w' hS' => wpOps_of_settled rest (k + 1) _ hd' h w' hS'
/-- A region that comes in the text's order, whose operations settle. -/
theorem wp_region_text {l : List Oper} {Q : Exit → Act → World → Prop} (S : World → Prop) {id : Nat} {a : Act} {w : World} (hS : S w)
    (h : Settled P l.toArray S (fun aF => ∀ w', S w' → Q .normal aF w') l a) : (Code.region id l.toArray false).wp P Q a w := by
  refine wp_region ?_
  have := wpOps_of_settled (ops := l.toArray) (P := P) (S := S) (Q := Q) l 0 a (by simp) h w hS
  rw [← List.range_eq_range'] at this
  simpa using this
end
end Go.Proofs.Ytffianjbljgnaaa
