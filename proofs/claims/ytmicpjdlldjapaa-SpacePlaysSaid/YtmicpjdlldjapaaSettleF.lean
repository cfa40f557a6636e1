/-
  A region of many operations that settles: a quick check of the text's order. No program here. No condition.
-/
import Derived.Test.YtmicpjdlldjapaaSettle
namespace Go.Proofs.Ytmicpjdlldjapaa
set_option linter.unusedVariables false
set_option linter.unusedSimpArgs false

/-- Operation k, and all behind it: who does not wait for k is apart from it. -/
def restOk (md : Region.Mode) (ops : Array Oper) (k : Nat) (oi : Oper) : List Oper → Bool
  | [] => true
  | oj :: rest => (oj.after.any (fun e => Region.binds md e && e.on == k) || oi.apart ops oj) && restOk md ops k oi rest
/-- The same, of all. -/
def fastOrder (md : Region.Mode) (ops : Array Oper) : Nat → List Oper → Bool
  | _, [] => true
  | k, o :: rest => o.after.all (fun e => !Region.binds md e || Nat.blt e.on k) && restOk md ops k o rest && fastOrder md ops (k + 1) rest

theorem restOk_spec {md : Region.Mode} {ops : Array Oper} {k : Nat} {oi : Oper} : ∀ {l : List Oper}, restOk md ops k oi l = true → ∀ oj ∈ l, (oj.after.any (fun e => Region.binds md e && e.on == k) || oi.apart ops oj) = true
  | [], _, oj, h => by cases h
  | o :: rest, hr, oj, h => by
    simp only [restOk, Bool.and_eq_true] at hr
    rcases List.mem_cons.1 h with rfl | h
    · exact hr.1
    · exact restOk_spec hr.2 oj h
theorem inOrder_of_fast {md : Region.Mode} {ops : Array Oper} : ∀ (rest : List Oper) (k : Nat) (listed : Array Bool), ops.toList.drop k = rest → listed.size = ops.size → (∀ i, i < ops.size → listed.getD i true = decide (i < k) ∧ listed.getD i false = decide (i < k)) →
    fastOrder md ops k rest = true → inOrder md ops rest.length k listed = true
  | [], k, listed, hd, hs, hl, _ => by
    have hk : ops.size ≤ k := by
      have := List.drop_eq_nil_iff.1 hd
      simpa using this
    simp only [List.length_nil, inOrder, List.isEmpty_iff]
    unfold Region.ready
    refine List.filter_eq_nil_iff.2 (fun i hi => ?_)
    have hi' := List.mem_range.1 hi
    rw [(hl i hi').1]
    simp only [Bool.and_eq_true, not_and]
    intro h
    simp at h
    omega
  | o :: rest, k, listed, hd, hs, hl, hf => by
    have hlt : k < ops.size := by
      have h1 : (ops.toList.drop k).length = (o :: rest).length := by rw [hd]
      simp at h1
      omega
    have hk : ops[k]? = some o := by
      have : (ops.toList.drop k)[0]? = some o := by rw [hd]; rfl
      rw [List.getElem?_drop] at this
      simpa using this
    have hd' : ops.toList.drop (k + 1) = rest := by rw [← List.drop_drop, hd]; rfl
    simp only [fastOrder, Bool.and_eq_true] at hf
    obtain ⟨⟨h1, h2⟩, h3⟩ := hf
    simp only [List.length_cons, inOrder, Bool.and_eq_true]
    refine ⟨⟨?_, ?_⟩, inOrder_of_fast rest (k + 1) _ hd' (by simp [hs]) (fun i hi => ?_) h3⟩
    · rw [List.contains_iff_mem]
      unfold Region.ready
      refine List.mem_filter.2 ⟨List.mem_range.2 hlt, ?_⟩
      rw [(hl k hlt).1, hk]
      simp only [Nat.lt_irrefl, decide_false, Bool.not_false, Bool.true_and, Option.map_some, Option.getD_some]
      rw [Array.all_eq_true'] at h1 ⊢
      intro e he
      have := h1 e he
      rw [Bool.or_eq_true] at this ⊢
      rcases this with h | h
      · exact .inl h
      · have hlt2 : e.on < k := by simpa [Nat.blt_eq] using h
        refine .inr ?_
        rw [(hl e.on (by omega)).2]
        simp [hlt2]
    · unfold Region.free
      rw [hk]
      simp only [List.all_eq_true, List.mem_range]
      intro j hj
      by_cases hjk : j ≤ k
      · by_cases he : j = k
        · simp [he]
        · have := (hl j hj).1
          rw [this]
          have hlt3 : j < k := by omega
          simp [hlt3]
      · obtain ⟨oj, hoj⟩ : ∃ oj, ops[j]? = some oj := ⟨_, Array.getElem?_eq_getElem hj⟩
        have hm : oj ∈ rest := by
          rw [← hd']
          have : (ops.toList.drop (k + 1))[j - (k + 1)]? = some oj := by
            rw [List.getElem?_drop, show k + 1 + (j - (k + 1)) = j by omega]
            simpa using hoj
          exact List.mem_of_getElem? this
        have := restOk_spec h2 oj hm
        rw [hoj]
        simp only
        rw [this]; simp
    · have hi2 : i < listed.size := by rw [hs]; exact hi
      by_cases hik : i = k
      · subst hik
        simp [Array.getD_eq_getD_getElem?, Array.getElem?_setIfInBounds_self_of_lt hi2]
      · have := hl i hi
        simp only [Array.getD_eq_getD_getElem?] at this ⊢
        rw [Array.getElem?_setIfInBounds_ne (Ne.symm hik)]
        rw [this.1, this.2]
        have : (i < k) = (i < k + 1) := by apply propext; omega
        simp [this]

/-- A region whose operations settle, however many. -/
theorem wp_region_settleF {P : Program} {l : List Oper} {Q : Exit → Act → World → Prop} (S : World → Prop) {id : Nat} {a : Act} {w : World} (hm : P.follows .mixedOrders = true) (hs : Region.noSelect l.toArray = true)
    (hc : fastOrder .any l.toArray 0 l = true) (hS : S { w with drawn := w.drawn + 1 })
    (h : Settled P l.toArray S (fun aF => ∀ w', S w' → Q .normal aF w') l a) : (Code.region id l.toArray true).wp P Q a w :=
  wp_region_settle S hm hs (inOrder_of_fast l 0 _ (by simp) (by simp) (fun i hi => by
    have hi' : i < l.length := by simpa using hi
    simp [Array.getD_eq_getD_getElem?, hi']) hc) hS h
end Go.Proofs.Ytmicpjdlldjapaa
