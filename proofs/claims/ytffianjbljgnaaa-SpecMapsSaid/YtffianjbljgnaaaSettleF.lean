/-
  A region of many operations that settles: a quick check of the text's order. No program here. No condition.
-/
import Derived.Test.YtffianjbljgnaaaSettle
namespace Go.Proofs.Ytffianjbljgnaaa
set_option linter.unusedVariables false
set_option linter.unusedSimpArgs false

/-- Operation k, and all behind it: who does not wait for k is apart from it. -/
def restOk (md : Region.Mode) (ops : Array Oper) (k : Nat) (oi : Oper) : List Oper → Bool
  | [] => true
  | oj :: rest => (oj.after.any (fun e => Region.binds md e && e.on == k) || oi.apart ops oj) && restOk md ops k oi rest
/-- The same, of all. -/
def fastOrder (md : Region.Mode) (ops : Array Oper) : Nat → List Oper → Bool
  | _, [] => true
  | k, o :: rest => o.after.all (fun e => !Region.binds md e || Nat.blt e.on k) && restOk md ops k o rest && fastOrder md ops (k + 1) rest

theorem restOk_spec {md : Region.Mode} {ops : Array Oper} {k : Nat} {oi : Oper} : ∀ {l : List Oper}, restOk md ops k oi l = true → ∀ oj ∈ l, (oj.after.any (fun e => Region.binds md e && e.on == k) || oi.apart ops oj) = true
  | [], _, oj, h => by cases h
  | o :: rest, hr, oj, h => by
    simp only [restOk, Bool.and_eq_true] at hr
    rcases List.mem_cons.1 h with rfl | h
    · exact hr.1
    · exact restOk_spec hr.2 oj h
theorem inOrder_of_fast {md : Region.Mode} {ops : Array Oper} : ∀ (rest : List Oper) (k : Nat) (listed : Array Bool), ops.toList.drop k = rest → listed.size = ops.size → (∀ i, i < ops.size → listed.getD i true = decide (i < k) ∧ listed.getD i false = decide (i < k)) →
    fastOrder md ops k rest = true → inOrder md ops rest.length k listed = true
  | [], k, listed, hd, hs, hl, _ => by
    have hk : ops.size ≤ k := by
      have := List.drop_eq_nil_iff.1 hd
      simpa using this
    simp only [List.length_nil, inOrder, List.isEmpty_iff]
    unfold Region.ready
    refine List.filter_eq_nil_iff.2 (fun i hi => ?_)
    have hi' := List.mem_range.1 hi
    rw [(hl i hi').1]
    simp only [Bool.and_eq_true, not_and]
    intro h
    simp at h
    omega
  | o :: rest, k, listed, hd, hs, hl, hf => by
    have hlt : k < ops.size := by
      have h1 : (ops.toList.drop k).length = (o :: rest).length := by rw [hd]
      simp at h1
      omega
    have hk : ops[k]? = some o := by
      have : (ops.toList.drop k)[0]? = some o := by rw [hd]; rfl
      rw [List.getElem?_drop] at this
      simpa using this
    have hd' : ops.toList.drop (k + 1) = rest := by rw [← List.drop_drop, hd]; rfl
    simp only [fastOrder, Bool.and_eq_true] at hf
    obtain ⟨⟨h1, h2⟩, h3⟩ := hf
    simp only [List.length_cons, inOrder, Bool.and_eq_true]
    refine ⟨⟨?_, ?_⟩, inOrder_of_fast rest (k + 1) _ hd' (by simp [hs]) (fun i hi => ?_) h3⟩
    · rw [List.contains_iff_mem]
      unfold Region.ready
      refine List.mem_filter.2 ⟨List.mem_range.2 hlt, ?_⟩
      rw [(hl k hlt).1, hk]
      simp only [Nat.lt_irrefl, decide_false, Bool.not_false, Bool.true_and, Option.map_some, Option.getD_some]
      rw [Array.all_eq_true'] at h1 ⊢
      intro e he
      have := h1 e he
      rw [Bool.or_eq_true] at this ⊢
      rcases this with h | h
      · exact .inl h
      · have hlt2 : e.on < k := by simpa [Nat.blt_eq] using h
        refine .inr ?_
        rw [(hl e.on (by omega)).2]
        simp [hlt2]
    · unfold Region.free
      rw [hk]
      simp only [List.all_eq_true, List.mem_range]
      intro j hj
      by_cases hjk : j ≤ k
      · by_cases he : j = k
        · simp [he]
        · have := (hl j hj).1
          rw [this]
          have hlt3 : j < k := by omega
          simp [hlt3]
      · obtain ⟨oj, hoj⟩ : ∃ oj, ops[j]? = some oj := ⟨_, Array.getElem?_eq_getElem hj⟩
        have hm : oj ∈ rest := by
          rw [← hd']
          have : (ops.toList.drop (k + 1))[j - (k + 1)]? = some oj := by
            rw [List.getElem?_drop, show k + 1 + (j - (k + 1)) = j by omega]
            simpa using hoj
          exact List.mem_of_getElem? this
        have := restOk_spec h2 oj hm
        rw [hoj]
        simp only
        rw [this]; simp
    · have hi2 : i < listed.size := by rw [hs]; exact hi
      by_cases hik : i = k
      · subst hik
        simp [Array.getD_eq_getD_getElem?, Array.getElem?_setIfInBounds_self_of_lt hi2]
      · have := hl i hi
        simp only [Array.getD_eq_getD_getElem?] at this ⊢
        rw [Array.getElem?_setIfInBounds_ne (Ne.symm hik)]
        rw [this.1, this.2]
        have : (i < k) = (i < k + 1) := by apply propext; omega
        simp [this]

/-- A region whose operations settle, however many. -/
theorem wp_region_settleF {P : Program} {l : List Oper} {Q : Exit → Act → World → Prop} (S : World → Prop) {id : Nat} {a : Act} {w : World} (hm : P.follows .mixedOrders = true) (hs : Region.noSelect l.toArray = true)
    (hc : fastOrder .any l.toArray 0 l = true) (hS : S { w with drawn := w.drawn + 1 })
    (h : Settled P l.toArray S (fun aF => ∀ w', S w' → Q .normal aF w') l a) : (Code.region id l.toArray true).wp P Q a w :=
  wp_region_settle S hm hs (inOrder_of_fast l 0 _ (by simp) (by simp) (fun i hi => by
    have hi' : i < l.length := by simpa using hi
    simp [Array.getD_eq_getD_getElem?, hi']) hc) hS h

section
variable {P : Program} {ops : Array Oper} {md : Region.Mode}
theorem wpAnyW_true {Q : Exit → Act → World → Prop} : ∀ (fuel : Nat) (listed : Array Bool) (a : Act) (w : World), wpAny P md ops Q fuel listed a w → wpAnyW P md ops Q (fun _ => True) (fun _ => false) fuel listed a w
  | 0, _, _, _, h => h
  | fuel + 1, _, _, _, h => ⟨h.1, fun i hi => wpOp_mono (fun a' w' h' => ⟨.inr trivial, wpAnyW_true fuel _ a' w' h'⟩) (h.2 i hi)⟩
/-- May the operations be taken first, one behind the other? And what is asked then. -/
def takenOk (md : Region.Mode) (ops : Array Oper) (k : Array Bool → Bool) : List Nat → Array Bool → Bool
  | [], listed => k listed
  | i :: rest, listed => (Region.ready md ops listed).contains i && Region.free md ops listed i && takenOk md ops k rest (listed.setIfInBounds i true)
/-- Operations whose values hang on no world are taken first. -/
theorem wpAny_of_taken {Q : Exit → Act → World → Prop} (hsel : ∀ (j : Nat) (o : Oper) cs b, ops[j]? = some o → o.op ≠ .select cs b) (hQ : ∀ c a d v w, Q (.panic c) (Act.put a d v) w → Q (.panic c) a w) {w : World} {KT : Act → Prop} {k : Array Bool → Bool} {m : Nat}
    (hK : ∀ listed a, Closed md ops listed → k listed = true → KT a → wpAny P md ops Q m listed a w) : ∀ (tk : List (Nat × Oper)) (listed : Array Bool) (a : Act), Closed md ops listed → (∀ p ∈ tk, ops[p.1]? = some p.2) → takenOk md ops k (tk.map (·.1)) listed = true →
    wpTakes P ops (fun _ => True) KT tk a → wpAny P md ops Q (tk.length + m) listed a w
  | [], listed, a, hc, _, hok, h => by rw [List.length_nil, Nat.zero_add]; exact hK listed a hc hok h
  | (i, o) :: tk, listed, a, hc, htk, hok, h => by
    simp only [List.map_cons, takenOk, Bool.and_eq_true] at hok
    obtain ⟨⟨hr, hf⟩, hok⟩ := hok
    obtain ⟨v, hy, h⟩ := h
    have hi : ops[i]? = some o := htk (i, o) (by simp)
    have hr' : i ∈ Region.ready md ops listed := by simpa using hr
    rw [show ((i, o) :: tk).length + m = (tk.length + m) + 1 by simp only [List.length_cons]; omega]
    have := wpAny_of_taken hsel hQ hK tk _ _ (hc.set hr') (fun p hp => htk p (by simp [hp])) hok h
    exact wpAny_of_W _ _ _ _ (wpAnyW_first (n := 0) (W := fun _ => false) hi hsel (fun c a w => hQ c a _ _ w) (fun j hj => by cases hj) _ listed a w hc (Region.free_spec hi hf) hr' hy trivial (wpAnyW_true _ _ _ _ this))
/-- As wp_region_float; ahead of all, operations (t1) whose values hang on no world are taken. -/
theorem wp_region_float2 (t1 tk sq W : List Nat) {l : List Oper} {Q : Exit → Act → World → Prop} (S : World → Prop) {id : Nat} {a : Act} {w : World} (hm : P.follows .mixedOrders = true) (hs : Region.noSelect l.toArray = true)
    (hok : takenOk .any l.toArray (takesOk .any l.toArray W sq tk) t1 (Array.replicate l.length false) = true) (hlen : (t1.length + (tk.length + sq.length) == l.length && (t1 ++ (tk ++ sq)).all fun i => decide (i < l.length)) = true)
    (hQ : ∀ c a d v w, Q (.panic c) (Act.put a d v) w → Q (.panic c) a w) (hS : S { w with drawn := w.drawn + 1 })
    (h : wpTakes P l.toArray (fun _ => True) (fun a => wpTakes P l.toArray S (fun a => wpSeqW P l.toArray Q S (fun j => W.contains j) (pick l sq) a { w with drawn := w.drawn + 1 }) (pick l tk) a) (pick l t1) a) : (Code.region id l.toArray true).wp P Q a w := by
  simp only [Bool.and_eq_true, beq_iff_eq, List.all_eq_true, decide_eq_true_eq] at hlen
  have hpick : ∀ ix : List Nat, (∀ i ∈ ix, i ∈ t1 ++ (tk ++ sq)) → ∀ p ∈ pick l ix, l.toArray[p.1]? = some p.2 := fun ix hix p hp => by
    obtain ⟨i, hi, rfl⟩ := List.mem_map.1 hp
    have := hlen.2 i (hix i hi)
    simp [List.getD, List.getElem?_eq_getElem this]
  have hfst : ∀ ix : List Nat, (pick l ix).map (·.1) = ix := fun ix => by simp [pick, Function.comp_def]
  refine wp_region_any hm ?_
  have := wpAny_of_taken (ops := l.toArray) (P := P) (md := .any) (Q := Q) (w := { w with drawn := w.drawn + 1 }) (k := takesOk .any l.toArray W sq tk) (m := (pick l tk).length + (pick l sq).length)
    (KT := fun a => wpTakes P l.toArray S (fun a => wpSeqW P l.toArray Q S (fun j => W.contains j) (pick l sq) a { w with drawn := w.drawn + 1 }) (pick l tk) a) (Region.noSelect_spec hs) hQ
    (fun listed a hc hk hT => wpAny_of_W (S := S) (W := fun j => W.contains j) _ _ _ _ (wpAnyW_of_takes (Region.noSelect_spec hs) hQ (hpick sq (by simp +contextual)) hS (pick l tk) listed a hc (hpick tk (by simp +contextual)) (by rw [hfst, hfst]; exact hk) hT))
    (pick l t1) (Array.replicate l.length false) a (Closed.start _) (hpick t1 (by simp +contextual)) (by rw [hfst]; exact hok) h
  have e : (pick l t1).length + ((pick l tk).length + (pick l sq).length) = l.length := by simp [pick]; exact hlen.1
  rw [e] at this
  simpa using this
end
end Go.Proofs.Ytffianjbljgnaaa
