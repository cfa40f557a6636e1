/-
  spec.Content: the maps that it fills, and the plain law: what these maps say is what the document says. No condition.
-/
import Derived.Test.YtffianjbljgnaaaCont
import Derived.Test.YtffianjbljgnaaaRecKey
import Derived.Test.YtffianjbljgnaaaIndex
namespace Go.Proofs.Ytffianjbljgnaaa
set_option linter.unusedVariables false
set_option linter.unusedSimpArgs false
open Go.RowKit Go.Maps

/-- The records that are marked with a one. -/
def opsF (p : Rec → Bool) : Rec → Option Value := fun r => if p r then some (.int .i64 1) else none
theorem ops_store {w : World} {b n : Nat} {p : Rec → Bool} (h : VMap recKey w b n (opsF p)) (hn : n ≤ 100000000000) (r : Rec) (hr : r.ok) :
    ∃ w' n', (Instr.mapUpdate 92 (.map (some b)) (recV r) (.int .i64 1)).run Try.prog w = .ok () w' ∧ VMap recKey w' b n' (opsF fun q => p q || decide (r = q)) ∧ n' ≤ n + 1 ∧ Mod [b] w w' := by
  obtain ⟨w', hrun, hm, hmod⟩ := h.store (e := 3) Try.underlying92 (by unfold maxLen; omega) r hr (.int .i64 1)
  refine ⟨w', _, hrun, hm.congr (fun x => ?_), by split <;> omega, hmod⟩
  unfold opsF
  by_cases hx : x = r
  · simp [hx]
  · have hx' : ¬ r = x := fun e => hx e.symm
    simp [hx, hx']
theorem ops_look {w : World} {b n : Nat} {p : Rec → Bool} (h : VMap recKey w b n (opsF p)) (r : Rec) (hr : r.ok) :
    (Instr.lookup 92 (.map (some b)) (recV r) false).run Try.prog w = .ok (.int .i64 (if p r then 1 else 0)) w := by
  have := h.look_run (e := 3) (z := .int .i64 0) Try.underlying92 (by kernel_rfl) r hr
  rw [show recKey.val r = recV r from rfl] at this
  rw [this]
  unfold opsF
  cases p r <;> rfl
def delR (A : List Rec) (k : Txt) : Bool := A.any fun o => decide (o.key = k) && o.del
def gmaxF (k : Txt) (m : Nat) (o : Rec) : Nat := if o.key = k ∧ o.del = true then max m o.lsn else m
def gmax (A : List Rec) (k : Txt) : Nat := A.foldl (gmaxF k) 0
def goneF (A : List Rec) : Txt → Option Value := fun k => if delR A k then some (.int .u64 (gmax A k : Nat)) else none
def delF (A : List Rec) : Txt → Option Value := fun k => if delR A k then some (.int .i64 1) else none
theorem delR_next (A : List Rec) (r : Rec) (k : Txt) : delR (A ++ [r]) k = (delR A k || (decide (r.key = k) && r.del)) := by unfold delR; rw [List.any_append]; simp
theorem gmax_next (A : List Rec) (r : Rec) (k : Txt) : gmax (A ++ [r]) k = gmaxF k (gmax A k) r := by unfold gmax; rw [List.foldl_append]; rfl
theorem gmax_del (A : List Rec) (k : Txt) (h : delR A k = false) : gmax A k = 0 := by
  have : ∀ (A : List Rec) (m : Nat), A.any (fun o => decide (o.key = k) && o.del) = false → A.foldl (gmaxF k) m = m := by
    intro A
    induction A with
    | nil => intro m _; rfl
    | cons r t ih =>
      intro m h
      rw [List.any_cons, Bool.or_eq_false_iff] at h
      rw [List.foldl_cons, show gmaxF k m r = m from ?_, ih m h.2]
      unfold gmaxF
      rw [if_neg]
      rintro ⟨h1, h2⟩
      rw [h1, h2] at h
      simp at h
  exact this A 0 h
theorem gmax_lt (A : List Rec) (k : Txt) (h : ∀ r ∈ A, r.lsn < 18446744073709551616) : gmax A k < 18446744073709551616 := by
  have : ∀ (A : List Rec) (m : Nat), m < 18446744073709551616 → (∀ r ∈ A, r.lsn < 18446744073709551616) → A.foldl (gmaxF k) m < 18446744073709551616 := by
    intro A
    induction A with
    | nil => intro m h _; exact h
    | cons r t ih =>
      intro m h h2
      rw [List.foldl_cons]
      refine ih _ ?_ (fun q hq => h2 q (List.mem_cons_of_mem _ hq))
      unfold gmaxF
      have := h2 r (by simp)
      split
      · omega
      · exact h
  exact this A 0 (by omega) h
theorem gmax_ge (A : List Rec) (q : Rec) : (delR A q.key && decide (q.lsn ≤ gmax A q.key)) = goneR A q := by
  have : ∀ (A : List Rec) (m : Nat), decide (q.lsn ≤ A.foldl (gmaxF q.key) m) = (decide (q.lsn ≤ m) || goneR A q) := by
    intro A
    induction A with
    | nil =>
      intro m
      show decide (q.lsn ≤ m) = (decide (q.lsn ≤ m) || false)
      rw [Bool.or_false]
    | cons r t ih =>
      intro m
      rw [List.foldl_cons, ih]
      have e : goneR (r :: t) q = ((decide (r.key = q.key) && r.del && decide (q.lsn ≤ r.lsn)) || goneR t q) := rfl
      rw [e]
      unfold gmaxF
      by_cases h1 : r.key = q.key
      · cases h2 : r.del with
        | true =>
          rw [if_pos ⟨h1, rfl⟩, decide_eq_true h1, Bool.true_and, Bool.true_and, ← Bool.or_assoc]
          congr 1
          by_cases h3 : q.lsn ≤ m <;> by_cases h4 : q.lsn ≤ r.lsn <;> simp [h3, h4] <;> omega
        | false => rw [if_neg (by simp), Bool.and_false, Bool.false_and, Bool.false_or]
      · rw [if_neg (fun h => h1 h.1), decide_eq_false h1, Bool.false_and, Bool.false_and, Bool.false_or]
  have h0 := this A 0
  change decide (q.lsn ≤ gmax A q.key) = _ at h0
  rw [h0]
  cases hd : delR A q.key with
  | true =>
    by_cases h1 : q.lsn ≤ 0
    · have : goneR A q = true := by
        unfold delR at hd
        obtain ⟨o, ho, h2⟩ := List.any_eq_true.1 hd
        refine List.any_eq_true.2 ⟨o, ho, ?_⟩
        rw [h2, decide_eq_true (by omega : q.lsn ≤ o.lsn)]
        rfl
      rw [this]
      simp
    · rw [decide_eq_false h1]
      simp
  | false =>
    rw [Bool.false_and]
    cases hg : goneR A q with
    | false => rfl
    | true =>
      unfold goneR at hg
      obtain ⟨o, ho, h2⟩ := List.any_eq_true.1 hg
      unfold delR at hd
      rw [Bool.and_eq_true] at h2
      rw [List.any_eq_true.2 ⟨o, ho, h2.1⟩] at hd
      cases hd
theorem del_store {w : World} {b n : Nat} {A : List Rec} (h : VMap textKey w b n (delF A)) (hn : n ≤ 100000000000) (r : Rec) (hr : r.ok) (hd : r.del = true) :
    ∃ w' n', (Instr.mapUpdate 93 (.map (some b)) (.string ⟨r.key.toArray⟩) (.int .i64 1)).run Try.prog w = .ok () w' ∧ VMap textKey w' b n' (delF (A ++ [r])) ∧ n' ≤ n + 1 ∧ Mod [b] w w' := by
  obtain ⟨w', hrun, hm, hmod⟩ := h.store (e := 3) Try.underlying93 (by unfold maxLen; omega) r.key hr.1 (.int .i64 1)
  refine ⟨w', _, hrun, hm.congr (fun x => ?_), by split <;> omega, hmod⟩
  unfold delF
  rw [delR_next, hd]
  by_cases hx : x = r.key
  · simp [hx]
  · have hx' : ¬ r.key = x := fun e => hx e.symm
    simp [hx, hx']
theorem gone_store {w : World} {b n : Nat} {A : List Rec} (h : VMap textKey w b n (goneF A)) (hn : n ≤ 100000000000) (r : Rec) (hr : r.ok) (hd : r.del = true) :
    ∃ w' n', (Instr.mapUpdate 94 (.map (some b)) (.string ⟨r.key.toArray⟩) (.int .u64 (max (gmax A r.key) r.lsn : Nat))).run Try.prog w = .ok () w' ∧ VMap textKey w' b n' (goneF (A ++ [r])) ∧ n' ≤ n + 1 ∧ Mod [b] w w' := by
  obtain ⟨w', hrun, hm, hmod⟩ := h.store (e := 29) Try.underlying94 (by unfold maxLen; omega) r.key hr.1 (.int .u64 (max (gmax A r.key) r.lsn : Nat))
  refine ⟨w', _, hrun, hm.congr (fun x => ?_), by split <;> omega, hmod⟩
  unfold goneF
  rw [delR_next, gmax_next, hd]
  unfold gmaxF
  by_cases hx : x = r.key
  · simp [hx, hd]
  · have hx' : ¬ r.key = x := fun e => hx e.symm
    simp [hx, hx']
theorem del_skip (A : List Rec) (r : Rec) (hd : r.del = false) (x : Txt) : delF (A ++ [r]) x = delF A x := by
  unfold delF
  rw [delR_next, hd]
  simp
theorem gone_skip (A : List Rec) (r : Rec) (hd : r.del = false) (x : Txt) : goneF (A ++ [r]) x = goneF A x := by
  unfold goneF
  rw [delR_next, gmax_next, hd]
  unfold gmaxF
  simp [hd]
theorem del_look {w : World} {b n : Nat} {A : List Rec} (h : VMap textKey w b n (delF A)) (k : Txt) (hk : k.length ≤ maxLen) :
    (Instr.lookup 93 (.map (some b)) (.string ⟨k.toArray⟩) false).run Try.prog w = .ok (.int .i64 (if delR A k then 1 else 0)) w := by
  have := h.look_run (e := 3) (z := .int .i64 0) Try.underlying93 (by kernel_rfl) k hk
  rw [show textKey.val k = .string ⟨k.toArray⟩ from rfl] at this
  rw [this]
  unfold delF
  cases delR A k <;> rfl
theorem gone_look {w : World} {b n : Nat} {A : List Rec} (h : VMap textKey w b n (goneF A)) (k : Txt) (hk : k.length ≤ maxLen) :
    (Instr.lookup 94 (.map (some b)) (.string ⟨k.toArray⟩) false).run Try.prog w = .ok (.int .u64 (gmax A k : Nat)) w := by
  have := h.look_run (e := 29) (z := .int .u64 0) Try.underlying94 (by kernel_rfl) k hk
  rw [show textKey.val k = .string ⟨k.toArray⟩ from rfl] at this
  rw [this]
  unfold goneF
  cases hd : delR A k with
  | true => rfl
  | false => rw [gmax_del A k hd]; rfl
/-- What the program asks of a record that is there now. -/
def okS (W A : List Rec) (r : Rec) : Bool := (isR W r || isR A r) && !(match findR (W.foldl setR []) r.key with | some o => decide (r.lsn < o.lsn) | none => false)
/-- What the program asks of a record that was there. -/
def askW (N A : List Rec) (q : Rec) : Bool := !q.del && !knownR N q.key && !(delR A q.key && decide (q.lsn ≤ gmax A q.key))
def firstR (f : Rec → Bool) : Nat → List Rec → Int
  | _, [] => -1
  | i, q :: t => if f q then i else firstR f (i + 1) t
def contentS (W A N : List Rec) : Int :=
  match firstBad (okS W A) N 0 with
  | some i => i
  | none => if firstR (askW N A) 0 W < 0 then -1 else N.length + firstR (askW N A) 0 W
def opsOf (L : List Entry) : List Rec := L.flatMap (·.ops)
theorem isE_ops (L : List Entry) (r : Rec) : isE L r = isR (opsOf L) r := by
  unfold isE isR opsOf
  rw [List.any_flatMap]
theorem goneE_ops (L : List Entry) (q : Rec) : goneE L q = goneR (opsOf L) q := by
  unfold goneE goneR opsOf
  rw [List.any_flatMap]
theorem findR_fold (W : List Rec) (h : W.Pairwise (fun a b => a.key ≠ b.key)) (k : Txt) : findR (W.foldl setR []) k = W.find? fun q => decide (q.key = k) := by
  have : ∀ (W acc : List Rec), W.Pairwise (fun a b => a.key ≠ b.key) → (∀ a ∈ acc, ∀ b ∈ W, a.key ≠ b.key) → findR (W.foldl setR acc) k = (findR acc k).or (W.find? fun q => decide (q.key = k)) := by
    intro W
    induction W with
    | nil => intro acc _ _; simp
    | cons r t ih =>
      intro acc h1 h2
      rw [List.foldl_cons, ih _ (List.pairwise_cons.1 h1).2 ?_, setR_find]
      · by_cases hk : k = r.key
        · have hn : findR acc k = none := by
            have : ∀ acc : List Rec, (∀ a ∈ acc, a.key ≠ k) → findR acc k = none := by
              intro acc
              induction acc with
              | nil => intro _; rfl
              | cons a s ihs =>
                intro h
                unfold findR
                rw [if_neg (fun e => h a (by simp) e.symm)]
                exact ihs (fun x hx => h x (List.mem_cons_of_mem _ hx))
            exact this acc (fun a ha => by rw [hk]; exact h2 a ha r (by simp))
          rw [if_pos hk, hn, List.find?_cons_of_pos (by simp [hk])]
          rfl
        · rw [if_neg hk, List.find?_cons_of_neg (by simp; exact fun e => hk e.symm)]
      · intro a ha b hb
        rcases setR_mem acc r a ha with rfl | ha
        · exact (List.pairwise_cons.1 h1).1 b hb
        · exact h2 a ha b (List.mem_cons_of_mem _ hb)
  rw [this W [] h (by simp)]
  rfl
theorem okS_okN (W : List Rec) (L : List Entry) (h : W.Pairwise (fun a b => a.key ≠ b.key)) (r : Rec) : okS W (opsOf L) r = okN W L r := by
  unfold okS okN
  rw [isE_ops, findR_fold W h]
  have : ∀ W : List Rec, W.Pairwise (fun a b => a.key ≠ b.key) → (match W.find? (fun q => decide (q.key = r.key)) with | some o => decide (r.lsn < o.lsn) | none => false) = newer W r := by
    intro W
    induction W with
    | nil => intro _; rfl
    | cons q t ih =>
      intro h
      have h' := List.pairwise_cons.1 h
      have e : newer (q :: t) r = ((decide (q.key = r.key) && decide (r.lsn < q.lsn)) || newer t r) := rfl
      rw [e]
      by_cases hk : q.key = r.key
      · have hn : newer t r = false := by
          cases hg : newer t r with
          | false => rfl
          | true =>
            unfold newer at hg
            obtain ⟨o, ho, h2⟩ := List.any_eq_true.1 hg
            rw [Bool.and_eq_true] at h2
            exact absurd (hk.trans (of_decide_eq_true h2.1).symm) (h'.1 o ho)
        rw [List.find?_cons_of_pos (by simp [hk]), hn, decide_eq_true hk, Bool.true_and, Bool.or_false]
      · rw [List.find?_cons_of_neg (by simp [hk]), decide_eq_false hk, Bool.false_and, Bool.false_or]
        exact ih h'.2
  rw [this W h]
theorem askW_okW (N : List Rec) (L : List Entry) (q : Rec) : askW N (opsOf L) q = !okW N L q := by
  unfold askW okW
  rw [gmax_ge, goneE_ops]
  cases q.del <;> cases knownR N q.key <;> cases goneR (opsOf L) q <;> rfl
theorem firstR_bad (p f : Rec → Bool) (h : ∀ r, f r = !p r) (l : List Rec) (i : Nat) : firstR f i l = match firstBad p l i with | some i => (i : Int) | none => -1 := by
  induction l generalizing i with
  | nil => rfl
  | cons r t ih =>
    unfold firstR firstBad
    rw [h r]
    cases p r with
    | true => simpa using ih (i + 1)
    | false => rfl
theorem contentS_eq (W : List Rec) (L : List Entry) (N : List Rec) (h : W.Pairwise (fun a b => a.key ≠ b.key)) : contentS W (opsOf L) N = contentL W L N := by
  unfold contentS contentL
  rw [show okS W (opsOf L) = okN W L from funext fun r => okS_okN W L h r, firstR_bad (okW N L) (askW N (opsOf L)) (fun r => askW_okW N L r)]
  cases firstBad (okN W L) N 0 with
  | some i => rfl
  | none =>
    cases firstBad (okW N L) W 0 with
    | some i =>
      show (if (i : Int) < 0 then (-1 : Int) else _) = _
      rw [if_neg (by omega)]
    | none => rfl
end Go.Proofs.Ytffianjbljgnaaa
