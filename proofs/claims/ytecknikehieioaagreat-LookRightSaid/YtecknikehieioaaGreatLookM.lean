/-
  Rows of records and what maps say of them: numbers, marks, the highest LSN of a key. No condition.
-/
import Derived.Test.YtecknikehieioaaGreatIndex
import Derived.Test.YtecknikehieioaaGreatRecKey
namespace Go.Proofs.YtecknikehieioaaGreat
set_option linter.unusedVariables false
set_option linter.unusedSimpArgs false
open Go.RowKit Go.Maps

def knownR (l : List Rec) (k : Txt) : Bool := l.any fun q => decide (q.key = k)
def isR (p : List Rec) (r : Rec) : Bool := p.any fun q => decide (q = r)
def goneR (p : List Rec) (q : Rec) : Bool := p.any fun o => decide (o.key = q.key) && o.del && decide (q.lsn ≤ o.lsn)
theorem any_next {α : Type} (f : α → Bool) (l : List α) (k : Nat) (q : α) (h : l[k]? = some q) : (l.take (k + 1)).any f = ((l.take k).any f || f q) := by
  rw [List.take_add_one, h, List.any_append]
  simp
/-- The cells of a record. -/
def RecCellsAt (w : World) (g o : Nat) (r : Rec) : Prop :=
  w.cell? ⟨g, o, none⟩ = some (.string ⟨r.key.toArray⟩) ∧ w.cell? ⟨g, o + 1, none⟩ = some (.int .u64 (r.lsn : Nat)) ∧ w.cell? ⟨g, o + 2, none⟩ = some (.bool r.del) ∧ w.cell? ⟨g, o + 3, none⟩ = some (.string ⟨r.val.toArray⟩)
theorem recs_rowB {w : World} {a : Option Addr} {n c : Nat} {l : List Rec} (h : RowsAt w a n c 4 (recsCells l)) (hl : n = l.length) {i : Nat} (hi : i < n) :
    ∃ (r : Rec) (g o : Nat), l[i]? = some r ∧ r ∈ l ∧ a = some ⟨g, o, none⟩ ∧ ∀ w', Below w.heap.size w w' → RecCellsAt w' g (o + i * 4) r := by
  obtain ⟨r, g, o, h1, h2, h3, h4, d0, d1, d2, d3⟩ := recs_row h hl hi
  exact ⟨r, g, o, h1, h2, h3, fun w' hb => ⟨(hb.cell (p := ⟨g, o + i * 4, none⟩) h4).trans d0, (hb.cell (p := ⟨g, o + i * 4 + 1, none⟩) h4).trans d1, (hb.cell (p := ⟨g, o + i * 4 + 2, none⟩) h4).trans d2, (hb.cell (p := ⟨g, o + i * 4 + 3, none⟩) h4).trans d3⟩⟩
theorem EntsAt.rowB {w : World} {a : Option Addr} {n c : Nat} {z : List EZ} (h : EntsAt w a n c z) {i : Nat} (hi : i < n) :
    ∃ (q : EZ) (g o : Nat), z[i]? = some q ∧ q ∈ z ∧ a = some ⟨g, o, none⟩ ∧ ∀ w', Below w.heap.size w w' → w'.cell? ⟨g, o + i * 3, none⟩ = some (.int .u64 (q.1.ts : Nat)) ∧ w'.cell? ⟨g, o + i * 3 + 1, none⟩ = some (.int .u64 (q.1.first : Nat)) ∧ w'.cell? ⟨g, o + i * 3 + 2, none⟩ = some (.slice q.1.a q.1.n q.1.c) := by
  obtain ⟨q, g, o, h1, h2, h3, h4, d0, d1, d2⟩ := h.row hi
  exact ⟨q, g, o, h1, h2, h3, fun w' hb => ⟨(hb.cell (p := ⟨g, o + i * 3, none⟩) h4).trans d0, (hb.cell (p := ⟨g, o + i * 3 + 1, none⟩) h4).trans d1, (hb.cell (p := ⟨g, o + i * 3 + 2, none⟩) h4).trans d2⟩⟩
/-- The records that are marked with a one. -/
def opsF (p : Rec → Bool) : Rec → Option Value := fun r => if p r then some (.int .i64 1) else none
theorem ops_store {w : World} {b n : Nat} {p : Rec → Bool} (h : VMap recKey w b n (opsF p)) (hn : n ≤ 100000000000) (r : Rec) (hr : r.ok) :
    ∃ w' n', (Instr.mapUpdate 71 (.map (some b)) (recV r) (.int .i64 1)).run Tryz.prog w = .ok () w' ∧ VMap recKey w' b n' (opsF fun q => p q || decide (r = q)) ∧ n' ≤ n + 1 ∧ Mod [b] w w' := by
  obtain ⟨w', hrun, hm, hmod⟩ := h.store (e := 3) Tryz.underlying71 (by unfold maxLen; omega) r hr (.int .i64 1)
  refine ⟨w', _, hrun, hm.congr (fun x => ?_), by split <;> omega, hmod⟩
  unfold opsF
  by_cases hx : x = r
  · simp [hx]
  · have hx' : ¬ r = x := fun e => hx e.symm
    simp [hx, hx']
theorem ops_look {w : World} {b n : Nat} {p : Rec → Bool} (h : VMap recKey w b n (opsF p)) (r : Rec) (hr : r.ok) :
    (Instr.lookup 71 (.map (some b)) (recV r) false).run Tryz.prog w = .ok (.int .i64 (if p r then 1 else 0)) w := by
  have := h.look_run (e := 3) (z := .int .i64 0) Tryz.underlying71 (by kernel_rfl) r hr
  rw [show recKey.val r = recV r from rfl] at this
  rw [this]
  unfold opsF
  cases p r <;> rfl
def delR (A : List Rec) (k : Txt) : Bool := A.any fun o => decide (o.key = k) && o.del
def gmaxF (k : Txt) (m : Nat) (o : Rec) : Nat := if o.key = k ∧ o.del = true then max m o.lsn else m
def gmax (A : List Rec) (k : Txt) : Nat := A.foldl (gmaxF k) 0
def goneF (A : List Rec) : Txt → Option Value := fun k => if delR A k then some (.int .u64 (gmax A k : Nat)) else none
theorem delR_next (A : List Rec) (r : Rec) (k : Txt) : delR (A ++ [r]) k = (delR A k || (decide (r.key = k) && r.del)) := by unfold delR; rw [List.any_append]; simp
theorem gmax_next (A : List Rec) (r : Rec) (k : Txt) : gmax (A ++ [r]) k = gmaxF k (gmax A k) r := by unfold gmax; rw [List.foldl_append]; rfl
theorem gmax_del (A : List Rec) (k : Txt) (h : delR A k = false) : gmax A k = 0 := by
  have : ∀ (A : List Rec) (m : Nat), A.any (fun o => decide (o.key = k) && o.del) = false → A.foldl (gmaxF k) m = m := by
    intro A
    induction A with
    | nil => intro m _; rfl
    | cons r t ih =>
      intro m h
      rw [List.any_cons, Bool.or_eq_false_iff] at h
      rw [List.foldl_cons, show gmaxF k m r = m from ?_, ih m h.2]
      unfold gmaxF
      rw [if_neg]
      rintro ⟨h1, h2⟩
      rw [h1, h2] at h
      simp at h
  exact this A 0 h
theorem gmax_lt (A : List Rec) (k : Txt) (h : ∀ r ∈ A, r.lsn < 18446744073709551616) : gmax A k < 18446744073709551616 := by
  have : ∀ (A : List Rec) (m : Nat), m < 18446744073709551616 → (∀ r ∈ A, r.lsn < 18446744073709551616) → A.foldl (gmaxF k) m < 18446744073709551616 := by
    intro A
    induction A with
    | nil => intro m h _; exact h
    | cons r t ih =>
      intro m h h2
      rw [List.foldl_cons]
      refine ih _ ?_ (fun q hq => h2 q (List.mem_cons_of_mem _ hq))
      unfold gmaxF
      have := h2 r (by simp)
      split
      · omega
      · exact h
  exact this A 0 (by omega) h
theorem gmax_ge (A : List Rec) (q : Rec) : (delR A q.key && decide (q.lsn ≤ gmax A q.key)) = goneR A q := by
  have : ∀ (A : List Rec) (m : Nat), decide (q.lsn ≤ A.foldl (gmaxF q.key) m) = (decide (q.lsn ≤ m) || goneR A q) := by
    intro A
    induction A with
    | nil =>
      intro m
      show decide (q.lsn ≤ m) = (decide (q.lsn ≤ m) || false)
      rw [Bool.or_false]
    | cons r t ih =>
      intro m
      rw [List.foldl_cons, ih]
      have e : goneR (r :: t) q = ((decide (r.key = q.key) && r.del && decide (q.lsn ≤ r.lsn)) || goneR t q) := rfl
      rw [e]
      unfold gmaxF
      by_cases h1 : r.key = q.key
      · cases h2 : r.del with
        | true =>
          rw [if_pos ⟨h1, rfl⟩, decide_eq_true h1, Bool.true_and, Bool.true_and, ← Bool.or_assoc]
          congr 1
          by_cases h3 : q.lsn ≤ m <;> by_cases h4 : q.lsn ≤ r.lsn <;> simp [h3, h4] <;> omega
        | false => rw [if_neg (by simp), Bool.and_false, Bool.false_and, Bool.false_or]
      · rw [if_neg (fun h => h1 h.1), decide_eq_false h1, Bool.false_and, Bool.false_and, Bool.false_or]
  have h0 := this A 0
  change decide (q.lsn ≤ gmax A q.key) = _ at h0
  rw [h0]
  cases hd : delR A q.key with
  | true =>
    by_cases h1 : q.lsn ≤ 0
    · have : goneR A q = true := by
        unfold delR at hd
        obtain ⟨o, ho, h2⟩ := List.any_eq_true.1 hd
        refine List.any_eq_true.2 ⟨o, ho, ?_⟩
        rw [h2, decide_eq_true (by omega : q.lsn ≤ o.lsn)]
        rfl
      rw [this]
      simp
    · rw [decide_eq_false h1]
      simp
  | false =>
    rw [Bool.false_and]
    cases hg : goneR A q with
    | false => rfl
    | true =>
      unfold goneR at hg
      obtain ⟨o, ho, h2⟩ := List.any_eq_true.1 hg
      unfold delR at hd
      rw [Bool.and_eq_true] at h2
      rw [List.any_eq_true.2 ⟨o, ho, h2.1⟩] at hd
      cases hd
theorem gone_store {w : World} {b n : Nat} {A : List Rec} (h : VMap textKey w b n (goneF A)) (hn : n ≤ 100000000000) (r : Rec) (hr : r.ok) (hd : r.del = true) :
    ∃ w' n', (Instr.mapUpdate 72 (.map (some b)) (.string ⟨r.key.toArray⟩) (.int .u64 (max (gmax A r.key) r.lsn : Nat))).run Tryz.prog w = .ok () w' ∧ VMap textKey w' b n' (goneF (A ++ [r])) ∧ n' ≤ n + 1 ∧ Mod [b] w w' := by
  obtain ⟨w', hrun, hm, hmod⟩ := h.store (e := 32) Tryz.underlying72 (by unfold maxLen; omega) r.key hr.1 (.int .u64 (max (gmax A r.key) r.lsn : Nat))
  refine ⟨w', _, hrun, hm.congr (fun x => ?_), by split <;> omega, hmod⟩
  unfold goneF
  rw [delR_next, gmax_next, hd]
  unfold gmaxF
  by_cases hx : x = r.key
  · simp [hx, hd]
  · have hx' : ¬ r.key = x := fun e => hx e.symm
    simp [hx, hx']
theorem gone_skip (A : List Rec) (r : Rec) (hd : r.del = false) (x : Txt) : goneF (A ++ [r]) x = goneF A x := by
  unfold goneF
  rw [delR_next, gmax_next, hd]
  unfold gmaxF
  simp [hd]
theorem gone_look {w : World} {b n : Nat} {A : List Rec} (h : VMap textKey w b n (goneF A)) (k : Txt) (hk : k.length ≤ maxLen) :
    (Instr.lookup 72 (.map (some b)) (.string ⟨k.toArray⟩) false).run Tryz.prog w = .ok (.int .u64 (gmax A k : Nat)) w := by
  have := h.look_run (e := 32) (z := .int .u64 0) Tryz.underlying72 (by kernel_rfl) k hk
  rw [show textKey.val k = .string ⟨k.toArray⟩ from rfl] at this
  rw [this]
  unfold goneF
  cases hd : delR A k with
  | true => rfl
  | false => rw [gmax_del A k hd]; rfl
def firstR (f : Rec → Bool) : Nat → List Rec → Int
  | _, [] => -1
  | i, q :: t => if f q then i else firstR f (i + 1) t
def opsOf (L : List Entry) : List Rec := L.flatMap (·.ops)
def thereF (N : List Rec) : Txt → Option Value := fun k => if knownR N k then some (.int .i64 1) else none
theorem there_store {w : World} {b n : Nat} {N : List Rec} (h : VMap textKey w b n (thereF N)) (hn : n ≤ 100000000000) (r : Rec) (hr : r.ok) :
    ∃ w' n', (Instr.mapUpdate 75 (.map (some b)) (.string ⟨r.key.toArray⟩) (.int .i64 1)).run Tryz.prog w = .ok () w' ∧ VMap textKey w' b n' (thereF (N ++ [r])) ∧ n' ≤ n + 1 ∧ Mod [b] w w' := by
  obtain ⟨w', hrun, hm, hmod⟩ := h.store (e := 3) Tryz.underlying75 (by unfold maxLen; omega) r.key hr.1 (.int .i64 1)
  refine ⟨w', _, hrun, hm.congr (fun x => ?_), by split <;> omega, hmod⟩
  unfold thereF knownR
  rw [List.any_append]
  by_cases hx : x = r.key
  · simp [hx]
  · have hx' : ¬ r.key = x := fun e => hx e.symm
    simp [hx, hx']
theorem there_look {w : World} {b n : Nat} {N : List Rec} (h : VMap textKey w b n (thereF N)) (k : Txt) (hk : k.length ≤ maxLen) :
    (Instr.lookup 75 (.map (some b)) (.string ⟨k.toArray⟩) false).run Tryz.prog w = .ok (.int .i64 (if knownR N k then 1 else 0)) w := by
  have := h.look_run (e := 3) (z := .int .i64 0) Tryz.underlying75 (by kernel_rfl) k hk
  rw [show textKey.val k = .string ⟨k.toArray⟩ from rfl] at this
  rw [this]
  unfold thereF
  cases knownR N k <;> rfl
theorem firstR_step (f : Rec → Bool) (l : List Rec) (i : Nat) (r : Rec) (h : l[i]? = some r) : firstR f i (l.drop i) = if f r then (i : Int) else firstR f (i + 1) (l.drop (i + 1)) := by
  obtain ⟨h1, rfl⟩ := List.getElem?_eq_some_iff.1 h
  rw [List.drop_eq_getElem_cons h1]
  rfl
def doneOps (L : List Entry) (j : Nat) : List Rec := opsOf (L.take j)
theorem doneOps_next (L : List Entry) (j : Nat) (x : Entry) (h : L[j]? = some x) : doneOps L (j + 1) = doneOps L j ++ x.ops := by
  unfold doneOps opsOf
  rw [List.take_add_one, h, List.flatMap_append]
  simp
theorem take_next {α : Type} (l : List α) (k : Nat) (q : α) (h : l[k]? = some q) : l.take (k + 1) = l.take k ++ [q] := by
  rw [List.take_add_one, h]
  rfl
theorem isR_snoc (B : List Rec) (r q : Rec) : isR (B ++ [r]) q = (isR B q || decide (r = q)) := by unfold isR; rw [List.any_append]; simp
theorem firstR_ge (f : Rec → Bool) (i : Nat) (l : List Rec) : -1 ≤ firstR f i l := by
  induction l generalizing i with
  | nil => exact Int.le_refl _
  | cons q t ih =>
    unfold firstR
    split
    · omega
    · exact ih (i + 1)
theorem firstR_le (f : Rec → Bool) (i : Nat) (l : List Rec) : firstR f i l ≤ (i : Int) + l.length := by
  induction l generalizing i with
  | nil => show (-1 : Int) ≤ _; omega
  | cons q t ih =>
    unfold firstR
    split
    · omega
    · have := ih (i + 1)
      rw [List.length_cons]
      omega
end Go.Proofs.YtecknikehieioaaGreat
