/-
  Texts folded into one: RecKey, LookM, LookP, LookF, LookG, LookB, LookK, LookW, Of, Serial, LookC.
-/
import Derived.Test.YtecknikehieioaaGreatReplay
import Derived.DeepKeys4
import Derived.Test.YtecknikehieioaaGreatIndex
import Derived.Test.YtecknikehieioaaGreatSettleF

/-! ### RecKey -/
namespace Go.Proofs.YtecknikehieioaaGreat
set_option linter.unusedVariables false
set_option linter.unusedSimpArgs false
open Go.RowKit Go.Maps Go.WideMaps

theorem Tryz.laidOut : laidOutB Tryz.prog = true := by kernel_rfl

set_option maxRecDepth 100000 in
theorem rec_key (r : Rec) (h : r.ok) : keyOf Tryz.prog 49 (recV r) = some (.string (keyBytes [.string r.key, .int .u64 (r.lsn : Nat), .bool r.del, .string r.val])) := by
  have hu := Tryz.underlying49
  have u1 := Tryz.underlying9
  have u2 := Tryz.underlying32
  have u3 := Tryz.underlying4
  have hkt : Tryz.prog.keyType 49 = true := by kernel_rfl
  have hc : Tryz.prog.cellsOf 49 = 4 := by kernel_rfl
  have c1 : Tryz.prog.cellsOf 9 = 1 := by kernel_rfl
  have c2 : Tryz.prog.cellsOf 32 = 1 := by kernel_rfl
  have c3 : Tryz.prog.cellsOf 4 = 1 := by kernel_rfl
  obtain ⟨m, hm⟩ : ∃ m, Tryz.prog.types.size = m + 1 := by
    have : (49 : TypeId) < Tryz.prog.types.size := of_decide_eq_true (by kernel_rfl)
    exact Nat.exists_eq_succ_of_ne_zero (fun e => by rw [e] at this; exact Nat.not_lt_zero _ this)
  have hw : (Lit.int .u64 (r.lsn : Nat)).wf = true := by
    have h1 : IntKind.u64.min = 0 := rfl
    have h2 : IntKind.u64.max = 18446744073709551615 := rfl
    have := h.2.2
    simp only [Lit.wf, h1, h2, Bool.and_eq_true, decide_eq_true_eq]
    omega
  have hk1 : (ByteArray.mk r.key.toArray).size ≤ maxLen := by simpa [ByteArray.size] using h.1
  have hv1 : (ByteArray.mk r.val.toArray).size ≤ maxLen := by simpa [ByteArray.size] using h.2.1
  unfold keyOf recV
  simp only [hu]
  rw [if_pos (by simp [hkt, Value.formed, hu, hc]), hm]
  unfold Program.keyLits
  simp only [hu, Value.cells]
  rw [if_pos ⟨by rw [hc]; rfl, by kernel_rfl⟩]
  simp [Program.keyLits, u1, u2, u3, c1, c2, c3, hw, hk1, hv1]
theorem rec_inj {r s : Rec} (h : recV r = recV s) : r = s := by
  unfold recV at h
  injection h with h
  have h := congrArg Array.toList h
  simp only [List.cons.injEq] at h
  obtain ⟨h0, h1, h2, h3, _⟩ := h
  obtain ⟨a, b, c, d⟩ := r
  obtain ⟨a', b', c', d'⟩ := s
  injection h0 with h0; injection h0 with h0; injection h0 with h0
  injection h1 with _ h1
  injection h2 with h2
  injection h3 with h3; injection h3 with h3; injection h3 with h3
  simp only at h0 h1 h2 h3
  subst h0 h2 h3
  have : b = b' := by omega
  subst this
  rfl
theorem rec_law : Keyed Tryz.prog 49 := Keyed.of_law (deep_law_laid Tryz.laidOut (m := 3) (by omega) (of_decide_eq_true (by kernel_rfl)) (by kernel_rfl) (by kernel_rfl))
/-- Keys that are records. -/
def recKey : KeyT 49 Rec where
  val := recV
  lit := fun r => .string (keyBytes [.string r.key, .int .u64 (r.lsn : Nat), .bool r.del, .string r.val])
  ok := Rec.ok
  key := rec_key
  inj := fun x y hx hy e => rec_inj (rec_law.inj (rec_key x hx) (by rw [rec_key y hy, e]))
  law := rec_law
end Go.Proofs.YtecknikehieioaaGreat

/-! ### LookM -/
namespace Go.Proofs.YtecknikehieioaaGreat
set_option linter.unusedVariables false
set_option linter.unusedSimpArgs false
open Go.RowKit Go.Maps

def knownR (l : List Rec) (k : Txt) : Bool := l.any fun q => decide (q.key = k)
def isR (p : List Rec) (r : Rec) : Bool := p.any fun q => decide (q = r)
def goneR (p : List Rec) (q : Rec) : Bool := p.any fun o => decide (o.key = q.key) && o.del && decide (q.lsn ≤ o.lsn)
theorem any_next {α : Type} (f : α → Bool) (l : List α) (k : Nat) (q : α) (h : l[k]? = some q) : (l.take (k + 1)).any f = ((l.take k).any f || f q) := by
  rw [List.take_add_one, h, List.any_append]
  simp
/-- The cells of a record. -/
def RecCellsAt (w : World) (g o : Nat) (r : Rec) : Prop :=
  w.cell? ⟨g, o, none⟩ = some (.string ⟨r.key.toArray⟩) ∧ w.cell? ⟨g, o + 1, none⟩ = some (.int .u64 (r.lsn : Nat)) ∧ w.cell? ⟨g, o + 2, none⟩ = some (.bool r.del) ∧ w.cell? ⟨g, o + 3, none⟩ = some (.string ⟨r.val.toArray⟩)
theorem recs_rowB {w : World} {a : Option Addr} {n c : Nat} {l : List Rec} (h : RowsAt w a n c 4 (recsCells l)) (hl : n = l.length) {i : Nat} (hi : i < n) :
    ∃ (r : Rec) (g o : Nat), l[i]? = some r ∧ r ∈ l ∧ a = some ⟨g, o, none⟩ ∧ ∀ w', Below w.heap.size w w' → RecCellsAt w' g (o + i * 4) r := by
  obtain ⟨r, g, o, h1, h2, h3, h4, d0, d1, d2, d3⟩ := recs_row h hl hi
  exact ⟨r, g, o, h1, h2, h3, fun w' hb => ⟨(hb.cell (p := ⟨g, o + i * 4, none⟩) h4).trans d0, (hb.cell (p := ⟨g, o + i * 4 + 1, none⟩) h4).trans d1, (hb.cell (p := ⟨g, o + i * 4 + 2, none⟩) h4).trans d2, (hb.cell (p := ⟨g, o + i * 4 + 3, none⟩) h4).trans d3⟩⟩
theorem EntsAt.rowB {w : World} {a : Option Addr} {n c : Nat} {z : List EZ} (h : EntsAt w a n c z) {i : Nat} (hi : i < n) :
    ∃ (q : EZ) (g o : Nat), z[i]? = some q ∧ q ∈ z ∧ a = some ⟨g, o, none⟩ ∧ ∀ w', Below w.heap.size w w' → w'.cell? ⟨g, o + i * 3, none⟩ = some (.int .u64 (q.1.ts : Nat)) ∧ w'.cell? ⟨g, o + i * 3 + 1, none⟩ = some (.int .u64 (q.1.first : Nat)) ∧ w'.cell? ⟨g, o + i * 3 + 2, none⟩ = some (.slice q.1.a q.1.n q.1.c) := by
  obtain ⟨q, g, o, h1, h2, h3, h4, d0, d1, d2⟩ := h.row hi
  exact ⟨q, g, o, h1, h2, h3, fun w' hb => ⟨(hb.cell (p := ⟨g, o + i * 3, none⟩) h4).trans d0, (hb.cell (p := ⟨g, o + i * 3 + 1, none⟩) h4).trans d1, (hb.cell (p := ⟨g, o + i * 3 + 2, none⟩) h4).trans d2⟩⟩
/-- The records that are marked with a one. -/
def opsF (p : Rec → Bool) : Rec → Option Value := fun r => if p r then some (.int .i64 1) else none
theorem ops_store {w : World} {b n : Nat} {p : Rec → Bool} (h : VMap recKey w b n (opsF p)) (hn : n ≤ 100000000000) (r : Rec) (hr : r.ok) :
    ∃ w' n', (Instr.mapUpdate 71 (.map (some b)) (recV r) (.int .i64 1)).run Tryz.prog w = .ok () w' ∧ VMap recKey w' b n' (opsF fun q => p q || decide (r = q)) ∧ n' ≤ n + 1 ∧ Mod [b] w w' := by
  obtain ⟨w', hrun, hm, hmod⟩ := h.store (e := 3) Tryz.underlying71 (by unfold maxLen; omega) r hr (.int .i64 1)
  refine ⟨w', _, hrun, hm.congr (fun x => ?_), by split <;> omega, hmod⟩
  unfold opsF
  by_cases hx : x = r
  · simp [hx]
  · have hx' : ¬ r = x := fun e => hx e.symm
    simp [hx, hx']
theorem ops_look {w : World} {b n : Nat} {p : Rec → Bool} (h : VMap recKey w b n (opsF p)) (r : Rec) (hr : r.ok) :
    (Instr.lookup 71 (.map (some b)) (recV r) false).run Tryz.prog w = .ok (.int .i64 (if p r then 1 else 0)) w := by
  have := h.look_run (e := 3) (z := .int .i64 0) Tryz.underlying71 (by kernel_rfl) r hr
  rw [show recKey.val r = recV r from rfl] at this
  rw [this]
  unfold opsF
  cases p r <;> rfl
def delR (A : List Rec) (k : Txt) : Bool := A.any fun o => decide (o.key = k) && o.del
def gmaxF (k : Txt) (m : Nat) (o : Rec) : Nat := if o.key = k ∧ o.del = true then max m o.lsn else m
def gmax (A : List Rec) (k : Txt) : Nat := A.foldl (gmaxF k) 0
def goneF (A : List Rec) : Txt → Option Value := fun k => if delR A k then some (.int .u64 (gmax A k : Nat)) else none
theorem delR_next (A : List Rec) (r : Rec) (k : Txt) : delR (A ++ [r]) k = (delR A k || (decide (r.key = k) && r.del)) := by unfold delR; rw [List.any_append]; simp
theorem gmax_next (A : List Rec) (r : Rec) (k : Txt) : gmax (A ++ [r]) k = gmaxF k (gmax A k) r := by unfold gmax; rw [List.foldl_append]; rfl
theorem gmax_del (A : List Rec) (k : Txt) (h : delR A k = false) : gmax A k = 0 := by
  have : ∀ (A : List Rec) (m : Nat), A.any (fun o => decide (o.key = k) && o.del) = false → A.foldl (gmaxF k) m = m := by
    intro A
    induction A with
    | nil => intro m _; rfl
    | cons r t ih =>
      intro m h
      rw [List.any_cons, Bool.or_eq_false_iff] at h
      rw [List.foldl_cons, show gmaxF k m r = m from ?_, ih m h.2]
      unfold gmaxF
      rw [if_neg]
      rintro ⟨h1, h2⟩
      rw [h1, h2] at h
      simp at h
  exact this A 0 h
theorem gmax_lt (A : List Rec) (k : Txt) (h : ∀ r ∈ A, r.lsn < 18446744073709551616) : gmax A k < 18446744073709551616 := by
  have : ∀ (A : List Rec) (m : Nat), m < 18446744073709551616 → (∀ r ∈ A, r.lsn < 18446744073709551616) → A.foldl (gmaxF k) m < 18446744073709551616 := by
    intro A
    induction A with
    | nil => intro m h _; exact h
    | cons r t ih =>
      intro m h h2
      rw [List.foldl_cons]
      refine ih _ ?_ (fun q hq => h2 q (List.mem_cons_of_mem _ hq))
      unfold gmaxF
      have := h2 r (by simp)
      split
      · omega
      · exact h
  exact this A 0 (by omega) h
theorem gmax_ge (A : List Rec) (q : Rec) : (delR A q.key && decide (q.lsn ≤ gmax A q.key)) = goneR A q := by
  have : ∀ (A : List Rec) (m : Nat), decide (q.lsn ≤ A.foldl (gmaxF q.key) m) = (decide (q.lsn ≤ m) || goneR A q) := by
    intro A
    induction A with
    | nil =>
      intro m
      show decide (q.lsn ≤ m) = (decide (q.lsn ≤ m) || false)
      rw [Bool.or_false]
    | cons r t ih =>
      intro m
      rw [List.foldl_cons, ih]
      have e : goneR (r :: t) q = ((decide (r.key = q.key) && r.del && decide (q.lsn ≤ r.lsn)) || goneR t q) := rfl
      rw [e]
      unfold gmaxF
      by_cases h1 : r.key = q.key
      · cases h2 : r.del with
        | true =>
          rw [if_pos ⟨h1, rfl⟩, decide_eq_true h1, Bool.true_and, Bool.true_and, ← Bool.or_assoc]
          congr 1
          by_cases h3 : q.lsn ≤ m <;> by_cases h4 : q.lsn ≤ r.lsn <;> simp [h3, h4] <;> omega
        | false => rw [if_neg (by simp), Bool.and_false, Bool.false_and, Bool.false_or]
      · rw [if_neg (fun h => h1 h.1), decide_eq_false h1, Bool.false_and, Bool.false_and, Bool.false_or]
  have h0 := this A 0
  change decide (q.lsn ≤ gmax A q.key) = _ at h0
  rw [h0]
  cases hd : delR A q.key with
  | true =>
    by_cases h1 : q.lsn ≤ 0
    · have : goneR A q = true := by
        unfold delR at hd
        obtain ⟨o, ho, h2⟩ := List.any_eq_true.1 hd
        refine List.any_eq_true.2 ⟨o, ho, ?_⟩
        rw [h2, decide_eq_true (by omega : q.lsn ≤ o.lsn)]
        rfl
      rw [this]
      simp
    · rw [decide_eq_false h1]
      simp
  | false =>
    rw [Bool.false_and]
    cases hg : goneR A q with
    | false => rfl
    | true =>
      unfold goneR at hg
      obtain ⟨o, ho, h2⟩ := List.any_eq_true.1 hg
      unfold delR at hd
      rw [Bool.and_eq_true] at h2
      rw [List.any_eq_true.2 ⟨o, ho, h2.1⟩] at hd
      cases hd
theorem gone_store {w : World} {b n : Nat} {A : List Rec} (h : VMap textKey w b n (goneF A)) (hn : n ≤ 100000000000) (r : Rec) (hr : r.ok) (hd : r.del = true) :
    ∃ w' n', (Instr.mapUpdate 72 (.map (some b)) (.string ⟨r.key.toArray⟩) (.int .u64 (max (gmax A r.key) r.lsn : Nat))).run Tryz.prog w = .ok () w' ∧ VMap textKey w' b n' (goneF (A ++ [r])) ∧ n' ≤ n + 1 ∧ Mod [b] w w' := by
  obtain ⟨w', hrun, hm, hmod⟩ := h.store (e := 32) Tryz.underlying72 (by unfold maxLen; omega) r.key hr.1 (.int .u64 (max (gmax A r.key) r.lsn : Nat))
  refine ⟨w', _, hrun, hm.congr (fun x => ?_), by split <;> omega, hmod⟩
  unfold goneF
  rw [delR_next, gmax_next, hd]
  unfold gmaxF
  by_cases hx : x = r.key
  · simp [hx, hd]
  · have hx' : ¬ r.key = x := fun e => hx e.symm
    simp [hx, hx']
theorem gone_skip (A : List Rec) (r : Rec) (hd : r.del = false) (x : Txt) : goneF (A ++ [r]) x = goneF A x := by
  unfold goneF
  rw [delR_next, gmax_next, hd]
  unfold gmaxF
  simp [hd]
theorem gone_look {w : World} {b n : Nat} {A : List Rec} (h : VMap textKey w b n (goneF A)) (k : Txt) (hk : k.length ≤ maxLen) :
    (Instr.lookup 72 (.map (some b)) (.string ⟨k.toArray⟩) false).run Tryz.prog w = .ok (.int .u64 (gmax A k : Nat)) w := by
  have := h.look_run (e := 32) (z := .int .u64 0) Tryz.underlying72 (by kernel_rfl) k hk
  rw [show textKey.val k = .string ⟨k.toArray⟩ from rfl] at this
  rw [this]
  unfold goneF
  cases hd : delR A k with
  | true => rfl
  | false => rw [gmax_del A k hd]; rfl
def firstR (f : Rec → Bool) : Nat → List Rec → Int
  | _, [] => -1
  | i, q :: t => if f q then i else firstR f (i + 1) t
def opsOf (L : List Entry) : List Rec := L.flatMap (·.ops)
def thereF (N : List Rec) : Txt → Option Value := fun k => if knownR N k then some (.int .i64 1) else none
theorem there_store {w : World} {b n : Nat} {N : List Rec} (h : VMap textKey w b n (thereF N)) (hn : n ≤ 100000000000) (r : Rec) (hr : r.ok) :
    ∃ w' n', (Instr.mapUpdate 75 (.map (some b)) (.string ⟨r.key.toArray⟩) (.int .i64 1)).run Tryz.prog w = .ok () w' ∧ VMap textKey w' b n' (thereF (N ++ [r])) ∧ n' ≤ n + 1 ∧ Mod [b] w w' := by
  obtain ⟨w', hrun, hm, hmod⟩ := h.store (e := 3) Tryz.underlying75 (by unfold maxLen; omega) r.key hr.1 (.int .i64 1)
  refine ⟨w', _, hrun, hm.congr (fun x => ?_), by split <;> omega, hmod⟩
  unfold thereF knownR
  rw [List.any_append]
  by_cases hx : x = r.key
  · simp [hx]
  · have hx' : ¬ r.key = x := fun e => hx e.symm
    simp [hx, hx']
theorem there_look {w : World} {b n : Nat} {N : List Rec} (h : VMap textKey w b n (thereF N)) (k : Txt) (hk : k.length ≤ maxLen) :
    (Instr.lookup 75 (.map (some b)) (.string ⟨k.toArray⟩) false).run Tryz.prog w = .ok (.int .i64 (if knownR N k then 1 else 0)) w := by
  have := h.look_run (e := 3) (z := .int .i64 0) Tryz.underlying75 (by kernel_rfl) k hk
  rw [show textKey.val k = .string ⟨k.toArray⟩ from rfl] at this
  rw [this]
  unfold thereF
  cases knownR N k <;> rfl
theorem firstR_step (f : Rec → Bool) (l : List Rec) (i : Nat) (r : Rec) (h : l[i]? = some r) : firstR f i (l.drop i) = if f r then (i : Int) else firstR f (i + 1) (l.drop (i + 1)) := by
  obtain ⟨h1, rfl⟩ := List.getElem?_eq_some_iff.1 h
  rw [List.drop_eq_getElem_cons h1]
  rfl
def doneOps (L : List Entry) (j : Nat) : List Rec := opsOf (L.take j)
theorem doneOps_next (L : List Entry) (j : Nat) (x : Entry) (h : L[j]? = some x) : doneOps L (j + 1) = doneOps L j ++ x.ops := by
  unfold doneOps opsOf
  rw [List.take_add_one, h, List.flatMap_append]
  simp
theorem take_next {α : Type} (l : List α) (k : Nat) (q : α) (h : l[k]? = some q) : l.take (k + 1) = l.take k ++ [q] := by
  rw [List.take_add_one, h]
  rfl
theorem isR_snoc (B : List Rec) (r q : Rec) : isR (B ++ [r]) q = (isR B q || decide (r = q)) := by unfold isR; rw [List.any_append]; simp
theorem firstR_ge (f : Rec → Bool) (i : Nat) (l : List Rec) : -1 ≤ firstR f i l := by
  induction l generalizing i with
  | nil => exact Int.le_refl _
  | cons q t ih =>
    unfold firstR
    split
    · omega
    · exact ih (i + 1)
theorem firstR_le (f : Rec → Bool) (i : Nat) (l : List Rec) : firstR f i l ≤ (i : Int) + l.length := by
  induction l generalizing i with
  | nil => show (-1 : Int) ≤ _; omega
  | cons q t ih =>
    unfold firstR
    split
    · omega
    · have := ih (i + 1)
      rw [List.length_cons]
      omega
end Go.Proofs.YtecknikehieioaaGreat

/-! ### LookP -/
namespace Go.Proofs.YtecknikehieioaaGreat
set_option linter.unusedVariables false
set_option linter.unusedSimpArgs false
open Go.RowKit Go.Maps

/-- What is seen, as it lies. -/
structure Sn where
  tcUp : Bool
  dcUp : Bool
  ready : Bool
  sync : Bool
  base : Nat
  stable : Nat
  last : Nat
  eosl : Nat
  low : Nat
  ca : Option Addr
  cn : Nat
  cc : Nat
  aa : Option Addr
  an : Nat
  ac : Nat
  fly : Int
def snCells (s : Sn) : List Value := [.bool s.tcUp, .bool s.dcUp, .bool s.ready, .bool s.sync, .int .u64 (s.base : Nat), .int .u64 (s.stable : Nat), .int .u64 (s.last : Nat), .int .u64 (s.eosl : Nat), .int .u64 (s.low : Nat), .slice s.ca s.cn s.cc, .slice s.aa s.an s.ac, .int .i64 s.fly]

/-! Kept -/
def wroteK (m : Md) : Bool := m.dn && (decide (m.err = 0) && (decide (m.kind = 3) || decide (m.kind = 4)))
def wroteB (Z : List MZ) (ts : Nat) : Bool := Z.any fun q => wroteK q.1 && decide (q.1.ts = ts)
def askedB (Z : List MZ) (ts : Nat) : Bool := Z.any fun q => askC ts q.1
def entB (L : List Entry) (ts : Nat) : Bool := L.any fun x => decide (x.ts = ts)
def keptC (Z : List MZ) (L : List Entry) (m : Md) : Bool := decide (m.kind = 5) && (m.dn && (decide (m.err = 0) && (wroteB Z m.ts && !entB L m.ts)))
def nextK (nx : Nat) (x : Entry) : Nat := match x.ops.getLast? with | none => nx | some r => (r.lsn + 1) % 18446744073709551616
def badE (Z : List MZ) (D : List Entry) (nx : Nat) (x : Entry) : Bool := !askedB Z x.ts || (entB D x.ts || !decide (x.first = nx))
def scanK (Z : List MZ) : List Entry → Nat → Nat → List Entry → Int
  | _, _, _, [] => -1
  | D, nx, i, x :: t => if badE Z D nx x then (i : Int) else scanK Z (D ++ [x]) (nextK nx x) (i + 1) t
def keptL (Z : List MZ) (L : List Entry) : Int :=
  if 0 ≤ firstAt (keptC Z L) 0 Z then firstAt (keptC Z L) 0 Z else if scanK Z [] 1 0 L < 0 then -1 else Z.length + scanK Z [] 1 0 L
theorem scanK_step (Z : List MZ) (L : List Entry) (nx i : Nat) (x : Entry) (h : L[i]? = some x) : scanK Z (L.take i) nx i (L.drop i) = if badE Z (L.take i) nx x then (i : Int) else scanK Z (L.take (i + 1)) (nextK nx x) (i + 1) (L.drop (i + 1)) := by
  obtain ⟨h1, rfl⟩ := List.getElem?_eq_some_iff.1 h
  rw [List.drop_eq_getElem_cons h1, List.take_add_one, List.getElem?_eq_getElem h1]
  rfl
theorem scanK_ge (Z : List MZ) (L D : List Entry) (nx i : Nat) : -1 ≤ scanK Z D nx i L ∧ scanK Z D nx i L ≤ (i : Int) + L.length := by
  induction L generalizing D nx i with
  | nil => exact ⟨Int.le_refl _, by show (-1 : Int) ≤ _; omega⟩
  | cons x t ih =>
    unfold scanK
    have := ih (D ++ [x]) (nextK nx x) (i + 1)
    rw [List.length_cons]
    split <;> omega
theorem nextK_lt (nx : Nat) (x : Entry) (h : nx < 18446744073709551616) : nextK nx x < 18446744073709551616 := by
  unfold nextK
  split
  · exact h
  · omega

/-! Tree -/
def deld (r : Rec) : Rec := { r with del := true }
def badT (st : Nat) (A : List Rec) (p : Option Rec) (r : Rec) : Bool := (decide (r.lsn ≤ st) && !isR A r) || (match p with | none => false | some p => !decide (p.key < r.key))
def scanT (st : Nat) (A : List Rec) : Option Rec → Nat → List Rec → Int
  | _, _, [] => -1
  | p, i, r :: t => if badT st A p r then (i : Int) else scanT st A (some r) (i + 1) t
def maxN (N : List Rec) (k : Txt) : Nat := gmax (N.map deld) k
def badO (last st low : Nat) (N A : List Rec) (x : Rec) : Bool := decide (last ≤ st) && (decide (x.lsn ≤ low) && (!x.del && (!(knownR N x.key && decide (x.lsn ≤ maxN N x.key)) && decide (gmax A x.key ≤ x.lsn))))
def treeL (up : Bool) (last st low : Nat) (N A : List Rec) : Int :=
  if up then
    if 0 ≤ scanT st A none 0 N then scanT st A none 0 N else if firstR (badO last st low N A) 0 A < 0 then -1 else N.length + firstR (badO last st low N A) 0 A
  else -1
/-- The last one of the first i. -/
def prevT (N : List Rec) (i : Nat) : Option Rec := (N.take i).getLast?
theorem prevT_next (N : List Rec) (i : Nat) (r : Rec) (h : N[i]? = some r) : prevT N (i + 1) = some r := by
  unfold prevT
  rw [List.take_add_one, h]
  simp
theorem scanT_step (st : Nat) (A N : List Rec) (i : Nat) (r : Rec) (h : N[i]? = some r) : scanT st A (prevT N i) i (N.drop i) = if badT st A (prevT N i) r then (i : Int) else scanT st A (prevT N (i + 1)) (i + 1) (N.drop (i + 1)) := by
  rw [prevT_next N i r h]
  obtain ⟨h1, rfl⟩ := List.getElem?_eq_some_iff.1 h
  rw [List.drop_eq_getElem_cons h1]
  rfl
theorem scanT_ge (st : Nat) (A N : List Rec) (p : Option Rec) (i : Nat) : -1 ≤ scanT st A p i N ∧ scanT st A p i N ≤ (i : Int) + N.length := by
  induction N generalizing p i with
  | nil => exact ⟨Int.le_refl _, by show (-1 : Int) ≤ _; omega⟩
  | cons x t ih =>
    unfold scanT
    have := ih (some x) (i + 1)
    rw [List.length_cons]
    split <;> omega
theorem delR_deld (N : List Rec) (k : Txt) : delR (N.map deld) k = knownR N k := by
  unfold delR knownR
  rw [List.any_map]
  congr 1
  funext o
  show (decide (o.key = k) && true) = decide (o.key = k)
  rw [Bool.and_true]
/-- What the document asks of an operation. -/
def badD (last st low : Nat) (N A : List Rec) (x : Rec) : Bool := !(decide (low < x.lsn) || x.del || decide (st < last) || (N.any fun o => decide (o.key = x.key) && decide (x.lsn ≤ o.lsn)) || (A.any fun o => o.del && decide (o.key = x.key) && decide (x.lsn < o.lsn)))
theorem maxN_ge (N : List Rec) (x : Rec) : (knownR N x.key && decide (x.lsn ≤ maxN N x.key)) = N.any fun o => decide (o.key = x.key) && decide (x.lsn ≤ o.lsn) := by
  have := gmax_ge (N.map deld) x
  rw [delR_deld] at this
  unfold maxN
  rw [this]
  unfold goneR
  rw [List.any_map]
  congr 1
  funext o
  show (decide (o.key = x.key) && true && decide (x.lsn ≤ o.lsn)) = _
  rw [Bool.and_true]
theorem gmax_le (A : List Rec) (x : Rec) : decide (gmax A x.key ≤ x.lsn) = !(A.any fun o => o.del && decide (o.key = x.key) && decide (x.lsn < o.lsn)) := by
  have : ∀ (A : List Rec) (m : Nat), decide (A.foldl (gmaxF x.key) m ≤ x.lsn) = (decide (m ≤ x.lsn) && !(A.any fun o => o.del && decide (o.key = x.key) && decide (x.lsn < o.lsn))) := by
    intro A
    induction A with
    | nil =>
      intro m
      show decide (m ≤ x.lsn) = (decide (m ≤ x.lsn) && true)
      rw [Bool.and_true]
    | cons r t ih =>
      intro m
      rw [List.foldl_cons, ih, List.any_cons]
      unfold gmaxF
      by_cases h1 : r.key = x.key
      · cases h2 : r.del with
        | true =>
          rw [if_pos ⟨h1, rfl⟩, decide_eq_true h1, Bool.not_or, ← Bool.and_assoc]
          congr 1
          by_cases h3 : m ≤ x.lsn <;> by_cases h4 : x.lsn < r.lsn <;> simp [h3, h4] <;> omega
        | false => rw [if_neg (by simp)]; simp
      · rw [if_neg (fun h => h1 h.1), decide_eq_false h1]; simp
  have h0 := this A 0
  rw [show decide (0 ≤ x.lsn) = true from decide_eq_true (Nat.zero_le _), Bool.true_and] at h0
  exact h0
theorem badO_eq (last st low : Nat) (N A : List Rec) (x : Rec) : badO last st low N A x = badD last st low N A x := by
  unfold badO badD
  rw [maxN_ge, gmax_le]
  generalize (N.any fun o => decide (o.key = x.key) && decide (x.lsn ≤ o.lsn)) = a
  generalize (A.any fun o => o.del && decide (o.key = x.key) && decide (x.lsn < o.lsn)) = b
  have e1 : decide (low < x.lsn) = !decide (x.lsn ≤ low) := by by_cases h : x.lsn ≤ low <;> simp [h] <;> omega
  have e2 : decide (st < last) = !decide (last ≤ st) := by by_cases h : last ≤ st <;> simp [h] <;> omega
  rw [e1, e2]
  cases decide (x.lsn ≤ low) <;> cases decide (last ≤ st) <;> cases x.del <;> cases a <;> cases b <;> rfl

/-! Bounds, Quiet -/
def ascB (T : List Nat) : Bool := decide (T.Pairwise fun a b => a < b)
def boundsL (s : Sn) (T : List Nat) : Bool :=
  (!s.tcUp || (decide (s.base ≤ s.stable) && decide (s.stable ≤ s.last))) && ((!s.dcUp || decide (s.low ≤ s.eosl)) && ((!s.tcUp || (!s.dcUp || decide (s.eosl ≤ s.stable))) && ((decide (T.length ≤ 6) && (decide (0 ≤ s.fly) && decide (s.fly ≤ 400))) && ascB T)))
def quietL (s : Sn) (T : List Nat) (Z : List MZ) : Bool :=
  (s.tcUp && (s.dcUp && (s.ready && decide (T.length = 0)))) && ((decide (s.low = s.eosl) && (decide (s.eosl = s.stable) && decide (s.stable = s.last))) && Z.all fun q => q.1.dn)
end Go.Proofs.YtecknikehieioaaGreat

/-! ### LookF -/
namespace Go.Proofs.YtecknikehieioaaGreat
set_option linter.unusedVariables false
set_option linter.unusedSimpArgs false
open Go.RowKit Go.Maps

theorem behind_any (n m : Int) (hn : -1 ≤ n ∧ n ≤ 1000000000) (hm : 0 ≤ m ∧ m ≤ 1000000000) (w : World) : Calls Tryz.prog 32 #[.int .i64 n, .int .i64 m] w fun e w' => e = .returned (.int .i64 (if n < 0 then -1 else m + n)) ∧ w = w' := by
  by_cases h : n < 0
  · obtain rfl : n = -1 := by omega
    go_enter Tryz.func32, Tryz.ntmps32
    go_wp2_with fail
    go_ret
    exact ⟨rfl, rfl⟩
  · rw [if_neg h]
    go_enter Tryz.func32, Tryz.ntmps32
    go_wp2_with fail
    go_ret
    exact ⟨rfl, rfl⟩
def askF (Z : List MZ) : Nat → Option Value := fun ts => if askedB Z ts then some (.int .i64 1) else none
def wroF (Z : List MZ) : Nat → Option Value := fun ts => if wroteB Z ts then some (.int .i64 1) else none
def cntE (L : List Entry) (ts : Nat) : Nat := (L.filter fun x => decide (x.ts = ts)).length
def cntF (L : List Entry) : Nat → Option Value := fun ts => if entB L ts then some (.int .i64 (cntE L ts : Nat)) else none
theorem cntE_zero (L : List Entry) (ts : Nat) (h : entB L ts = false) : cntE L ts = 0 := by
  unfold cntE
  rw [List.length_eq_zero_iff, List.filter_eq_nil_iff]
  intro x hx hc
  unfold entB at h
  rw [List.any_eq_false] at h
  exact h x hx hc
theorem cntE_pos (L : List Entry) (ts : Nat) (h : entB L ts = true) : 0 < cntE L ts := by
  unfold cntE
  unfold entB at h
  obtain ⟨x, hx, hc⟩ := List.any_eq_true.1 h
  exact List.length_pos_iff_exists_mem.2 ⟨x, List.mem_filter.2 ⟨hx, hc⟩⟩
theorem cntE_le (L : List Entry) (ts : Nat) : cntE L ts ≤ L.length := List.length_filter_le _ _
theorem num_look {w : World} {b n : Nat} {F : Nat → Option Value} (h : VMap numKey w b n F) (ts : Nat) (hts : ts < 2 ^ 64) :
    (Instr.lookup 61 (.map (some b)) (.int .u64 (ts : Nat)) false).run Tryz.prog w = .ok ((F ts).getD (.int .i64 0)) w := by
  have := h.look_run (e := 3) (z := .int .i64 0) Tryz.underlying61 (by kernel_rfl) ts hts
  rw [show numKey.val ts = .int .u64 (ts : Nat) from rfl] at this
  exact this
theorem num_store {w : World} {b n : Nat} {F : Nat → Option Value} (h : VMap numKey w b n F) (hn : n ≤ 100000000) (ts : Nat) (hts : ts < 2 ^ 64) (v : Int) :
    ∃ w', (Instr.mapUpdate 61 (.map (some b)) (.int .u64 (ts : Nat)) (.int .i64 v)).run Tryz.prog w = .ok () w' ∧ (∃ k, k ≤ n + 1 ∧ VMap numKey w' b k (fun y => if y = ts then some (.int .i64 v) else F y)) ∧ Mod [b] w w' := by
  obtain ⟨w', hrun, hm, hmod⟩ := h.store (e := 3) Tryz.underlying61 (by unfold maxLen; omega) ts hts (.int .i64 v)
  rw [show numKey.val ts = .int .u64 (ts : Nat) from rfl] at hrun
  exact ⟨w', hrun, ⟨_, by split <;> omega, hm⟩, hmod⟩
/-- What Kept's first question finds. -/
structure Kept1At (w : World) (wx ex wb eb : Nat) (Z : List MZ) (L : List Entry) : Prop where
  wc : w.cell? ⟨wx, 0, none⟩ = some (.map (some wb))
  ec : w.cell? ⟨ex, 0, none⟩ = some (.map (some eb))
  wl : wx < w.heap.size
  el : ex < w.heap.size
  wrote : ∃ n, VMap numKey w wb n (wroF Z)
  ents : ∃ n, VMap numKey w eb n (cntF L)
theorem Kept1At.on {w w' : World} {wx ex wb eb : Nat} {Z : List MZ} {L : List Entry} (h : Kept1At w wx ex wb eb Z L) (hb : Below w.heap.size w w') : Kept1At w' wx ex wb eb Z L := by
  obtain ⟨n1, h1⟩ := h.wrote
  obtain ⟨n2, h2⟩ := h.ents
  exact ⟨(hb.cell (p := ⟨wx, 0, none⟩) h.wl).trans h.wc, (hb.cell (p := ⟨ex, 0, none⟩) h.el).trans h.ec, Nat.lt_of_lt_of_le h.wl hb.size, Nat.lt_of_lt_of_le h.el hb.size, ⟨n1, h1.on hb⟩, ⟨n2, h2.on hb⟩⟩
set_option maxRecDepth 100000 in
set_option maxHeartbeats 4000000 in
theorem kept1_any (w : World) (i : Int) (wx ex wb eb : Nat) (Z : List MZ) (L : List Entry) (h : Kept1At w wx ex wb eb Z L) (x : Md) (hts : x.ts < 18446744073709551616) :
    Calls Tryz.prog 31 #[.int .i64 i, .agg (mdCells x).toArray, .pointer (some ⟨wx, 0, none⟩), .pointer (some ⟨ex, 0, none⟩)] w fun e w' => e = .returned (.bool (keptC Z L x)) ∧ Below w.heap.size w w' := by
  have hbn := (Below.refl w.heap.size w).alloc (Nat.le_refl _) (.cells (mdCells x).toArray 40)
  have HBN := Lib.hid hbn
  have HX := Lib.hid (md_box w x)
  have H := Lib.hid (h.on hbn)
  clear hbn h
  go_enter Tryz.func31, Tryz.ntmps31
  go_upto_region 1 with fail
  generalize w.alloc (.cells (mdCells x).toArray 40) = w1 at *
  obtain ⟨d0, _, d2, _, _, _, _, d7, _, _, d10, _⟩ := HX.out
  simp only [Nat.zero_add] at d2 d7 d10
  have b0 := H.out.wc
  have b1 := H.out.ec
  obtain ⟨n1, m1⟩ := H.out.wrote
  obtain ⟨n2, m2⟩ := H.out.ents
  have l0 := num_look m1 x.ts hts
  have l1 := num_look m2 x.ts hts
  unfold wroF at l0
  unfold cntF at l1
  clear m1 m2 H HX
  have HE := Lib.hid (show keptC Z L x = (decide (x.kind = 5) && (x.dn && (decide (x.err = 0) && (wroteB Z x.ts && !entB L x.ts)))) from rfl)
  have HP := Lib.hid (cntE_pos L x.ts)
  by_cases h1 : x.kind = 5
  · rw [h1] at d2
    cases h2 : x.dn with
    | true =>
      rw [h2] at d7
      by_cases h3 : x.err = 0
      · rw [h3] at d10
        cases h4 : wroteB Z x.ts with
        | true =>
          rw [h4, if_pos rfl] at l0
          cases h5 : entB L x.ts with
          | true =>
            rw [h5, if_pos rfl] at l1
            have hp := HP.out h5
            have e5 : (((cntE L x.ts : Nat) : Int) == 0) = false := by simp; omega
            have HR := Lib.hid (show keptC Z L x = false by rw [HE.out, h5]; simp)
            clear h1 h2 h3 h4 h5 HE HP
            go_wp2_with fail
            go_ret
            exact ⟨by rw [HR.out]; first | rfl | (simp; omega), HBN.out⟩
          | false =>
            rw [h5, if_neg (by decide)] at l1
            have HR := Lib.hid (show keptC Z L x = true by rw [HE.out, h1, h2, h3, h4, h5]; rfl)
            clear h1 h2 h3 h4 h5 HE HP
            go_wp2_with fail
            go_ret
            exact ⟨by rw [HR.out]; try rfl, HBN.out⟩
        | false =>
          rw [h4, if_neg (by decide)] at l0
          have HR := Lib.hid (show keptC Z L x = false by rw [HE.out, h4]; simp)
          clear h1 h2 h3 h4 l1 HE HP
          go_wp2_with fail
          go_ret
          exact ⟨by rw [HR.out]; try rfl, HBN.out⟩
      · have e3 : (x.err == 0) = false := beq_eq_false_iff_ne.2 h3
        have HR := Lib.hid (show keptC Z L x = false by rw [HE.out, decide_eq_false h3]; simp)
        clear h1 h2 h3 l0 l1 HE HP
        go_wp2_with fail
        go_ret
        exact ⟨by rw [HR.out]; try rfl, HBN.out⟩
    | false =>
      rw [h2] at d7
      have HR := Lib.hid (show keptC Z L x = false by rw [HE.out, h2]; simp)
      clear h1 h2 l0 l1 HE HP
      go_wp2_with fail
      go_ret
      exact ⟨by rw [HR.out]; try rfl, HBN.out⟩
  · have e1 : (x.kind == 5) = false := beq_eq_false_iff_ne.2 h1
    have HR := Lib.hid (show keptC Z L x = false by rw [HE.out, decide_eq_false h1]; rfl)
    clear h1 l0 l1 HE HP
    go_wp2_with fail
    go_ret
    exact ⟨by rw [HR.out]; try rfl, HBN.out⟩

set_option maxRecDepth 100000 in
set_option maxHeartbeats 4000000 in
theorem firstK_any (w : World) (f : Md → Bool) (wx ex : Nat) (am : Option Addr) (nm cm : Nat) (zm : List MZ) (hm : MadeAt w am nm cm zm) (hnm : nm ≤ 100000)
    (hf : ∀ w' (i : Nat) q, q ∈ zm → Below w.heap.size w w' → Calls Tryz.prog 31 #[.int .i64 i, .agg (mdCells q.1).toArray, .pointer (some ⟨wx, 0, none⟩), .pointer (some ⟨ex, 0, none⟩)] w' fun e w'' => e = .returned (.bool (f q.1)) ∧ Below w'.heap.size w' w'') :
    Calls Tryz.prog 30 #[.slice am nm cm, .func (.func 31) #[] #[.pointer (some ⟨wx, 0, none⟩), .pointer (some ⟨ex, 0, none⟩)]] w fun e w' => e = .returned (.int .i64 (firstAt f 0 zm)) ∧ Below w.heap.size w w' := by
  have HMM := Lib.hid hm
  have HF := Lib.hid hf
  clear hm hf
  go_enter Tryz.func30, Tryz.ntmps30
  go_wp2_with fail
  go_loopw [4, 5, 6, 9] (fun _ _ _ s9 wr => ∃ i : Nat, i ≤ nm ∧ s9 = .int .i64 i ∧ firstAt f 0 zm = firstAt f i (zm.drop i) ∧ Below w.heap.size w wr) (fun _ _ _ s9 _ => nm - (intOf s9).toNat)
  case atStart => exact ⟨0, by omega, rfl, rfl, Below.refl _ _⟩
  case round =>
    obtain ⟨i, hi, rfl, hfi, hb⟩ := hrel
    by_cases hlt : i < nm
    · have hil : (i : Int) < (nm : Int) := by omega
      obtain ⟨q, g, o, hq, hqz, rfl, hg, hc⟩ := (HMM.out.on hb).row hlt
      have HN := Lib.hid (show firstAt f 0 zm = if f q.1 then (i : Int) else firstAt f (i + 1) (zm.drop (i + 1)) by rw [hfi, firstAt_drop _ _ _ _ hq])
      have HC := Lib.hid hc
      have hBn := (Below.refl wr.heap.size wr).alloc (Nat.le_refl _) (.cells (mdCells q.1).toArray 40)
      have HBox := Lib.hid (md_box wr q.1)
      have HB := Lib.hid (hb.trans (hBn.mono hb.size))
      have HS := Lib.hid (HF.out (wr.alloc (.cells (mdCells q.1).toArray 40)) i q hqz HB.out)
      clear hfi hq hqz hc hb hBn
      go_upto_region 4 with (first | ((with_reducible refine wpList_loadM rfl _ rfl _ _ _ HC.out ?_ ?_); rfl) | ((with_reducible refine wpList_storeM rfl _ _ rfl _ q.1 ?_ ?_ ?_); rfl; rfl))
      go_frame
      go_wp2_with ((with_reducible refine wpList_loadM rfl _ rfl _ _ _ HBox.out ?_ ?_); rfl)
      refine HS.out.mono ?_
      rintro e w2 ⟨rfl, hb2⟩
      have HB2 := Lib.hid (HB.out.trans (hb2.mono HB.out.size))
      clear hb2
      cases hak : f q.1 with
      | true =>
        have HR := Lib.hid (show firstAt f 0 zm = (i : Int) by rw [HN.out, hak]; rfl)
        clear hak
        go_wp2_with fail
        go_ret
        exact ⟨by rw [HR.out]; try rfl, HB2.out⟩
      | false =>
        have HR := Lib.hid (show firstAt f 0 zm = firstAt f (i + 1) (zm.drop (i + 1)) by rw [HN.out, hak]; rfl)
        clear hak
        go_wp2_with fail
        go_roundw
        case rel => exact ⟨i + 1, by omega, by go_num, HR.out, HB2.out⟩
        case measure => simp [intOf]; omega
    · have hge : ¬ (i : Int) < (nm : Int) := by omega
      have HR := Lib.hid (show firstAt f 0 zm = -1 by
        have hin : i = zm.length := by rw [HMM.out.len]; omega
        rw [hfi, hin, List.drop_eq_nil_of_le (Nat.le_refl _)]; rfl)
      have HB := Lib.hid hb
      clear hfi hb
      go_wp2_with fail
      go_ret
      exact ⟨by rw [HR.out]; try rfl, HB.out⟩

/-- What Kept's second question finds, and keeps. -/
structure Kept2At (w : World) (ax mx nb ab mb : Nat) (Z : List MZ) (D : List Entry) (nx : Nat) : Prop where
  ac : w.cell? ⟨ax, 0, none⟩ = some (.map (some ab))
  mc : w.cell? ⟨mx, 0, none⟩ = some (.map (some mb))
  nc : Blk w nb [.int .u64 (nx : Nat)] 32
  al : ax < w.heap.size
  ml : mx < w.heap.size
  ask : ∃ n, VMap numKey w ab n (askF Z)
  met : ∃ n, n ≤ D.length ∧ VMap numKey w mb n (oneF (D.map (·.ts)) (.int .i64 1))
  n1 : ax ≠ nb ∧ ax ≠ mb
  n2 : mx ≠ nb ∧ mx ≠ mb
  n3 : nb ≠ mb
  n4 : ab ≠ mb ∧ ab ≠ nb
theorem Kept2At.on {w w' : World} {ax mx nb ab mb : Nat} {Z : List MZ} {D : List Entry} {nx : Nat} (h : Kept2At w ax mx nb ab mb Z D nx) (hb : Below w.heap.size w w') : Kept2At w' ax mx nb ab mb Z D nx := by
  obtain ⟨n1, h1⟩ := h.ask
  obtain ⟨n2, e2, h2⟩ := h.met
  exact ⟨(hb.cell (p := ⟨ax, 0, none⟩) h.al).trans h.ac, (hb.cell (p := ⟨mx, 0, none⟩) h.ml).trans h.mc, h.nc.on hb, Nat.lt_of_lt_of_le h.al hb.size, Nat.lt_of_lt_of_le h.ml hb.size, ⟨n1, h1.on hb⟩, ⟨n2, e2, h2.on hb⟩, h.n1, h.n2, h.n3, h.n4⟩
def Kept2End (ax mx nb ab mb : Nat) (Z : List MZ) (D : List Entry) (nx : Nat) (x : Entry) (w : World) (e : Ending) (w' : World) : Prop := e = .returned (.bool (badE Z D nx x)) ∧ Kept2At w' ax mx nb ab mb Z (D ++ [x]) (nextK nx x) ∧ Mod [mb, nb] w w'
theorem entB_one (D : List Entry) (ts : Nat) : (oneF (D.map (·.ts)) (.int .i64 1) ts).getD (.int .i64 0) = .int .i64 (if entB D ts then 1 else 0) := by
  unfold oneF entB
  by_cases h : ts ∈ D.map (·.ts)
  · obtain ⟨x, hx, e⟩ := List.mem_map.1 h
    have : (D.any fun x => decide (x.ts = ts)) = true := List.any_eq_true.2 ⟨x, hx, decide_eq_true e⟩
    rw [if_pos h, this]; rfl
  · have : (D.any fun x => decide (x.ts = ts)) = false := by
      rw [List.any_eq_false]
      intro x hx hc
      exact h (List.mem_map.2 ⟨x, hx, of_decide_eq_true hc⟩)
    rw [if_neg h, this]; rfl
theorem oneF_next (D : List Entry) (x : Entry) (v : Value) (y : Nat) : (if y = x.ts then some v else oneF (D.map (·.ts)) v y) = oneF ((D ++ [x]).map (·.ts)) v y := by
  unfold oneF
  rw [List.map_append]
  by_cases h : y = x.ts <;> simp [h]
theorem cell_nb {w : World} {nb nx : Nat} (h : Blk w nb [.int .u64 (nx : Nat)] 32) : w.cell? ⟨nb, 0, none⟩ = some (.int .u64 (nx : Nat)) := by rw [h.cell]; rfl
set_option maxRecDepth 100000 in
set_option maxHeartbeats 8000000 in
theorem kept2_any (w : World) (i : Int) (ax mx nb ab mb : Nat) (Z : List MZ) (D : List Entry) (nx : Nat) (h : Kept2At w ax mx nb ab mb Z D nx) (hD : D.length ≤ 1000000) (B : Nat) (hBw : B ≤ w.heap.size) (hBm : B ≤ mb ∧ B ≤ nb) (y : Ent) (x : Entry) (hy : ∀ w', Below B w w' → EntIs w' y x) (hops : x.ops.length ≤ 1000000) :
    Calls Tryz.prog 34 #[.int .i64 i, .agg #[.int .u64 (y.ts : Nat), .int .u64 (y.first : Nat), .slice y.a y.n y.c], .pointer (some ⟨ax, 0, none⟩), .pointer (some ⟨mx, 0, none⟩), .pointer (some ⟨nb, 0, none⟩)] w (Kept2End ax mx nb ab mb Z D nx x w) := by
  obtain ⟨yt, yf, ya, yn, yc⟩ := y
  have hy0 := hy w (Below.refl _ _)
  have e1 := hy0.ts
  have e2 := hy0.first
  have e3 := hy0.n
  simp only at e1 e2 e3
  subst e1 e2 e3
  have hA : Blk (w.alloc (.cells #[.int .u64 (x.ts : Nat), .int .u64 (x.first : Nat), .slice ya x.ops.length yc] 43)) w.heap.size [.int .u64 (x.ts : Nat), .int .u64 (x.first : Nat), .slice ya x.ops.length yc] 43 := Blk.new w [.int .u64 (x.ts : Nat), .int .u64 (x.first : Nat), .slice ya x.ops.length yc] 43
  have hbn := (Below.refl w.heap.size w).alloc (Nat.le_refl _) (.cells #[.int .u64 (x.ts : Nat), .int .u64 (x.first : Nat), .slice ya x.ops.length yc] 43)
  have hlt0 : nb < w.heap.size := h.nc.lt
  have hlt1 : mb < w.heap.size := by obtain ⟨_, _, hv⟩ := h.met; exact hv.lt
  have HA := Lib.hid hA
  have HBN := Lib.hid hbn
  have H := Lib.hid (h.on hbn)
  have HY := Lib.hid hy
  have HOK := Lib.hid hy0.ok
  have HSZ := Lib.hid (show (w.alloc (.cells #[.int .u64 (x.ts : Nat), .int .u64 (x.first : Nat), .slice ya x.ops.length yc] 43)).heap.size = w.heap.size + 1 by simp)
  clear h hy hy0 hA hbn
  go_enter Tryz.func34, Tryz.ntmps34
  go_upto_region 1 with fail
  generalize w.alloc (.cells #[.int .u64 (x.ts : Nat), .int .u64 (x.first : Nat), .slice ya x.ops.length yc] 43) = w1 at *
  go_cut [8] (fun s8 wx => s8 = .bool (badE Z D nx x) ∧ w1 = wx)
  case first =>
    have d0 : w1.cell? ⟨w.heap.size, 0, none⟩ = some (.int .u64 (x.ts : Nat)) := by rw [HA.out.cell]; rfl
    have d1 : w1.cell? ⟨w.heap.size, 1, none⟩ = some (.int .u64 (x.first : Nat)) := by rw [HA.out.cell]; rfl
    have b0 := H.out.ac
    have b1 := H.out.mc
    have b2 := cell_nb H.out.nc
    obtain ⟨n1, m1⟩ := H.out.ask
    obtain ⟨n2, _, m2⟩ := H.out.met
    have l0 := num_look m1 x.ts HOK.out.ts
    have l1 := num_look m2 x.ts HOK.out.ts
    rw [entB_one] at l1
    unfold askF at l0
    have HE := Lib.hid (show badE Z D nx x = (!askedB Z x.ts || (entB D x.ts || !decide (x.first = nx))) from rfl)
    clear m1 m2
    cases h1 : askedB Z x.ts with
    | false =>
      rw [h1, if_neg (by decide)] at l0
      have HR := Lib.hid (show badE Z D nx x = true by rw [HE.out, h1]; rfl)
      clear h1 HE l1
      go_wp2_with fail
      go_meet
      exact ⟨by rw [HR.out], rfl⟩
    | true =>
      rw [h1, if_pos rfl] at l0
      cases h2 : entB D x.ts with
      | true =>
        rw [h2, if_pos rfl] at l1
        have HR := Lib.hid (show badE Z D nx x = true by rw [HE.out, h2]; simp)
        clear h1 h2 HE
        go_wp2_with fail
        go_meet
        exact ⟨by rw [HR.out], rfl⟩
      | false =>
        rw [h2, if_neg (by decide)] at l1
        by_cases h3 : x.first = nx
        · have e3 : ((x.first : Int) != (nx : Int)) = false := by simp [h3]
          have HR := Lib.hid (show badE Z D nx x = false by rw [HE.out, h1, h2, decide_eq_true h3]; rfl)
          have H3 := Lib.hid h3
          clear h1 h2 h3 HE
          go_wp2_with fail
          go_meet
          exact ⟨by rw [HR.out]; try simp [H3.out], rfl⟩
        · have e3 : ((x.first : Int) != (nx : Int)) = true := by simp; omega
          have HR := Lib.hid (show badE Z D nx x = true by rw [HE.out, decide_eq_false h3]; simp)
          have H3 := Lib.hid h3
          clear h1 h2 h3 HE
          go_wp2_with fail
          go_meet
          exact ⟨by rw [HR.out], rfl⟩
  obtain ⟨rfl, rfl⟩ := hcut
  have d0 : w1.cell? ⟨w.heap.size, 0, none⟩ = some (.int .u64 (x.ts : Nat)) := by rw [HA.out.cell]; rfl
  have b1 := H.out.mc
  obtain ⟨n2, hn2, m2⟩ := H.out.met
  obtain ⟨w2, hrun, ⟨k, hk, m3⟩, hm⟩ := num_store m2 (by omega) x.ts HOK.out.ts 1
  have hs2 := hm.size
  have HM3 := Lib.hid (show ∃ n, n ≤ (D ++ [x]).length ∧ VMap numKey w2 mb n (oneF ((D ++ [x]).map (·.ts)) (.int .i64 1)) from ⟨k, by simp; omega, m3.congr (oneF_next D x _)⟩)
  have HA2 := Lib.hid (HA.out.mod hm (by simp only [List.mem_singleton]; omega))
  have HN2 := Lib.hid (H.out.nc.mod hm (by simp only [List.mem_singleton]; exact H.out.n3))
  have HAc := Lib.hid (show w2.cell? ⟨ax, 0, none⟩ = some (.map (some ab)) from (hm.cell (b := ax) (i := 0) H.out.al (by simp only [List.mem_singleton]; exact H.out.n1.2)).trans H.out.ac)
  have HMc := Lib.hid (show w2.cell? ⟨mx, 0, none⟩ = some (.map (some mb)) from (hm.cell (b := mx) (i := 0) H.out.ml (by simp only [List.mem_singleton]; exact H.out.n2.2)).trans H.out.mc)
  have HAsk := Lib.hid (show ∃ n, VMap numKey w2 ab n (askF Z) from by
    obtain ⟨n1, m1⟩ := H.out.ask
    exact ⟨n1, m1.mod hm (by simp only [List.mem_singleton]; exact H.out.n4.1)⟩)
  have HMod := Lib.hid (show Mod [mb, nb] w w2 from by
    have h1 : Mod [mb, nb] w w1 := Mod.of_below HBN.out
    exact h1.trans (hm.mono (fun z hz => .inl (by simp at hz; simp [hz]))))
  have hB2 : Below B w w2 := (HBN.out.mono hBw).trans (hm.below (fun z hz => by simp at hz; rw [hz]; exact hBm.1) (by have := HBN.out.size; omega))
  have HY2 := Lib.hid (HY.out w2 hB2).rows
  clear m2 m3 hm hB2
  go_upto_region 3 with fail
  clear d0 b1 hrun
  have d2 : w2.cell? ⟨w.heap.size, 2, none⟩ = some (.slice ya x.ops.length yc) := by rw [HA2.out.cell]; rfl
  have HKeep := Lib.hid (show ∀ w', Mod [nb] w2 w' → ∀ nx', Blk w' nb [.int .u64 (nx' : Nat)] 32 → Kept2At w' ax mx nb ab mb Z (D ++ [x]) nx' from fun w' hm nx' hb => by
    obtain ⟨n1, a1⟩ := HAsk.out
    obtain ⟨n2, b1, b2⟩ := HM3.out
    have hh := H.out
    have hax : ax < w2.heap.size := by have := hh.al; omega
    have hmx : mx < w2.heap.size := by have := hh.ml; omega
    exact ⟨(hm.cell (b := ax) (i := 0) hax (by simp only [List.mem_singleton]; exact hh.n1.1)).trans HAc.out, (hm.cell (b := mx) (i := 0) hmx (by simp only [List.mem_singleton]; exact hh.n2.1)).trans HMc.out, hb, Nat.lt_of_lt_of_le hax hm.size, Nat.lt_of_lt_of_le hmx hm.size, ⟨n1, a1.mod hm (by simp only [List.mem_singleton]; exact hh.n4.2)⟩, ⟨n2, b1, b2.mod hm (by simp only [List.mem_singleton]; exact fun e => hh.n3 e.symm)⟩, hh.n1, hh.n2, hh.n3, hh.n4⟩)
  cases hops2 : x.ops.getLast? with
  | none =>
    have hz : x.ops.length = 0 := by rw [List.getLast?_eq_none_iff.1 hops2]; rfl
    rw [hz] at d2
    have HE := Lib.hid (show Kept2End ax mx nb ab mb Z D nx x w (.returned (.bool (badE Z D nx x))) w2 from ⟨rfl, by
      have : nextK nx x = nx := by unfold nextK; rw [hops2]
      rw [this]
      exact HKeep.out w2 (Mod.refl _ _) nx HN2.out, HMod.out⟩)
    clear hops2 hz hops
    go_wp2_with fail
    go_ret
    exact HE.out
  | some r =>
    obtain ⟨m, hm⟩ : ∃ m, x.ops.length = m + 1 := by
      cases hq : x.ops with
      | nil => rw [hq] at hops2; cases hops2
      | cons _ t => exact ⟨t.length, rfl⟩
    have hlast : x.ops[m]? = some r := by rw [← hops2, List.getLast?_eq_getElem?, hm]; rfl
    obtain ⟨r', g, o, hr', hrm, rfl, hg, c0, c1, c2, c3⟩ := recs_row HY2.out rfl (i := m) (by show m < x.ops.length; omega)
    rw [hlast] at hr'
    cases hr'
    have hwr : IntKind.u64.wrap ((r.lsn : Int) + 1) = (((r.lsn + 1) % 18446744073709551616 : Nat) : Int) := by rw [IntKind.wrap_u64]; omega
    have hnx : nextK nx x = (r.lsn + 1) % 18446744073709551616 := by unfold nextK; rw [hops2]
    rw [hm] at d2
    have hm1 : ((m : Int) + 1 > 0) := by omega
    have hbl := HN2.out.set 0 (.int .u64 (((r.lsn + 1) % 18446744073709551616 : Nat) : Int))
    have hfr := HN2.out.free 0
    have hmod := (Mod.refl [nb] w2).setCell ⟨nb, 0, none⟩ (.int .u64 (((r.lsn + 1) % 18446744073709551616 : Nat) : Int)) (.inl (by simp))
    have b2 := cell_nb HN2.out
    have HE := Lib.hid (show Kept2End ax mx nb ab mb Z D nx x w (.returned (.bool (badE Z D nx x))) (w2.setCell ⟨nb, 0, none⟩ (.int .u64 (((r.lsn + 1) % 18446744073709551616 : Nat) : Int))) from ⟨rfl, by
      rw [hnx]
      exact HKeep.out _ hmod _ hbl, HMod.out.trans (hmod.mono (fun z hz => .inl (by simp at hz; simp [hz])))⟩)
    generalize (r.lsn + 1) % 18446744073709551616 = v at *
    clear hops2 hlast hnx hbl hmod hrm
    go_wp2_with fail
    go_ret
    exact HE.out

set_option maxRecDepth 100000 in
set_option maxHeartbeats 4000000 in
theorem firstE_any (w : World) (ax mx nb ab mb : Nat) (Z : List MZ) (B : Nat) (hBw : B ≤ w.heap.size) (hBm : B ≤ mb ∧ B ≤ nb) (a : Option Addr) (n c : Nat) (z : List EZ) (hz : ∀ w', Below B w w' → EntsAt w' a n c z) (hn : n ≤ 100000) (hops : ∀ q ∈ z, q.2.ops.length ≤ 1000000) (h : Kept2At w ax mx nb ab mb Z [] 1) :
    Calls Tryz.prog 33 #[.slice a n c, .func (.func 34) #[] #[.pointer (some ⟨ax, 0, none⟩), .pointer (some ⟨mx, 0, none⟩), .pointer (some ⟨nb, 0, none⟩)]] w fun e w' => e = .returned (.int .i64 (scanK Z [] 1 0 (z.map (·.2)))) ∧ Below B w w' := by
  obtain ⟨L, hL⟩ : ∃ L, z.map (·.2) = L := ⟨_, rfl⟩
  rw [hL]
  have HZ := Lib.hid hz
  have HO := Lib.hid hops
  have HL := Lib.hid hL
  have HK := Lib.hid h
  have HLen := Lib.hid (show L.length = n by rw [← hL, List.length_map]; exact (hz w (Below.refl _ _)).len)
  clear hz hops hL h
  go_enter Tryz.func33, Tryz.ntmps33
  go_wp2_with fail
  go_loopw [4, 5, 6, 9] (fun _ _ _ s9 wr => ∃ (i nx : Nat), i ≤ n ∧ s9 = .int .i64 i ∧ Kept2At wr ax mx nb ab mb Z (L.take i) nx ∧ scanK Z [] 1 0 L = scanK Z (L.take i) nx i (L.drop i) ∧ Below B w wr) (fun _ _ _ s9 _ => n - (intOf s9).toNat)
  case atStart => exact ⟨0, 1, by omega, rfl, HK.out, rfl, Below.refl _ _⟩
  case round =>
    obtain ⟨i, nx, hi, rfl, hk, hs, hb⟩ := hrel
    by_cases hlt : i < n
    · have hil : (i : Int) < (n : Int) := by omega
      obtain ⟨q, g, o, hq, hqz, rfl, hg, d0, d1, d2⟩ := (HZ.out wr hb).row hlt
      have hLi : L[i]? = some q.2 := by rw [← HL.out, List.getElem?_map, hq]; rfl
      have HN := Lib.hid (show scanK Z [] 1 0 L = if badE Z (L.take i) nx q.2 then (i : Int) else scanK Z (L.take (i + 1)) (nextK nx q.2) (i + 1) (L.drop (i + 1)) by rw [hs]; exact scanK_step Z L nx i q.2 hLi)
      have HNx := Lib.hid (take_next L i q.2 hLi)
      have hBn := (Below.refl wr.heap.size wr).alloc (Nat.le_refl _) (.cells #[.int .u64 (q.1.ts : Nat), .int .u64 (q.1.first : Nat), .slice q.1.a q.1.n q.1.c] 43)
      have hsB := Nat.le_trans hBw hb.size
      have hb2 := hb.trans (hBn.mono hsB)
      have HS := Lib.hid (kept2_any (wr.alloc (.cells #[.int .u64 (q.1.ts : Nat), .int .u64 (q.1.first : Nat), .slice q.1.a q.1.n q.1.c] 43)) i ax mx nb ab mb Z (L.take i) nx (hk.on hBn) (by rw [List.length_take]; omega) B (Nat.le_trans hsB hBn.size) hBm q.1 q.2 (fun w' hb' => (HZ.out w' (hb2.trans hb')).each q hqz) (HO.out q hqz))
      have HB := Lib.hid hb2
      have HSz := Lib.hid (Nat.le_trans hsB hBn.size)
      clear hs hq hLi hk hb hBn hb2
      obtain ⟨⟨qt, qf, qa, qn, qc⟩, x⟩ := q
      simp only at d0 d1 d2 HS HN HNx HB HSz
      go_wp2_with fail
      refine HS.out.mono ?_
      rintro e w2 ⟨rfl, hk2, hm⟩
      have HB2 := Lib.hid (HB.out.trans (hm.below (fun y hy => by simp only [List.mem_cons, List.not_mem_nil, or_false] at hy; rcases hy with rfl | rfl; exact hBm.1; exact hBm.2) HSz.out))
      have HK2 := Lib.hid (show Kept2At w2 ax mx nb ab mb Z (L.take (i + 1)) (nextK nx x) by rw [HNx.out]; exact hk2)
      clear hk2 hm
      cases hak : badE Z (L.take i) nx x with
      | true =>
        have HR := Lib.hid (show scanK Z [] 1 0 L = (i : Int) by rw [HN.out, hak]; rfl)
        clear hak
        go_wp2_with fail
        go_ret
        exact ⟨by rw [HR.out]; try rfl, HB2.out⟩
      | false =>
        have HR := Lib.hid (show scanK Z [] 1 0 L = scanK Z (L.take (i + 1)) (nextK nx x) (i + 1) (L.drop (i + 1)) by rw [HN.out, hak]; rfl)
        clear hak
        go_wp2_with fail
        go_roundw
        case rel => exact ⟨i + 1, nextK nx x, by omega, by go_num, HK2.out, HR.out, HB2.out⟩
        case measure => simp [intOf]; omega
    · have hge : ¬ (i : Int) < (n : Int) := by omega
      have HR := Lib.hid (show scanK Z [] 1 0 L = -1 by
        rw [hs, List.drop_eq_nil_of_le (by rw [HLen.out]; omega)]; rfl)
      have HB := Lib.hid hb
      clear hs hb hk
      go_wp2_with fail
      go_ret
      exact ⟨by rw [HR.out]; try rfl, HB.out⟩

end Go.Proofs.YtecknikehieioaaGreat

/-! ### LookG -/
namespace Go.Proofs.YtecknikehieioaaGreat
set_option linter.unusedVariables false
set_option linter.unusedSimpArgs false
open Go.RowKit Go.Maps

theorem max_u64 (a b : Nat) (w : World) : (Builtin.max_ #[32, 32] 32 #[.int .u64 (a : Nat), .int .u64 (b : Nat)]).run Tryz.prog w = .ok (.int .u64 (max a b : Nat)) w := by
  rw [run_max_int2, show (if (b : Int) > (a : Int) then (b : Int) else (a : Int)) = ((max a b : Nat) : Int) from by split <;> omega]
/-- The box of what is seen. -/
structure SnAt (w : World) (sx : Nat) (s : Sn) : Prop where
  blk : Blk w sx (snCells s) 47
theorem SnAt.on {w w' : World} {sx : Nat} {s : Sn} (h : SnAt w sx s) (hb : Below w.heap.size w w') : SnAt w' sx s := ⟨h.blk.on hb⟩
theorem SnAt.mod {S : List Nat} {w w' : World} {sx : Nat} {s : Sn} (h : SnAt w sx s) (hm : Mod S w w') (hn : sx ∉ S) : SnAt w' sx s := ⟨h.blk.mod hm hn⟩
def SnCells (w : World) (sx : Nat) (s : Sn) : Prop :=
  w.cell? ⟨sx, 0, none⟩ = some (.bool s.tcUp) ∧ w.cell? ⟨sx, 1, none⟩ = some (.bool s.dcUp) ∧ w.cell? ⟨sx, 2, none⟩ = some (.bool s.ready) ∧ w.cell? ⟨sx, 3, none⟩ = some (.bool s.sync) ∧
  w.cell? ⟨sx, 4, none⟩ = some (.int .u64 (s.base : Nat)) ∧ w.cell? ⟨sx, 5, none⟩ = some (.int .u64 (s.stable : Nat)) ∧ w.cell? ⟨sx, 6, none⟩ = some (.int .u64 (s.last : Nat)) ∧ w.cell? ⟨sx, 7, none⟩ = some (.int .u64 (s.eosl : Nat)) ∧ w.cell? ⟨sx, 8, none⟩ = some (.int .u64 (s.low : Nat)) ∧
  w.cell? ⟨sx, 9, none⟩ = some (.slice s.ca s.cn s.cc) ∧ w.cell? ⟨sx, 10, none⟩ = some (.slice s.aa s.an s.ac) ∧ w.cell? ⟨sx, 11, none⟩ = some (.int .i64 s.fly)
theorem SnAt.cells {w : World} {sx : Nat} {s : Sn} (h : SnAt w sx s) : SnCells w sx s := by
  have hb := h.blk
  refine ⟨?_, ?_, ?_, ?_, ?_, ?_, ?_, ?_, ?_, ?_, ?_, ?_⟩ <;> (rw [hb.cell]; rfl)
structure Tree1At (w : World) (hx sx ox hb ob : Nat) (s : Sn) (A D : List Rec) : Prop where
  hc : w.cell? ⟨hx, 0, none⟩ = some (.map (some hb))
  oc : w.cell? ⟨ox, 0, none⟩ = some (.map (some ob))
  sc : SnAt w sx s
  hl : hx < w.heap.size
  ol : ox < w.heap.size
  has : ∃ n, n ≤ D.length ∧ VMap textKey w hb n (goneF (D.map deld))
  all : ∃ n, VMap recKey w ob n (opsF (isR A))
  n1 : hx ≠ hb
  n2 : ox ≠ hb
  n3 : sx ≠ hb
  n4 : ob ≠ hb
theorem Tree1At.on {w w' : World} {hx sx ox hb ob : Nat} {s : Sn} {A D : List Rec} (h : Tree1At w hx sx ox hb ob s A D) (k : Below w.heap.size w w') : Tree1At w' hx sx ox hb ob s A D := by
  obtain ⟨n1, e1, h1⟩ := h.has
  obtain ⟨n2, h2⟩ := h.all
  exact ⟨(k.cell (p := ⟨hx, 0, none⟩) h.hl).trans h.hc, (k.cell (p := ⟨ox, 0, none⟩) h.ol).trans h.oc, h.sc.on k, Nat.lt_of_lt_of_le h.hl k.size, Nat.lt_of_lt_of_le h.ol k.size, ⟨n1, e1, h1.on k⟩, ⟨n2, h2.on k⟩, h.n1, h.n2, h.n3, h.n4⟩
def Tree1End (hx sx ox hb ob : Nat) (s : Sn) (A N : List Rec) (i : Nat) (r : Rec) (w : World) (e : Ending) (w' : World) : Prop := e = .returned (.bool (badT s.stable A (prevT N i) r)) ∧ Tree1At w' hx sx ox hb ob s A (N.take (i + 1)) ∧ Mod [hb] w w'
set_option maxRecDepth 100000 in
set_option maxHeartbeats 16000000 in
theorem tree1_any (w : World) (i hx sx ox hb ob : Nat) (s : Sn) (N A : List Rec) (h : Tree1At w hx sx ox hb ob s A (N.take i)) (B : Nat) (hBw : B ≤ w.heap.size) (hBh : B ≤ hb) (hN : ∀ w', Below B w w' → RowsAt w' s.ca s.cn s.cc 4 (recsCells N)) (eN : s.cn = N.length) (bN : s.cn ≤ 1000000) (oN : ∀ r ∈ N, r.ok) (r : Rec) (hr : N[i]? = some r) :
    Calls Tryz.prog 39 #[.int .i64 i, .agg #[.string ⟨r.key.toArray⟩, .int .u64 (r.lsn : Nat), .bool r.del, .string ⟨r.val.toArray⟩], .pointer (some ⟨hx, 0, none⟩), .pointer (some ⟨sx, 0, none⟩), .pointer (some ⟨ox, 0, none⟩)] w (Tree1End hx sx ox hb ob s A N i r w) := by
  have hok := oN r (List.mem_of_getElem? hr)
  have htk := take_next N i r hr
  have HBad := Lib.hid (show badT s.stable A (prevT N i) r = ((decide (r.lsn ≤ s.stable) && !isR A r) || (match prevT N i with | none => false | some p => !decide (p.key < r.key))) from rfl)
  have HPrev := Lib.hid (show ∀ w', Below B w w' → ∀ j, i = j + 1 → ∃ (p : Rec) (g o : Nat), prevT N i = some p ∧ s.ca = some ⟨g, o, none⟩ ∧ w'.cell? ⟨g, o + j * 4, none⟩ = some (.string ⟨p.key.toArray⟩) from fun w' hw j hj => by
    have hil := (List.getElem?_eq_some_iff.1 hr).1
    obtain ⟨p, g, o, hp, _, e, _, c0, _⟩ := recs_row (hN w' hw) eN (i := j) (by omega)
    exact ⟨p, g, o, by rw [hj]; exact prevT_next N j p hp, e, c0⟩)
  have hPrev0 : i = 0 → prevT N i = none := fun e => by rw [e]; rfl
  have HI := Lib.hid (show i < s.cn ∧ i ≤ 1000000 from by have := (List.getElem?_eq_some_iff.1 hr).1; omega)
  obtain ⟨rk, rl, rd, rv⟩ := r
  have hA : Blk (w.alloc (.cells #[.string ⟨rk.toArray⟩, .int .u64 (rl : Nat), .bool rd, .string ⟨rv.toArray⟩] 49)) w.heap.size [.string ⟨rk.toArray⟩, .int .u64 (rl : Nat), .bool rd, .string ⟨rv.toArray⟩] 49 := Blk.new w [.string ⟨rk.toArray⟩, .int .u64 (rl : Nat), .bool rd, .string ⟨rv.toArray⟩] 49
  have hbn := (Below.refl w.heap.size w).alloc (Nat.le_refl _) (.cells #[.string ⟨rk.toArray⟩, .int .u64 (rl : Nat), .bool rd, .string ⟨rv.toArray⟩] 49)
  have hhl : hb < w.heap.size := by obtain ⟨_, _, hv⟩ := h.has; exact hv.lt
  have hsz : (w.alloc (.cells #[.string ⟨rk.toArray⟩, .int .u64 (rl : Nat), .bool rd, .string ⟨rv.toArray⟩] 49)).heap.size = w.heap.size + 1 := by simp
  have H := Lib.hid (h.on hbn)
  have HA := Lib.hid hA
  have HBN := Lib.hid hbn
  have HP0 := Lib.hid hPrev0
  have HOk := Lib.hid hok
  have HTk := Lib.hid htk
  have HSZ := Lib.hid hsz
  have HHL := Lib.hid hhl
  clear h hA hbn hN oN hr hPrev0 hok htk eN bN hsz hhl
  simp only at HBad HTk
  go_enter Tryz.func39, Tryz.ntmps39
  go_upto_region 1 with fail
  generalize w.alloc (.cells #[.string ⟨rk.toArray⟩, .int .u64 (rl : Nat), .bool rd, .string ⟨rv.toArray⟩] 49) = w1 at *
  obtain ⟨n1, en1, hv1⟩ := H.out.has
  obtain ⟨w2, n2, hrun, hv2, hn2, hm⟩ := gone_store hv1 (by have := HI.out; rw [List.length_take] at en1; omega) (deld ⟨rk, rl, rd, rv⟩) ⟨HOk.out.1, HOk.out.2.1, HOk.out.2.2⟩ rfl
  have hlk := gone_look hv1 rk HOk.out.1
  have hmx := fun w => max_u64 (gmax ((N.take i).map deld) rk) rl w
  rw [show (deld ⟨rk, rl, rd, rv⟩).key = rk from rfl, show (deld ⟨rk, rl, rd, rv⟩).lsn = rl from rfl] at hrun
  have k0 : w1.cell? ⟨w.heap.size, 0, none⟩ = some (.string ⟨rk.toArray⟩) := by rw [HA.out.cell]; rfl
  have k1 : w1.cell? ⟨w.heap.size, 1, none⟩ = some (.int .u64 (rl : Nat)) := by rw [HA.out.cell]; rfl
  have b0 := H.out.hc
  have hs2 := hm.size
  have HHas := Lib.hid (show ∃ n, n ≤ (N.take (i + 1)).length ∧ VMap textKey w2 hb n (goneF ((N.take (i + 1)).map deld)) from ⟨n2, by
    have := HI.out
    rw [HTk.out, List.length_append]
    simp only [List.length_singleton]
    omega, hv2.congr (fun x => by rw [HTk.out, List.map_append]; rfl)⟩)
  have HA2 := Lib.hid (HA.out.mod hm (by simp only [List.mem_singleton]; have := HHL.out; omega))
  have HT2 := Lib.hid (show Tree1At w2 hx sx ox hb ob s A (N.take (i + 1)) from by
    have hh := H.out
    obtain ⟨n, hv⟩ := hh.all
    have hmx : ∀ z, z < w1.heap.size → z ≠ hb → w2.cell? ⟨z, 0, none⟩ = w1.cell? ⟨z, 0, none⟩ := fun z hz hne => hm.cell (b := z) (i := 0) hz (by simp only [List.mem_singleton]; exact hne)
    exact ⟨(hmx hx hh.hl hh.n1).trans hh.hc, (hmx ox hh.ol hh.n2).trans hh.oc, hh.sc.mod hm (by simp only [List.mem_singleton]; exact hh.n3), Nat.lt_of_lt_of_le hh.hl hs2, Nat.lt_of_lt_of_le hh.ol hs2, HHas.out, ⟨n, hv.mod hm (by simp only [List.mem_singleton]; exact hh.n4)⟩, hh.n1, hh.n2, hh.n3, hh.n4⟩)
  have HM := Lib.hid (show Mod [hb] w w2 from (Mod.of_below HBN.out).trans hm)
  have HB2 := Lib.hid (show Below B w w2 from (HBN.out.mono hBw).trans (hm.below (fun z hz => by simp at hz; omega) (by have := HSZ.out; omega)))
  have HBw2 := Lib.hid (show B ≤ w2.heap.size by have := HSZ.out; omega)
  have HWl := Lib.hid (show w.heap.size < w2.heap.size by have := HSZ.out; omega)
  clear hv1 hv2 hm H HA
  generalize gmax ((N.take i).map deld) rk = gm at *
  go_upto_region 2 with fail
  clear hrun hlk hmx k0 k1 b0
  generalize w.heap.size = rb at *
  have HEnd := Lib.hid (show ∀ w' b, Below w2.heap.size w2 w' → badT s.stable A (prevT N i) ⟨rk, rl, rd, rv⟩ = b → Tree1End hx sx ox hb ob s A N i ⟨rk, rl, rd, rv⟩ w (.returned (.bool b)) w' from fun w' b hb' e => ⟨by rw [e], HT2.out.on hb', HM.out.thenBelow hb'⟩)
  have HF := Lib.hid (show ∀ w', Below w2.heap.size w2 w' → (w'.cell? ⟨rb, 0, none⟩ = some (.string ⟨rk.toArray⟩) ∧ w'.cell? ⟨rb, 1, none⟩ = some (.int .u64 (rl : Nat)) ∧ w'.cell? ⟨rb, 2, none⟩ = some (.bool rd) ∧ w'.cell? ⟨rb, 3, none⟩ = some (.string ⟨rv.toArray⟩) ∧ w'.cell? ⟨sx, 5, none⟩ = some (.int .u64 (s.stable : Nat)) ∧ w'.cell? ⟨sx, 9, none⟩ = some (.slice s.ca s.cn s.cc) ∧ w'.cell? ⟨ox, 0, none⟩ = some (.map (some ob)) ∧
      (Instr.lookup 71 (.map (some ob)) (.agg #[.string ⟨rk.toArray⟩, .int .u64 (rl : Nat), .bool rd, .string ⟨rv.toArray⟩]) false).run Tryz.prog w' = .ok (.int .i64 (if isR A ⟨rk, rl, rd, rv⟩ then 1 else 0)) w') from fun w' hb' => by
    have hA := HA2.out.on hb'
    have hT := HT2.out.on hb'
    obtain ⟨_, _, _, _, _, s5, _, _, _, s9, _⟩ := hT.sc.cells
    obtain ⟨n, hv⟩ := hT.all
    exact ⟨by rw [hA.cell]; rfl, by rw [hA.cell]; rfl, by rw [hA.cell]; rfl, by rw [hA.cell]; rfl, s5, s9, hT.oc, ops_look hv ⟨rk, rl, rd, rv⟩ HOk.out⟩)
  have HPr := Lib.hid (show ∀ j, i = j + 1 → ∃ (p : Rec) (g o : Nat), prevT N i = some p ∧ s.ca = some ⟨g, o, none⟩ ∧ ∀ w', Below w2.heap.size w2 w' → w'.cell? ⟨g, o + j * 4, none⟩ = some (.string ⟨p.key.toArray⟩) from fun j hj => by
    obtain ⟨p, g, o, h1, h2, _⟩ := HPrev.out w2 HB2.out j hj
    refine ⟨p, g, o, h1, h2, fun w' hb' => ?_⟩
    obtain ⟨p', g', o', h1', h2', h3'⟩ := HPrev.out w' (HB2.out.trans (hb'.mono HBw2.out)) j hj
    rw [h1] at h1'
    rw [h2] at h2'
    cases h1'
    cases h2'
    exact h3')
  clear HHas HA2 HT2 HM HB2 HBN HPrev
  generalize isR A ⟨rk, rl, rd, rv⟩ = fl at *
  obtain ⟨sc0, sc1, sc2, sc3, sbase, sst, sla, seo, slo, sca, scn, scc, saa, san, sac, sfl⟩ := s
  simp only at HBad HI HEnd HF HPr
  by_cases hle : rl ≤ sst
  · have hlei : (rl : Int) ≤ (sst : Int) := by omega
    cases fl with
    | false =>
      have HE := Lib.hid (fun w' hb' => HEnd.out w' true hb' (by rw [HBad.out, decide_eq_true hle]; rfl))
      clear hle HBad HEnd HPr
      refine wp_region_settleF (Below w2.heap.size w2) (by kernel_rfl) (by kernel_rfl) (by kernel_rfl) (below_drew (Below.refl _ _)) ?_
      repeat (first
        | (refine settled_not ?_ ?_
           · rfl
           simp only [Act.put, List.setIfInBounds_toArray, List.set_cons_zero, List.set_cons_succ])
        | (refine settled_val (v := ?_) ?_ (fun w' hS => ?_) ?_
           rotate_left
           · rfl
           · obtain ⟨k0, k1, k2, k3, k4, k5, k6, k7⟩ := HF.out w' hS
             rw [if_neg (by decide)] at k7
             go_simp
             with_reducible rfl
           simp only [Act.put, List.setIfInBounds_toArray, List.set_cons_zero, List.set_cons_succ]))
      refine settled_nil (fun w3 hS => ?_)
      have HS := Lib.hid hS
      clear hS HF
      go_wp2_with fail
      go_ret
      exact HE.out _ HS.out
    | true =>
      have HPre := Lib.hid (show (decide (rl ≤ sst) && !true) = false from by simp)
      clear hle
      rcases Nat.eq_zero_or_pos i with h0 | h0
      · have HE := Lib.hid (fun w' hb' => HEnd.out w' false hb' (by rw [HBad.out, HPre.out, HP0.out h0]; rfl))
        have hi0 : decide (0 < i) = false := decide_eq_false (by omega)
        clear HBad HEnd HPr h0
        refine wp_region_settleF (Below w2.heap.size w2) (by kernel_rfl) (by kernel_rfl) (by kernel_rfl) (below_drew (Below.refl _ _)) ?_
        repeat (first
          | (refine settled_not ?_ ?_
             · rfl
             simp only [Act.put, List.setIfInBounds_toArray, List.set_cons_zero, List.set_cons_succ])
          | (refine settled_val (v := ?_) ?_ (fun w' hS => ?_) ?_
             rotate_left
             · rfl
             · obtain ⟨k0, k1, k2, k3, k4, k5, k6, k7⟩ := HF.out w' hS
               rw [if_pos rfl] at k7
               go_simp
               with_reducible rfl
             simp only [Act.put, List.setIfInBounds_toArray, List.set_cons_zero, List.set_cons_succ]))
        refine settled_nil (fun w3 hS => ?_)
        have HS := Lib.hid hS
        clear hS HF
        go_wp2_with fail
        go_ret
        exact HE.out _ HS.out
      · obtain ⟨p, g, o, hp, e, hc⟩ := HPr.out (i - 1) (by omega)
        subst e
        have hi0 : decide (0 < i) = true := decide_eq_true (by omega)
        obtain ⟨j, hj⟩ : ∃ j, i - 1 = j := ⟨_, rfl⟩
        rw [hj] at hc
        have hji : (j : Int) < (scn : Int) := by have := HI.out; omega
        have hwr : IntKind.i64.wrap ((i : Int) - 1) = (j : Int) := by rw [show (i : Int) - 1 = (j : Int) by omega]; exact IntWalk.i64_in _ (by have := HI.out; omega)
        have HC := Lib.hid hc
        clear hc HPr h0 hj
        by_cases hlt : p.key < rk
        · have f1 : Op.bytesLess p.key rk = true := by rw [Go.Proofs.bytesLess_eq]; exact decide_eq_true hlt
          have HE := Lib.hid (fun w' hb' => HEnd.out w' false hb' (by rw [HBad.out, HPre.out, hp]; simp [hlt]))
          clear HBad HEnd hlt hp
          refine wp_region_settleF (Below w2.heap.size w2) (by kernel_rfl) (by kernel_rfl) (by kernel_rfl) (below_drew (Below.refl _ _)) ?_
          repeat (first
            | (refine settled_not ?_ ?_
               · rfl
               simp only [Act.put, List.setIfInBounds_toArray, List.set_cons_zero, List.set_cons_succ])
            | (refine settled_val (v := ?_) ?_ (fun w' hS => ?_) ?_
               rotate_left
               · rfl
               · obtain ⟨k0, k1, k2, k3, k4, k5, k6, k7⟩ := HF.out w' hS
                 have k8 := HC.out w' hS
                 rw [if_pos rfl] at k7
                 go_simp
                 with_reducible rfl
               simp only [Act.put, List.setIfInBounds_toArray, List.set_cons_zero, List.set_cons_succ]))
          refine settled_nil (fun w3 hS => ?_)
          have HS := Lib.hid hS
          clear hS HF HC
          go_wp2_with fail
          go_ret
          exact HE.out _ HS.out
        · have f1 : Op.bytesLess p.key rk = false := by rw [Go.Proofs.bytesLess_eq]; exact decide_eq_false hlt
          have HE := Lib.hid (fun w' hb' => HEnd.out w' true hb' (by rw [HBad.out, HPre.out, hp]; simp [hlt]))
          clear HBad HEnd hlt hp
          refine wp_region_settleF (Below w2.heap.size w2) (by kernel_rfl) (by kernel_rfl) (by kernel_rfl) (below_drew (Below.refl _ _)) ?_
          repeat (first
            | (refine settled_not ?_ ?_
               · rfl
               simp only [Act.put, List.setIfInBounds_toArray, List.set_cons_zero, List.set_cons_succ])
            | (refine settled_val (v := ?_) ?_ (fun w' hS => ?_) ?_
               rotate_left
               · rfl
               · obtain ⟨k0, k1, k2, k3, k4, k5, k6, k7⟩ := HF.out w' hS
                 have k8 := HC.out w' hS
                 rw [if_pos rfl] at k7
                 go_simp
                 with_reducible rfl
               simp only [Act.put, List.setIfInBounds_toArray, List.set_cons_zero, List.set_cons_succ]))
          refine settled_nil (fun w3 hS => ?_)
          have HS := Lib.hid hS
          clear hS HF HC
          go_wp2_with fail
          go_ret
          exact HE.out _ HS.out
  · have hlei : ¬ (rl : Int) ≤ (sst : Int) := by omega
    have HPre := Lib.hid (show (decide (rl ≤ sst) && !fl) = false from by rw [decide_eq_false hle]; rfl)
    clear hle
    rcases Nat.eq_zero_or_pos i with h0 | h0
    · have HE := Lib.hid (fun w' hb' => HEnd.out w' false hb' (by rw [HBad.out, HPre.out, HP0.out h0]; rfl))
      have hi0 : decide (0 < i) = false := decide_eq_false (by omega)
      clear HBad HEnd HPr h0
      refine wp_region_settleF (Below w2.heap.size w2) (by kernel_rfl) (by kernel_rfl) (by kernel_rfl) (below_drew (Below.refl _ _)) ?_
      repeat (first
        | (refine settled_not ?_ ?_
           · rfl
           simp only [Act.put, List.setIfInBounds_toArray, List.set_cons_zero, List.set_cons_succ])
        | (refine settled_val (v := ?_) ?_ (fun w' hS => ?_) ?_
           rotate_left
           · rfl
           · obtain ⟨k0, k1, k2, k3, k4, k5, k6, k7⟩ := HF.out w' hS
             go_simp
             with_reducible rfl
           simp only [Act.put, List.setIfInBounds_toArray, List.set_cons_zero, List.set_cons_succ]))
      refine settled_nil (fun w3 hS => ?_)
      have HS := Lib.hid hS
      clear hS HF
      go_wp2_with fail
      go_ret
      exact HE.out _ HS.out
    · obtain ⟨p, g, o, hp, e, hc⟩ := HPr.out (i - 1) (by omega)
      subst e
      have hi0 : decide (0 < i) = true := decide_eq_true (by omega)
      obtain ⟨j, hj⟩ : ∃ j, i - 1 = j := ⟨_, rfl⟩
      rw [hj] at hc
      have hji : (j : Int) < (scn : Int) := by have := HI.out; omega
      have hwr : IntKind.i64.wrap ((i : Int) - 1) = (j : Int) := by rw [show (i : Int) - 1 = (j : Int) by omega]; exact IntWalk.i64_in _ (by have := HI.out; omega)
      have HC := Lib.hid hc
      clear hc HPr h0 hj
      by_cases hlt : p.key < rk
      · have f1 : Op.bytesLess p.key rk = true := by rw [Go.Proofs.bytesLess_eq]; exact decide_eq_true hlt
        have HE := Lib.hid (fun w' hb' => HEnd.out w' false hb' (by rw [HBad.out, HPre.out, hp]; simp [hlt]))
        clear HBad HEnd hlt hp
        refine wp_region_settleF (Below w2.heap.size w2) (by kernel_rfl) (by kernel_rfl) (by kernel_rfl) (below_drew (Below.refl _ _)) ?_
        repeat (first
          | (refine settled_not ?_ ?_
             · rfl
             simp only [Act.put, List.setIfInBounds_toArray, List.set_cons_zero, List.set_cons_succ])
          | (refine settled_val (v := ?_) ?_ (fun w' hS => ?_) ?_
             rotate_left
             · rfl
             · obtain ⟨k0, k1, k2, k3, k4, k5, k6, k7⟩ := HF.out w' hS
               have k8 := HC.out w' hS
               go_simp
               with_reducible rfl
             simp only [Act.put, List.setIfInBounds_toArray, List.set_cons_zero, List.set_cons_succ]))
        refine settled_nil (fun w3 hS => ?_)
        have HS := Lib.hid hS
        clear hS HF HC
        go_wp2_with fail
        go_ret
        exact HE.out _ HS.out
      · have f1 : Op.bytesLess p.key rk = false := by rw [Go.Proofs.bytesLess_eq]; exact decide_eq_false hlt
        have HE := Lib.hid (fun w' hb' => HEnd.out w' true hb' (by rw [HBad.out, HPre.out, hp]; simp [hlt]))
        clear HBad HEnd hlt hp
        refine wp_region_settleF (Below w2.heap.size w2) (by kernel_rfl) (by kernel_rfl) (by kernel_rfl) (below_drew (Below.refl _ _)) ?_
        repeat (first
          | (refine settled_not ?_ ?_
             · rfl
             simp only [Act.put, List.setIfInBounds_toArray, List.set_cons_zero, List.set_cons_succ])
          | (refine settled_val (v := ?_) ?_ (fun w' hS => ?_) ?_
             rotate_left
             · rfl
             · obtain ⟨k0, k1, k2, k3, k4, k5, k6, k7⟩ := HF.out w' hS
               have k8 := HC.out w' hS
               go_simp
               with_reducible rfl
             simp only [Act.put, List.setIfInBounds_toArray, List.set_cons_zero, List.set_cons_succ]))
        refine settled_nil (fun w3 hS => ?_)
        have HS := Lib.hid hS
        clear hS HF HC
        go_wp2_with fail
        go_ret
        exact HE.out _ HS.out

set_option maxRecDepth 100000 in
set_option maxHeartbeats 8000000 in
theorem firstT_any (w : World) (hx sx ox hb ob : Nat) (s : Sn) (N A : List Rec) (h : Tree1At w hx sx ox hb ob s A []) (B : Nat) (hBw : B ≤ w.heap.size) (hBh : B ≤ hb) (hN : ∀ w', Below B w w' → RowsAt w' s.ca s.cn s.cc 4 (recsCells N)) (eN : s.cn = N.length) (bN : s.cn ≤ 1000000) (oN : ∀ r ∈ N, r.ok) :
    Calls Tryz.prog 38 #[.slice s.ca s.cn s.cc, .func (.func 39) #[] #[.pointer (some ⟨hx, 0, none⟩), .pointer (some ⟨sx, 0, none⟩), .pointer (some ⟨ox, 0, none⟩)]] w fun e w' => e = .returned (.int .i64 (scanT s.stable A none 0 N)) ∧ (scanT s.stable A none 0 N = -1 → Tree1At w' hx sx ox hb ob s A N) ∧ Below B w w' ∧ Mod [hb] w w' := by
  have HNN := Lib.hid hN
  have HO := Lib.hid oN
  have HT := Lib.hid h
  have HEN := Lib.hid eN
  clear hN oN h
  obtain ⟨ca, hca⟩ : ∃ a, s.ca = a := ⟨_, rfl⟩
  obtain ⟨n, hn⟩ : ∃ n, s.cn = n := ⟨_, rfl⟩
  obtain ⟨cc, hcc⟩ : ∃ c, s.cc = c := ⟨_, rfl⟩
  rw [hca, hn, hcc] at HNN ⊢
  rw [hn] at HEN bN
  clear eN
  have HCn := Lib.hid hn
  have HCa := Lib.hid hca
  have HCc := Lib.hid hcc
  have hst0 : scanT s.stable A none 0 N = scanT s.stable A (prevT N 0) 0 (N.drop 0) := rfl
  have HS0 := Lib.hid hst0
  clear hst0 hn hca hcc
  go_enter Tryz.func38, Tryz.ntmps38
  go_wp2_with fail
  go_loopw [4, 5, 6, 9] (fun _ _ _ s9 wr => ∃ i : Nat, i ≤ n ∧ s9 = .int .i64 i ∧ Tree1At wr hx sx ox hb ob s A (N.take i) ∧ scanT s.stable A none 0 N = scanT s.stable A (prevT N i) i (N.drop i) ∧ Below B w wr ∧ Mod [hb] w wr) (fun _ _ _ s9 _ => n - (intOf s9).toNat)
  case atStart => exact ⟨0, by omega, rfl, HT.out, HS0.out, Below.refl _ _, Mod.refl _ _⟩
  case round =>
    obtain ⟨i, hi, rfl, hk, hs, hb', hm'⟩ := hrel
    by_cases hlt : i < n
    · have hil : (i : Int) < (n : Int) := by omega
      obtain ⟨r, g, o, hr, hrm, rfl, hg, d0, d1, d2, d3⟩ := recs_row (HNN.out wr hb') HEN.out hlt
      have HNx := Lib.hid (show scanT s.stable A none 0 N = if badT s.stable A (prevT N i) r then (i : Int) else scanT s.stable A (prevT N (i + 1)) (i + 1) (N.drop (i + 1)) by rw [hs]; exact scanT_step s.stable A N i r hr)
      have hsB := Nat.le_trans hBw hb'.size
      obtain ⟨rk, rl, rd, rv⟩ := r
      simp only at d0 d1 d2 d3
      have hBn := (Below.refl wr.heap.size wr).alloc (Nat.le_refl _) (.cells #[.string ⟨rk.toArray⟩, .int .u64 (rl : Nat), .bool rd, .string ⟨rv.toArray⟩] 49)
      have hb2 := hb'.trans (hBn.mono hsB)
      have HS := Lib.hid (tree1_any (wr.alloc (.cells #[.string ⟨rk.toArray⟩, .int .u64 (rl : Nat), .bool rd, .string ⟨rv.toArray⟩] 49)) i hx sx ox hb ob s N A (hk.on hBn) B (Nat.le_trans hsB hBn.size) hBh (fun w' hw => by rw [HCa.out, HCn.out, HCc.out]; exact HNN.out w' (hb2.trans hw)) (by rw [HCn.out]; exact HEN.out) (by rw [HCn.out]; exact bN) HO.out ⟨rk, rl, rd, rv⟩ hr)
      simp only at HS
      have HM := Lib.hid (hm'.thenBelow hBn)
      have HB := Lib.hid hb2
      have HSz := Lib.hid (Nat.le_trans hsB hBn.size)
      clear hs hr hrm hk hb' hm' hBn hb2
      go_wp2_with fail
      refine HS.out.mono ?_
      rintro e w2 ⟨rfl, hk2, hm⟩
      have HB2 := Lib.hid (HB.out.trans (hm.below (fun y hy => by simp only [List.mem_singleton] at hy; rw [hy]; exact hBh) HSz.out))
      have HM2 := Lib.hid (HM.out.trans hm)
      have HK2 := Lib.hid hk2
      clear hk2 hm
      cases hak : badT s.stable A (prevT N i) ⟨rk, rl, rd, rv⟩ with
      | true =>
        have HR := Lib.hid (show scanT s.stable A none 0 N = (i : Int) by rw [HNx.out, hak]; rfl)
        clear hak
        go_wp2_with fail
        go_ret
        exact ⟨by rw [HR.out]; try rfl, fun h => by rw [HR.out] at h; omega, HB2.out, HM2.out⟩
      | false =>
        have HR := Lib.hid (show scanT s.stable A none 0 N = scanT s.stable A (prevT N (i + 1)) (i + 1) (N.drop (i + 1)) by rw [HNx.out, hak]; rfl)
        clear hak
        go_wp2_with fail
        go_roundw
        case rel => exact ⟨i + 1, by omega, by go_num, HK2.out, HR.out, HB2.out, HM2.out⟩
        case measure => simp [intOf]; omega
    · have hge : ¬ (i : Int) < (n : Int) := by omega
      have HR := Lib.hid (show scanT s.stable A none 0 N = -1 by
        rw [hs, List.drop_eq_nil_of_le (by rw [← HEN.out]; omega)]; rfl)
      rw [List.take_of_length_le (by rw [← HEN.out]; omega)] at hk
      have HB := Lib.hid hb'
      have HK := Lib.hid hk
      have HM := Lib.hid hm'
      clear hs hb' hk hm'
      go_wp2_with fail
      go_ret
      exact ⟨by rw [HR.out]; try rfl, fun _ => HK.out, HB.out, HM.out⟩
structure Tree2At (w : World) (sx tx hx dx tb hb db : Nat) (s : Sn) (N A : List Rec) : Prop where
  tc : w.cell? ⟨tx, 0, none⟩ = some (.map (some tb))
  hc : w.cell? ⟨hx, 0, none⟩ = some (.map (some hb))
  dc : w.cell? ⟨dx, 0, none⟩ = some (.map (some db))
  sc : SnAt w sx s
  tl : tx < w.heap.size
  hl : hx < w.heap.size
  dl : dx < w.heap.size
  there : ∃ n, VMap textKey w tb n (thereF N)
  has : ∃ n, VMap textKey w hb n (goneF (N.map deld))
  dels : ∃ n, VMap textKey w db n (goneF A)
theorem Tree2At.on {w w' : World} {sx tx hx dx tb hb db : Nat} {s : Sn} {N A : List Rec} (h : Tree2At w sx tx hx dx tb hb db s N A) (k : Below w.heap.size w w') : Tree2At w' sx tx hx dx tb hb db s N A := by
  obtain ⟨n1, h1⟩ := h.there
  obtain ⟨n2, h2⟩ := h.has
  obtain ⟨n3, h3⟩ := h.dels
  exact ⟨(k.cell (p := ⟨tx, 0, none⟩) h.tl).trans h.tc, (k.cell (p := ⟨hx, 0, none⟩) h.hl).trans h.hc, (k.cell (p := ⟨dx, 0, none⟩) h.dl).trans h.dc, h.sc.on k, Nat.lt_of_lt_of_le h.tl k.size, Nat.lt_of_lt_of_le h.hl k.size, Nat.lt_of_lt_of_le h.dl k.size, ⟨n1, h1.on k⟩, ⟨n2, h2.on k⟩, ⟨n3, h3.on k⟩⟩
set_option maxRecDepth 100000 in
set_option maxHeartbeats 16000000 in
theorem tree2_any (w : World) (i : Int) (sx tx hx dx tb hb db : Nat) (s : Sn) (N A : List Rec) (h : Tree2At w sx tx hx dx tb hb db s N A) (r : Rec) (hok : r.ok) :
    Calls Tryz.prog 40 #[.int .i64 i, .agg #[.string ⟨r.key.toArray⟩, .int .u64 (r.lsn : Nat), .bool r.del, .string ⟨r.val.toArray⟩], .pointer (some ⟨sx, 0, none⟩), .pointer (some ⟨tx, 0, none⟩), .pointer (some ⟨hx, 0, none⟩), .pointer (some ⟨dx, 0, none⟩)] w fun e w' => e = .returned (.bool (badO s.last s.stable s.low N A r)) ∧ Below w.heap.size w w' := by
  obtain ⟨rk, rl, rd, rv⟩ := r
  have hbn := (Below.refl w.heap.size w).alloc (Nat.le_refl _) (.cells #[.string ⟨rk.toArray⟩, .int .u64 (rl : Nat), .bool rd, .string ⟨rv.toArray⟩] 49)
  have hA : Blk (w.alloc (.cells #[.string ⟨rk.toArray⟩, .int .u64 (rl : Nat), .bool rd, .string ⟨rv.toArray⟩] 49)) w.heap.size [.string ⟨rk.toArray⟩, .int .u64 (rl : Nat), .bool rd, .string ⟨rv.toArray⟩] 49 := Blk.new w [.string ⟨rk.toArray⟩, .int .u64 (rl : Nat), .bool rd, .string ⟨rv.toArray⟩] 49
  have H := Lib.hid (h.on hbn)
  have HA := Lib.hid hA
  have HBN := Lib.hid hbn
  clear h hA hbn
  have HX := Lib.hid (show badO s.last s.stable s.low N A ⟨rk, rl, rd, rv⟩ = (decide (s.last ≤ s.stable) && (decide (rl ≤ s.low) && (!rd && (!(knownR N rk && decide (rl ≤ gmax (N.map deld) rk)) && decide (gmax A rk ≤ rl))))) from rfl)
  obtain ⟨bad, hbad⟩ : ∃ b, badO s.last s.stable s.low N A ⟨rk, rl, rd, rv⟩ = b := ⟨_, rfl⟩
  rw [hbad] at HX ⊢
  clear hbad
  go_enter Tryz.func40, Tryz.ntmps40
  go_upto_region 1 with fail
  generalize w.alloc (.cells #[.string ⟨rk.toArray⟩, .int .u64 (rl : Nat), .bool rd, .string ⟨rv.toArray⟩] 49) = w1 at *
  have k0 : w1.cell? ⟨w.heap.size, 0, none⟩ = some (.string ⟨rk.toArray⟩) := by rw [HA.out.cell]; rfl
  have k1 : w1.cell? ⟨w.heap.size, 1, none⟩ = some (.int .u64 (rl : Nat)) := by rw [HA.out.cell]; rfl
  have k2 : w1.cell? ⟨w.heap.size, 2, none⟩ = some (.bool rd) := by rw [HA.out.cell]; rfl
  have b0 := H.out.tc
  have b1 := H.out.hc
  have b2 := H.out.dc
  obtain ⟨nt, ht⟩ := H.out.there
  obtain ⟨nh, hh⟩ := H.out.has
  obtain ⟨nd, hd⟩ := H.out.dels
  have l0 := there_look ht rk hok.1
  have l1 := gone_look hh rk hok.1
  have l2 := gone_look hd rk hok.1
  obtain ⟨_, _, _, _, _, s5, s6, _, s8, _⟩ := H.out.sc.cells
  clear ht hh hd H HA
  generalize gmax (N.map deld) rk = gm at *
  generalize gmax A rk = gd at *
  generalize s.last = sla at *
  generalize s.stable = sst at *
  generalize s.low = slo at *
  by_cases h1 : sla ≤ sst
  · have e1 : (sla : Int) ≤ (sst : Int) := by omega
    by_cases h2 : rl ≤ slo
    · have e2 : (rl : Int) ≤ (slo : Int) := by omega
      cases rd with
      | true =>
        have HY := Lib.hid (show bad = false by rw [HX.out]; simp)
        clear h1 h2 HX l0 l1 l2
        go_wp2_with fail
        go_ret
        exact ⟨by rw [HY.out]; try rfl, HBN.out⟩
      | false =>
        cases hk : knownR N rk with
        | true =>
          rw [hk, if_pos rfl] at l0
          by_cases h3 : rl ≤ gm
          · have e3 : (gm : Int) ≥ (rl : Int) := by omega
            have HY := Lib.hid (show bad = false by rw [HX.out, hk, decide_eq_true h3]; simp)
            clear h1 h2 h3 hk HX l2
            go_wp2_with fail
            go_ret
            exact ⟨by rw [HY.out]; try rfl, HBN.out⟩
          · have e3 : ¬ (gm : Int) ≥ (rl : Int) := by omega
            by_cases h4 : gd ≤ rl
            · have e4 : (gd : Int) ≤ (rl : Int) := by omega
              have HY := Lib.hid (show bad = true by rw [HX.out, hk, decide_eq_true h1, decide_eq_true h2, decide_eq_false h3, decide_eq_true h4]; rfl)
              clear h1 h2 h3 h4 hk HX
              go_wp2_with fail
              go_ret
              exact ⟨by rw [HY.out]; try rfl, HBN.out⟩
            · have e4 : ¬ (gd : Int) ≤ (rl : Int) := by omega
              have HY := Lib.hid (show bad = false by rw [HX.out, decide_eq_false h4]; simp)
              clear h1 h2 h3 h4 hk HX
              go_wp2_with fail
              go_ret
              exact ⟨by rw [HY.out]; try rfl, HBN.out⟩
        | false =>
          rw [hk, if_neg (by decide)] at l0
          by_cases h4 : gd ≤ rl
          · have e4 : (gd : Int) ≤ (rl : Int) := by omega
            have HY := Lib.hid (show bad = true by rw [HX.out, hk, decide_eq_true h1, decide_eq_true h2, decide_eq_true h4]; rfl)
            clear h1 h2 h4 hk HX l1
            go_wp2_with fail
            go_ret
            exact ⟨by rw [HY.out]; try rfl, HBN.out⟩
          · have e4 : ¬ (gd : Int) ≤ (rl : Int) := by omega
            have HY := Lib.hid (show bad = false by rw [HX.out, decide_eq_false h4]; simp)
            clear h1 h2 h4 hk HX l1
            go_wp2_with fail
            go_ret
            exact ⟨by rw [HY.out]; try rfl, HBN.out⟩
    · have e2 : ¬ (rl : Int) ≤ (slo : Int) := by omega
      have HY := Lib.hid (show bad = false by rw [HX.out, decide_eq_false h2]; simp)
      clear h1 h2 HX l0 l1 l2
      go_wp2_with fail
      go_ret
      exact ⟨by rw [HY.out]; try rfl, HBN.out⟩
  · have e1 : ¬ (sla : Int) ≤ (sst : Int) := by omega
    have HY := Lib.hid (show bad = false by rw [HX.out, decide_eq_false h1]; rfl)
    clear h1 HX l0 l1 l2
    go_wp2_with fail
    go_ret
    exact ⟨by rw [HY.out]; try rfl, HBN.out⟩
set_option maxRecDepth 100000 in
set_option maxHeartbeats 8000000 in
theorem firstO_any (w : World) (sx tx hx dx tb hb db : Nat) (s : Sn) (N A : List Rec) (h : Tree2At w sx tx hx dx tb hb db s N A)
    (aw : Option Addr) (nw cw : Nat) (hW : RowsAt w aw nw cw 4 (recsCells A)) (eW : nw = A.length) (bW : nw ≤ 1000000) (hok : ∀ r ∈ A, r.ok) :
    Calls Tryz.prog 38 #[.slice aw nw cw, .func (.func 40) #[] #[.pointer (some ⟨sx, 0, none⟩), .pointer (some ⟨tx, 0, none⟩), .pointer (some ⟨hx, 0, none⟩), .pointer (some ⟨dx, 0, none⟩)]] w fun e w' => e = .returned (.int .i64 (firstR (badO s.last s.stable s.low N A) 0 A)) ∧ Below w.heap.size w w' := by
  have H := Lib.hid h
  have HW := Lib.hid hW
  have EW := Lib.hid eW
  have HO := Lib.hid hok
  obtain ⟨f, hf⟩ : ∃ f, badO s.last s.stable s.low N A = f := ⟨_, rfl⟩
  rw [hf]
  have HFf := Lib.hid hf
  clear h hW eW hok hf
  go_enter Tryz.func38, Tryz.ntmps38
  go_wp2_with fail
  go_loopw [4, 5, 6, 9] (fun _ _ _ s9 wr => ∃ i : Nat, i ≤ nw ∧ s9 = .int .i64 i ∧ firstR f 0 A = firstR f i (A.drop i) ∧ Below w.heap.size w wr) (fun _ _ _ s9 _ => nw - (intOf s9).toNat)
  case atStart => exact ⟨0, by omega, rfl, rfl, Below.refl _ _⟩
  case round =>
    obtain ⟨i, hi, rfl, hfi, hb'⟩ := hrel
    by_cases hlt : i < nw
    · have hil : (i : Int) < (nw : Int) := by omega
      obtain ⟨r, g, o, hr, hrl, rfl, hg, d0, d1, d2, d3⟩ := recs_row (HW.out.on hb') EW.out hlt
      have HN := Lib.hid (show firstR f 0 A = if f r then (i : Int) else firstR f (i + 1) (A.drop (i + 1)) by rw [hfi, firstR_step _ _ _ _ hr])
      have HOr := Lib.hid (HO.out r hrl)
      obtain ⟨rk, rl, rd, rv⟩ := r
      simp only at d0 d1 d2 d3
      have hBn := (Below.refl wr.heap.size wr).alloc (Nat.le_refl _) (.cells #[.string ⟨rk.toArray⟩, .int .u64 (rl : Nat), .bool rd, .string ⟨rv.toArray⟩] 49)
      have HB := Lib.hid (hb'.trans (hBn.mono hb'.size))
      have HS := Lib.hid (tree2_any (wr.alloc (.cells #[.string ⟨rk.toArray⟩, .int .u64 (rl : Nat), .bool rd, .string ⟨rv.toArray⟩] 49)) i sx tx hx dx tb hb db s N A (H.out.on HB.out) ⟨rk, rl, rd, rv⟩ HOr.out)
      rw [HFf.out] at HS
      simp only at HS
      clear hfi hr hrl hb' hBn
      go_wp2_with fail
      refine HS.out.mono ?_
      rintro e w2 ⟨rfl, hb2⟩
      have HB2 := Lib.hid (HB.out.trans (hb2.mono HB.out.size))
      clear hb2
      cases hak : f ⟨rk, rl, rd, rv⟩ with
      | true =>
        have HR := Lib.hid (show firstR f 0 A = (i : Int) by rw [HN.out, hak]; rfl)
        clear hak
        go_wp2_with fail
        go_ret
        exact ⟨by rw [HR.out]; try rfl, HB2.out⟩
      | false =>
        have HR := Lib.hid (show firstR f 0 A = firstR f (i + 1) (A.drop (i + 1)) by rw [HN.out, hak]; rfl)
        clear hak
        go_wp2_with fail
        go_roundw
        case rel => exact ⟨i + 1, by omega, by go_num, HR.out, HB2.out⟩
        case measure => simp [intOf]; omega
    · have hge : ¬ (i : Int) < (nw : Int) := by omega
      have HR := Lib.hid (show firstR f 0 A = -1 by
        have hin : i = A.length := by rw [← EW.out]; omega
        rw [hfi, hin, List.drop_eq_nil_of_le (Nat.le_refl _)]; rfl)
      have HB := Lib.hid hb'
      clear hfi hb'
      go_wp2_with fail
      go_ret
      exact ⟨by rw [HR.out]; try rfl, HB.out⟩

end Go.Proofs.YtecknikehieioaaGreat

/-! ### LookB -/
namespace Go.Proofs.YtecknikehieioaaGreat
set_option linter.unusedVariables false
set_option linter.unusedSimpArgs false
open Go.RowKit Go.Maps

/-- The first question that does not hold, from place i on. -/
def firstB : Nat → List Bool → Int
  | _, [] => -1
  | i, b :: t => if b then firstB (i + 1) t else (i : Int)
theorem firstB_drop (l : List Bool) (i : Nat) (b : Bool) (h : l[i]? = some b) : firstB i (l.drop i) = if b then firstB (i + 1) (l.drop (i + 1)) else (i : Int) := by
  obtain ⟨h1, rfl⟩ := List.getElem?_eq_some_iff.1 h
  rw [List.drop_eq_getElem_cons h1]; rfl
theorem firstB_all (l : List Bool) (i : Nat) : decide (0 ≤ firstB i l) = !(l.all id) := by
  induction l generalizing i with
  | nil => rfl
  | cons b t ih =>
    unfold firstB
    rw [List.all_cons]
    cases b with
    | true => simpa using ih (i + 1)
    | false => simp
/-- The first number that is not above the one ahead of it. -/
def badU (T : List Nat) (i u : Nat) : Bool := decide (0 < i) && decide (u ≤ T.getD (i - 1) 0)
def firstU (T : List Nat) : Nat → List Nat → Int
  | _, [] => -1
  | i, u :: t => if badU T i u then (i : Int) else firstU T (i + 1) t
theorem firstU_drop (T : List Nat) (i u : Nat) (h : T[i]? = some u) : firstU T i (T.drop i) = if badU T i u then (i : Int) else firstU T (i + 1) (T.drop (i + 1)) := by
  obtain ⟨h1, rfl⟩ := List.getElem?_eq_some_iff.1 h
  rw [List.drop_eq_getElem_cons h1]; rfl
theorem firstU_asc (T : List Nat) : decide (firstU T 0 T < 0) = ascB T := by
  have : ∀ (m i : Nat), m + i = T.length → (firstU T i (T.drop i) < 0 ↔ ∀ k, (hk : k < T.length) → i ≤ k → 0 < k → T[k - 1] < T[k]) := by
    intro m
    induction m with
    | zero =>
      intro i hi
      rw [List.drop_eq_nil_of_le (by omega)]
      exact ⟨fun _ k hk h1 _ => by omega, fun _ => by show (-1 : Int) < 0; decide⟩
    | succ m ih =>
      intro i hi
      have hil : i < T.length := by omega
      rw [firstU_drop T i T[i] (List.getElem?_eq_getElem hil)]
      unfold badU
      by_cases h0 : 0 < i
      · have hg : T.getD (i - 1) 0 = T[i - 1] := by rw [List.getD_eq_getElem?_getD, List.getElem?_eq_getElem (by omega)]; rfl
        rw [hg]
        by_cases h1 : T[i] ≤ T[i - 1]
        · rw [decide_eq_true h0, decide_eq_true h1]
          simp only [Bool.and_self, if_true]
          exact ⟨fun h => by omega, fun h => by have := h i hil (Nat.le_refl _) h0; omega⟩
        · rw [decide_eq_false h1, Bool.and_false, if_neg (by decide), ih (i + 1) (by omega)]
          constructor
          · intro h k hk hik hk0
            by_cases e : k = i
            · subst e; omega
            · exact h k hk (by omega) hk0
          · intro h k hk hik hk0
            exact h k hk (by omega) hk0
      · rw [decide_eq_false h0, Bool.false_and, if_neg (by decide), ih (i + 1) (by omega)]
        constructor
        · intro h k hk hik hk0
          exact h k hk (by omega) hk0
        · intro h k hk hik hk0
          exact h k hk (by omega) hk0
  have h2 := this T.length 0 (by omega)
  unfold ascB
  rw [show T.drop 0 = T from rfl] at h2
  by_cases h : firstU T 0 T < 0
  · rw [decide_eq_true h, eq_comm, decide_eq_true_eq, List.pairwise_iff_getElem]
    have hs := h2.1 h
    intro i j hi hj hij
    have : ∀ d, ∀ j, (hj : j < T.length) → (hi' : i < T.length) → j = i + d + 1 → T[i] < T[j] := by
      intro d
      induction d with
      | zero =>
        intro j hj hi' e
        have := hs j hj (by omega) (by omega)
        have e2 : j - 1 = i := by omega
        simp only [e2] at this
        exact this
      | succ d ih =>
        intro j hj hi' e
        have h1 := ih (j - 1) (by omega) hi' (by omega)
        have h2 := hs j hj (by omega) (by omega)
        omega
    exact this (j - i - 1) j hj hi (by omega)
  · rw [decide_eq_false h, eq_comm, decide_eq_false_iff_not]
    intro hp
    refine h (h2.2 fun k hk _ hk0 => ?_)
    exact (List.pairwise_iff_getElem.1 hp) (k - 1) k (by omega) hk (by omega)
set_option maxRecDepth 100000 in
set_option maxHeartbeats 4000000 in
theorem indexQ_any (w : World) (a : Option Addr) (n c : Nat) (fs : List Value) (bs : List Bool) (hr : RowsAt w a n c 1 fs) (hl : bs.length = n) (hn : n ≤ 1000)
    (hf : ∀ (k : Nat) (v : Value) (b : Bool), fs[k]? = some v → bs[k]? = some b → ∀ w', Below w.heap.size w w' → Calls Tryz.prog 73 #[v] w' fun e w'' => e = .returned (.bool (!b)) ∧ Below w'.heap.size w' w'') :
    Calls Tryz.prog 87 #[.slice a n c, .func (.func 73) #[] #[]] w fun e w' => e = .returned (.int .i64 (firstB 0 bs)) ∧ Below w.heap.size w w' := by
  have HR := Lib.hid hr
  have HF := Lib.hid hf
  have HL := Lib.hid hl
  clear hr hf hl
  go_enter Tryz.func87, Tryz.ntmps87
  go_wp2_with fail
  go_loopw [4, 5, 8] (fun _ _ s8 wr => ∃ i : Nat, i ≤ n ∧ s8 = .int .i64 i ∧ firstB 0 bs = firstB i (bs.drop i) ∧ Below w.heap.size w wr) (fun _ _ s8 _ => n - (intOf s8).toNat)
  case atStart => exact ⟨0, by omega, rfl, rfl, Below.refl _ _⟩
  case round =>
    obtain ⟨i, hi, rfl, hfi, hb⟩ := hrel
    by_cases hlt : i < n
    · have hil : (i : Int) < (n : Int) := by omega
      have hfl : fs.length = n := by have := HR.out.len; omega
      obtain ⟨g, o, rfl, hg, hc⟩ := (HR.out.on hb).at_ (by omega)
      obtain ⟨v, hv⟩ : ∃ v, fs[i]? = some v := ⟨_, List.getElem?_eq_getElem (by omega)⟩
      obtain ⟨b, hbv⟩ : ∃ b, bs[i]? = some b := ⟨_, List.getElem?_eq_getElem (by rw [HL.out]; omega)⟩
      have c0 := hc i v hv
      have HN := Lib.hid (show firstB 0 bs = if b then firstB (i + 1) (bs.drop (i + 1)) else (i : Int) by rw [hfi, firstB_drop _ _ _ hbv])
      have HS := Lib.hid (HF.out i v b hv hbv wr hb)
      have HB := Lib.hid hb
      clear hfi hv hbv hc hb hfl
      go_wp2_with fail
      refine HS.out.mono ?_
      rintro e w2 ⟨rfl, hb2⟩
      have HB2 := Lib.hid (HB.out.trans (hb2.mono HB.out.size))
      clear hb2
      cases b with
      | false =>
        have HR := Lib.hid (show firstB 0 bs = (i : Int) by rw [HN.out]; rfl)
        go_wp2_with fail
        go_ret
        exact ⟨by rw [HR.out]; try rfl, HB2.out⟩
      | true =>
        have HR := Lib.hid (show firstB 0 bs = firstB (i + 1) (bs.drop (i + 1)) by rw [HN.out]; rfl)
        go_wp2_with fail
        go_roundw
        case rel => exact ⟨i + 1, by omega, by go_num, HR.out, HB2.out⟩
        case measure => simp [intOf]; omega
    · have hge : ¬ (i : Int) < (n : Int) := by omega
      have HR := Lib.hid (show firstB 0 bs = -1 by rw [hfi, List.drop_eq_nil_of_le (by rw [HL.out]; omega)]; rfl)
      have HB := Lib.hid hb
      clear hfi hb
      go_wp2_with fail
      go_ret
      exact ⟨by rw [HR.out]; try rfl, HB.out⟩
set_option maxRecDepth 100000 in
set_option maxHeartbeats 2000000 in
theorem containsQ_any (w : World) (a : Option Addr) (n c : Nat) (fs : List Value) (bs : List Bool) (hr : RowsAt w a n c 1 fs) (hl : bs.length = n) (hn : n ≤ 1000)
    (hf : ∀ (k : Nat) (v : Value) (b : Bool), fs[k]? = some v → bs[k]? = some b → ∀ w', Below w.heap.size w w' → Calls Tryz.prog 73 #[v] w' fun e w'' => e = .returned (.bool (!b)) ∧ Below w'.heap.size w' w'') :
    Calls Tryz.prog 72 #[.slice a n c, .func (.func 73) #[] #[]] w fun e w' => e = .returned (.bool (!(bs.all id))) ∧ Below w.heap.size w w' := by
  have HI := Lib.hid (indexQ_any w a n c fs bs hr hl hn hf)
  have HA := Lib.hid (firstB_all bs 0)
  clear hr hf
  generalize firstB 0 bs = v at *
  go_enter Tryz.func72, Tryz.ntmps72
  go_wp2_with fail
  refine HI.out.mono ?_
  rintro e w1 ⟨rfl, hb⟩
  have HB := Lib.hid hb
  clear hb
  go_wp2_with fail
  go_ret
  exact ⟨by rw [← HA.out]; try rfl, HB.out⟩
set_option maxRecDepth 100000 in
set_option maxHeartbeats 2000000 in
theorem every_any (w : World) (a : Option Addr) (n c : Nat) (fs : List Value) (bs : List Bool) (hr : RowsAt w a n c 1 fs) (hl : bs.length = n) (hn : n ≤ 1000)
    (hf : ∀ (k : Nat) (v : Value) (b : Bool), fs[k]? = some v → bs[k]? = some b → ∀ w', Below w.heap.size w w' → Calls Tryz.prog 73 #[v] w' fun e w'' => e = .returned (.bool (!b)) ∧ Below w'.heap.size w' w'') :
    Calls Tryz.prog 44 #[.slice a n c] w fun e w' => e = .returned (.bool (bs.all id)) ∧ Below w.heap.size w w' := by
  have HI := Lib.hid (containsQ_any w a n c fs bs hr hl hn hf)
  clear hr hf hl
  generalize bs.all id = v at *
  go_enter Tryz.func44, Tryz.ntmps44
  go_wp2_with fail
  refine HI.out.mono ?_
  rintro e w1 ⟨rfl, hb⟩
  have HB := Lib.hid hb
  clear hb HI
  cases v with
  | true =>
    go_wp2_with fail
    go_ret
    exact ⟨by try rfl, HB.out⟩
  | false =>
    go_wp2_with fail
    go_ret
    exact ⟨by try rfl, HB.out⟩
set_option maxRecDepth 100000 in
set_option maxHeartbeats 2000000 in
theorem bounds1_any (w : World) (sx : Nat) (s : Sn) (h : SnAt w sx s) : Calls Tryz.prog 45 #[.pointer (some ⟨sx, 0, none⟩)] w fun e w' => e = .returned (.bool (!s.tcUp || (decide (s.base ≤ s.stable) && decide (s.stable ≤ s.last)))) ∧ w = w' := by
  obtain ⟨c0, c1, c2, c3, c4, c5, c6, c7, c8, _, c10, c11⟩ := h.cells
  obtain ⟨tcUp, dcUp, ready, sync, base, stable, last, eosl, low, _, _, _, aa, an, ac, fly⟩ := s
  simp only at c0 c1 c2 c3 c4 c5 c6 c7 c8 c10 c11
  clear h
  go_enter Tryz.func45, Tryz.ntmps45
  cases tcUp with
  | true =>
    by_cases h0 : base ≤ stable
    · have eh0 : (base : Int) ≤ (stable : Int) := by omega
      by_cases h1 : stable ≤ last
      · have eh1 : (stable : Int) ≤ (last : Int) := by omega
        have HV := Lib.hid (show (!true || (decide (base ≤ stable) && decide (stable ≤ last))) = true by simp [h0, h1])
        go_wp2_with fail
        go_ret
        exact ⟨by first | rfl | (rw [HV.out]; rfl) | (simp [h0, h1]; done) | (simp; omega), rfl⟩
      · have eh1 : ¬ (stable : Int) ≤ (last : Int) := by omega
        have HV := Lib.hid (show (!true || (decide (base ≤ stable) && decide (stable ≤ last))) = false by simp [h0, h1])
        go_wp2_with fail
        go_ret
        exact ⟨by first | rfl | (rw [HV.out]; rfl) | (simp [h0, h1]; done) | (simp; omega), rfl⟩
    · have eh0 : ¬ (base : Int) ≤ (stable : Int) := by omega
      have HV := Lib.hid (show (!true || (decide (base ≤ stable) && decide (stable ≤ last))) = false by simp [h0])
      go_wp2_with fail
      go_ret
      exact ⟨by first | rfl | (rw [HV.out]; rfl) | (simp [h0]; done) | (simp; omega), rfl⟩
  | false =>
    have HV := Lib.hid (show (!false || (decide (base ≤ stable) && decide (stable ≤ last))) = true by simp)
    go_wp2_with fail
    go_ret
    exact ⟨by first | rfl | (rw [HV.out]; rfl) | (simp; done) | (simp; omega), rfl⟩
set_option maxRecDepth 100000 in
set_option maxHeartbeats 2000000 in
theorem bounds2_any (w : World) (sx : Nat) (s : Sn) (h : SnAt w sx s) : Calls Tryz.prog 46 #[.pointer (some ⟨sx, 0, none⟩)] w fun e w' => e = .returned (.bool (!s.dcUp || decide (s.low ≤ s.eosl))) ∧ w = w' := by
  obtain ⟨c0, c1, c2, c3, c4, c5, c6, c7, c8, _, c10, c11⟩ := h.cells
  obtain ⟨tcUp, dcUp, ready, sync, base, stable, last, eosl, low, _, _, _, aa, an, ac, fly⟩ := s
  simp only at c0 c1 c2 c3 c4 c5 c6 c7 c8 c10 c11
  clear h
  go_enter Tryz.func46, Tryz.ntmps46
  cases dcUp with
  | true =>
    by_cases h0 : low ≤ eosl
    · have eh0 : (low : Int) ≤ (eosl : Int) := by omega
      have HV := Lib.hid (show (!true || decide (low ≤ eosl)) = true by simp [h0])
      go_wp2_with fail
      go_ret
      exact ⟨by first | rfl | (rw [HV.out]; rfl) | (simp [h0]; done) | (simp; omega), rfl⟩
    · have eh0 : ¬ (low : Int) ≤ (eosl : Int) := by omega
      have HV := Lib.hid (show (!true || decide (low ≤ eosl)) = false by simp [h0])
      go_wp2_with fail
      go_ret
      exact ⟨by first | rfl | (rw [HV.out]; rfl) | (simp [h0]; done) | (simp; omega), rfl⟩
  | false =>
    have HV := Lib.hid (show (!false || decide (low ≤ eosl)) = true by simp)
    go_wp2_with fail
    go_ret
    exact ⟨by first | rfl | (rw [HV.out]; rfl) | (simp; done) | (simp; omega), rfl⟩
set_option maxRecDepth 100000 in
set_option maxHeartbeats 2000000 in
theorem bounds3_any (w : World) (sx : Nat) (s : Sn) (h : SnAt w sx s) : Calls Tryz.prog 47 #[.pointer (some ⟨sx, 0, none⟩)] w fun e w' => e = .returned (.bool (!s.tcUp || (!s.dcUp || decide (s.eosl ≤ s.stable)))) ∧ w = w' := by
  obtain ⟨c0, c1, c2, c3, c4, c5, c6, c7, c8, _, c10, c11⟩ := h.cells
  obtain ⟨tcUp, dcUp, ready, sync, base, stable, last, eosl, low, _, _, _, aa, an, ac, fly⟩ := s
  simp only at c0 c1 c2 c3 c4 c5 c6 c7 c8 c10 c11
  clear h
  go_enter Tryz.func47, Tryz.ntmps47
  cases tcUp with
  | true =>
    cases dcUp with
    | true =>
      by_cases h0 : eosl ≤ stable
      · have eh0 : (eosl : Int) ≤ (stable : Int) := by omega
        have HV := Lib.hid (show (!true || (!true || decide (eosl ≤ stable))) = true by simp [h0])
        go_wp2_with fail
        go_ret
        exact ⟨by first | rfl | (rw [HV.out]; rfl) | (simp [h0]; done) | (simp; omega), rfl⟩
      · have eh0 : ¬ (eosl : Int) ≤ (stable : Int) := by omega
        have HV := Lib.hid (show (!true || (!true || decide (eosl ≤ stable))) = false by simp [h0])
        go_wp2_with fail
        go_ret
        exact ⟨by first | rfl | (rw [HV.out]; rfl) | (simp [h0]; done) | (simp; omega), rfl⟩
    | false =>
      have HV := Lib.hid (show (!true || (!false || decide (eosl ≤ stable))) = true by simp)
      go_wp2_with fail
      go_ret
      exact ⟨by first | rfl | (rw [HV.out]; rfl) | (simp; done) | (simp; omega), rfl⟩
  | false =>
    have HV := Lib.hid (show (!false || (!dcUp || decide (eosl ≤ stable))) = true by simp)
    go_wp2_with fail
    go_ret
    exact ⟨by first | rfl | (rw [HV.out]; rfl) | (simp; done) | (simp; omega), rfl⟩
set_option maxRecDepth 100000 in
set_option maxHeartbeats 2000000 in
theorem bounds4_any (w : World) (sx : Nat) (s : Sn) (h : SnAt w sx s) : Calls Tryz.prog 48 #[.pointer (some ⟨sx, 0, none⟩)] w fun e w' => e = .returned (.bool (decide (s.an ≤ 6) && (decide (0 ≤ s.fly) && decide (s.fly ≤ 400)))) ∧ w = w' := by
  obtain ⟨c0, c1, c2, c3, c4, c5, c6, c7, c8, _, c10, c11⟩ := h.cells
  obtain ⟨tcUp, dcUp, ready, sync, base, stable, last, eosl, low, _, _, _, aa, an, ac, fly⟩ := s
  simp only at c0 c1 c2 c3 c4 c5 c6 c7 c8 c10 c11
  clear h
  go_enter Tryz.func48, Tryz.ntmps48
  by_cases h0 : an ≤ 6
  · have eh0 : (an : Int) ≤ (6 : Int) := by omega
    by_cases h1 : 0 ≤ fly
    · have eh1 : (0 : Int) ≤ (fly : Int) := by omega
      by_cases h2 : fly ≤ 400
      · have eh2 : (fly : Int) ≤ (400 : Int) := by omega
        have HV := Lib.hid (show (decide (an ≤ 6) && (decide (0 ≤ fly) && decide (fly ≤ 400))) = true by simp [h0, h1, h2])
        go_wp2_with fail
        go_ret
        exact ⟨by first | rfl | (rw [HV.out]; rfl) | (simp [h0, h1, h2]; done) | (simp; omega), rfl⟩
      · have eh2 : ¬ (fly : Int) ≤ (400 : Int) := by omega
        have HV := Lib.hid (show (decide (an ≤ 6) && (decide (0 ≤ fly) && decide (fly ≤ 400))) = false by simp [h0, h1, h2])
        go_wp2_with fail
        go_ret
        exact ⟨by first | rfl | (rw [HV.out]; rfl) | (simp [h0, h1, h2]; done) | (simp; omega), rfl⟩
    · have eh1 : ¬ (0 : Int) ≤ (fly : Int) := by omega
      have HV := Lib.hid (show (decide (an ≤ 6) && (decide (0 ≤ fly) && decide (fly ≤ 400))) = false by simp [h0, h1])
      go_wp2_with fail
      go_ret
      exact ⟨by first | rfl | (rw [HV.out]; rfl) | (simp [h0, h1]; done) | (simp; omega), rfl⟩
  · have eh0 : ¬ (an : Int) ≤ (6 : Int) := by omega
    have HV := Lib.hid (show (decide (an ≤ 6) && (decide (0 ≤ fly) && decide (fly ≤ 400))) = false by simp [h0])
    go_wp2_with fail
    go_ret
    exact ⟨by first | rfl | (rw [HV.out]; rfl) | (simp [h0]; done) | (simp; omega), rfl⟩
set_option maxRecDepth 100000 in
set_option maxHeartbeats 2000000 in
theorem quiet1_any (w : World) (sx : Nat) (s : Sn) (h : SnAt w sx s) : Calls Tryz.prog 52 #[.pointer (some ⟨sx, 0, none⟩)] w fun e w' => e = .returned (.bool (s.tcUp && (s.dcUp && (s.ready && decide (s.an = 0))))) ∧ w = w' := by
  obtain ⟨c0, c1, c2, c3, c4, c5, c6, c7, c8, _, c10, c11⟩ := h.cells
  obtain ⟨tcUp, dcUp, ready, sync, base, stable, last, eosl, low, _, _, _, aa, an, ac, fly⟩ := s
  simp only at c0 c1 c2 c3 c4 c5 c6 c7 c8 c10 c11
  clear h
  go_enter Tryz.func52, Tryz.ntmps52
  cases tcUp with
  | true =>
    cases dcUp with
    | true =>
      cases ready with
      | true =>
        by_cases h0 : an = 0
        · have eh0 : ((an : Int) == (0 : Int)) = true := by simp [h0]
          have HV := Lib.hid (show (true && (true && (true && decide (an = 0)))) = true by simp [h0])
          go_wp2_with fail
          go_ret
          exact ⟨by first | rfl | (rw [HV.out]; rfl) | (simp [h0]; done) | (simp; omega), rfl⟩
        · have eh0 : ((an : Int) == (0 : Int)) = false := by simp; omega
          have HV := Lib.hid (show (true && (true && (true && decide (an = 0)))) = false by simp [h0])
          go_wp2_with fail
          go_ret
          exact ⟨by first | rfl | (rw [HV.out]; rfl) | (simp [h0]; done) | (simp; omega), rfl⟩
      | false =>
        have HV := Lib.hid (show (true && (true && (false && decide (an = 0)))) = false by simp)
        go_wp2_with fail
        go_ret
        exact ⟨by first | rfl | (rw [HV.out]; rfl) | (simp; done) | (simp; omega), rfl⟩
    | false =>
      have HV := Lib.hid (show (true && (false && (ready && decide (an = 0)))) = false by simp)
      go_wp2_with fail
      go_ret
      exact ⟨by first | rfl | (rw [HV.out]; rfl) | (simp; done) | (simp; omega), rfl⟩
  | false =>
    have HV := Lib.hid (show (false && (dcUp && (ready && decide (an = 0)))) = false by simp)
    go_wp2_with fail
    go_ret
    exact ⟨by first | rfl | (rw [HV.out]; rfl) | (simp; done) | (simp; omega), rfl⟩
set_option maxRecDepth 100000 in
set_option maxHeartbeats 2000000 in
theorem quiet2_any (w : World) (sx : Nat) (s : Sn) (h : SnAt w sx s) : Calls Tryz.prog 53 #[.pointer (some ⟨sx, 0, none⟩)] w fun e w' => e = .returned (.bool (decide (s.low = s.eosl) && (decide (s.eosl = s.stable) && decide (s.stable = s.last)))) ∧ w = w' := by
  obtain ⟨c0, c1, c2, c3, c4, c5, c6, c7, c8, _, c10, c11⟩ := h.cells
  obtain ⟨tcUp, dcUp, ready, sync, base, stable, last, eosl, low, _, _, _, aa, an, ac, fly⟩ := s
  simp only at c0 c1 c2 c3 c4 c5 c6 c7 c8 c10 c11
  clear h
  go_enter Tryz.func53, Tryz.ntmps53
  by_cases h0 : low = eosl
  · have eh0 : ((low : Int) == (eosl : Int)) = true := by simp [h0]
    by_cases h1 : eosl = stable
    · have eh1 : ((eosl : Int) == (stable : Int)) = true := by simp [h1]
      by_cases h2 : stable = last
      · have eh2 : ((stable : Int) == (last : Int)) = true := by simp [h2]
        have HV := Lib.hid (show (decide (low = eosl) && (decide (eosl = stable) && decide (stable = last))) = true by simp [h0, h1, h2])
        go_wp2_with fail
        go_ret
        exact ⟨by first | rfl | (rw [HV.out]; rfl) | (simp [h0, h1, h2]; done) | (simp; omega), rfl⟩
      · have eh2 : ((stable : Int) == (last : Int)) = false := by simp; omega
        have HV := Lib.hid (show (decide (low = eosl) && (decide (eosl = stable) && decide (stable = last))) = false by simp [h0, h1, h2])
        go_wp2_with fail
        go_ret
        exact ⟨by first | rfl | (rw [HV.out]; rfl) | (simp [h0, h1, h2]; done) | (simp; omega), rfl⟩
    · have eh1 : ((eosl : Int) == (stable : Int)) = false := by simp; omega
      have HV := Lib.hid (show (decide (low = eosl) && (decide (eosl = stable) && decide (stable = last))) = false by simp [h0, h1])
      go_wp2_with fail
      go_ret
      exact ⟨by first | rfl | (rw [HV.out]; rfl) | (simp [h0, h1]; done) | (simp; omega), rfl⟩
  · have eh0 : ((low : Int) == (eosl : Int)) = false := by simp; omega
    have HV := Lib.hid (show (decide (low = eosl) && (decide (eosl = stable) && decide (stable = last))) = false by simp [h0])
    go_wp2_with fail
    go_ret
    exact ⟨by first | rfl | (rw [HV.out]; rfl) | (simp [h0]; done) | (simp; omega), rfl⟩
end Go.Proofs.YtecknikehieioaaGreat

/-! ### LookK -/
namespace Go.Proofs.YtecknikehieioaaGreat
set_option linter.unusedVariables false
set_option linter.unusedSimpArgs false
open Go.RowKit Go.Maps

/-- A map that was just made. -/
theorem made_num (w : World) : ∃ (b : Nat) (w' : World), b = w.heap.size ∧ (Instr.makeMap 61 none).run Tryz.prog w = .ok (.map (some b)) w' ∧ VMap numKey w' b 0 (fun _ => none) ∧ Below w.heap.size w w' ∧ w'.heap.size = w.heap.size + 1 :=
  ⟨w.heap.size, _, rfl, VMap.made_run (w := w) (k := 32) (e := 3) (t := 61) Tryz.underlying61, VMap.made numKey w, (Below.refl w.heap.size w).alloc (Nat.le_refl _) _, by simp⟩
theorem wroF_next (zm : List MZ) (i : Nat) (q : MZ) (h : zm[i]? = some q) (x : Nat) : wroF (zm.take (i + 1)) x = if wroteK q.1 = true ∧ x = q.1.ts then some (.int .i64 1) else wroF (zm.take i) x := by
  unfold wroF wroteB
  rw [any_next _ _ _ _ h]
  generalize ((zm.take i).any fun q => wroteK q.1 && decide (q.1.ts = x)) = b
  generalize wroteK q.1 = k
  by_cases hx : q.1.ts = x
  · rw [decide_eq_true hx]
    cases k <;> cases b <;> simp [hx]
  · have hx' : ¬ x = q.1.ts := fun e => hx e.symm
    rw [decide_eq_false hx]
    cases k <;> cases b <;> simp [hx']
theorem askF_next (zm : List MZ) (i : Nat) (q : MZ) (h : zm[i]? = some q) (x : Nat) : askF (zm.take (i + 1)) x = if q.1.kind = 5 ∧ x = q.1.ts then some (.int .i64 1) else askF (zm.take i) x := by
  unfold askF askedB
  rw [any_next _ _ _ _ h]
  generalize ((zm.take i).any fun q => askC x q.1) = b
  unfold askC
  by_cases hk : q.1.kind = 5
  · by_cases hx : q.1.ts = x
    · rw [decide_eq_true hx, decide_eq_true hk]
      cases b <;> simp [hx, hk]
    · have hx' : ¬ x = q.1.ts := fun e => hx e.symm
      rw [decide_eq_false hx]
      cases b <;> simp [hx']
  · rw [decide_eq_false hk]
    cases b <;> simp [hk]
theorem cntF_next (L : List Entry) (i : Nat) (e : Entry) (h : L[i]? = some e) (x : Nat) : cntF (L.take (i + 1)) x = if x = e.ts then some (.int .i64 ((cntE (L.take i) e.ts : Nat) + 1 : Int)) else cntF (L.take i) x := by
  unfold cntF entB cntE
  rw [any_next _ _ _ _ h, take_next _ _ _ h, List.filter_append]
  generalize ((L.take i).any fun e => decide (e.ts = x)) = b
  by_cases hx : e.ts = x
  · subst hx
    rw [decide_eq_true rfl]
    cases b <;> simp
  · have hx' : ¬ x = e.ts := fun h => hx h.symm
    rw [decide_eq_false hx, if_neg hx', List.filter_cons_of_neg (by simpa using hx)]
    cases b <;> simp
theorem cnt_get (L : List Entry) (ts : Nat) : (cntF L ts).getD (.int .i64 0) = .int .i64 (cntE L ts : Nat) := by
  unfold cntF
  cases h : entB L ts with
  | true => rfl
  | false => rw [cntE_zero L ts h]; rfl
def KeptEnd (Z : List MZ) (L : List Entry) (w : World) (e : Ending) (w' : World) : Prop := e = .returned (.int .i64 (keptL Z L)) ∧ Below w.heap.size w w'
set_option maxRecDepth 100000 in
set_option maxHeartbeats 16000000 in
theorem kept_any (w : World) (am : Option Addr) (nm cm : Nat) (zm : List MZ) (hm : MadeAt w am nm cm zm) (hnm : nm ≤ 100000) (a : Option Addr) (n c : Nat) (z : List EZ) (h : EntsAt w a n c z) (hn : n ≤ 100000) (hops : ∀ q ∈ z, q.2.ops.length ≤ 1000000) :
    Calls Tryz.prog 13 #[.slice am nm cm, .slice a n c] w (KeptEnd zm (z.map (·.2)) w) := by
  have HMM := Lib.hid hm
  have HH := Lib.hid h
  have HO := Lib.hid hops
  obtain ⟨L, hL⟩ : ∃ L, z.map (·.2) = L := ⟨_, rfl⟩
  have HL := Lib.hid hL
  have HLen := Lib.hid (show L.length = n by rw [← hL, List.length_map]; exact HH.out.len)
  rw [hL]
  have HKL := Lib.hid (show keptL zm L = if 0 ≤ firstAt (keptC zm L) 0 zm then firstAt (keptC zm L) 0 zm else if scanK zm [] 1 0 L < 0 then -1 else zm.length + scanK zm [] 1 0 L from rfl)
  unfold KeptEnd
  obtain ⟨kl, hkl⟩ : ∃ k, keptL zm L = k := ⟨_, rfl⟩
  rw [hkl] at HKL ⊢
  clear hkl hL
  obtain ⟨wb, w1, hwb, hr1, hv1, hb1, hs1⟩ := made_num w
  obtain ⟨ab, w2, hab, hr2, hv2, hb2, hs2⟩ := made_num w1
  obtain ⟨eb, w3, heb, hr3, hv3, hb3, hs3⟩ := made_num w2
  have hB3 := (hb1.trans (hb2.mono (by omega))).trans (hb3.mono (by omega))
  have HV1 := Lib.hid ((hv1.on hb2).on hb3)
  have HV2 := Lib.hid (hv2.on hb3)
  have HV3 := Lib.hid hv3
  have HB3 := Lib.hid hB3
  have HS := Lib.hid (show wb = w.heap.size ∧ ab = w.heap.size + 1 ∧ eb = w.heap.size + 2 ∧ w3.heap.size = w.heap.size + 3 by omega)
  clear hwb hab heb hs1 hs2 hs3 hb1 hb2 hb3 hv1 hv2 hv3 hB3 hm h hops
  go_enter Tryz.func13, Tryz.ntmps13
  go_upto_region 2 with fail
  clear hr1 hr2 hr3
  have hbx0 := (Below.refl w3.heap.size w3).alloc (Nat.le_refl _) (.cells #[.map (some wb)] 61)
  have hbx1 := hbx0.alloc hbx0.size (.cells #[.map (some ab)] 61)
  have hbx2 := hbx1.alloc hbx1.size (.cells #[.map (some eb)] 61)
  have hk0 : Blk (w3.alloc (.cells #[.map (some wb)] 61)) w3.heap.size [.map (some wb)] 61 := Blk.new w3 [.map (some wb)] 61
  have hk1 : Blk ((w3.alloc (.cells #[.map (some wb)] 61)).alloc (.cells #[.map (some ab)] 61)) _ [.map (some ab)] 61 := Blk.new _ [.map (some ab)] 61
  have hk2 : Blk (((w3.alloc (.cells #[.map (some wb)] 61)).alloc (.cells #[.map (some ab)] 61)).alloc (.cells #[.map (some eb)] 61)) _ [.map (some eb)] 61 := Blk.new _ [.map (some eb)] 61
  have q1 := (Below.refl (w3.alloc (.cells #[.map (some wb)] 61)).heap.size (w3.alloc (.cells #[.map (some wb)] 61))).alloc (Nat.le_refl _) (.cells #[.map (some ab)] 61)
  have q2 := (Below.refl ((w3.alloc (.cells #[.map (some wb)] 61)).alloc (.cells #[.map (some ab)] 61)).heap.size ((w3.alloc (.cells #[.map (some wb)] 61)).alloc (.cells #[.map (some ab)] 61))).alloc (Nat.le_refl _) (.cells #[.map (some eb)] 61)
  have hk0 := (hk0.on q1).on q2
  have hk1 := hk1.on q2
  simp only [World.size_alloc] at hk0 hk1 hk2
  have hsz4 : (((w3.alloc (.cells #[.map (some wb)] 61)).alloc (.cells #[.map (some ab)] 61)).alloc (.cells #[.map (some eb)] 61)).heap.size = w3.heap.size + 3 := by simp
  generalize ((w3.alloc (.cells #[.map (some wb)] 61)).alloc (.cells #[.map (some ab)] 61)).alloc (.cells #[.map (some eb)] 61) = w4 at *
  obtain ⟨xb, hxb⟩ : ∃ x, w3.heap.size = x := ⟨_, rfl⟩
  rw [hxb] at hk0 hk1 hk2 hsz4
  have HK0 := Lib.hid hk0
  have HK1 := Lib.hid hk1
  have HK2 := Lib.hid hk2
  have HV1 := Lib.hid (HV1.out.on hbx2)
  have HV2 := Lib.hid (HV2.out.on hbx2)
  have HV3 := Lib.hid (HV3.out.on hbx2)
  have HB4 := Lib.hid (HB3.out.trans (hbx2.mono HB3.out.size))
  have HP := Lib.hid (show wb = w.heap.size ∧ ab = w.heap.size + 1 ∧ eb = w.heap.size + 2 ∧ xb = w.heap.size + 3 ∧ w4.heap.size = w.heap.size + 6 by have := HS.out; omega)
  simp only [hxb]
  clear hbx0 hbx1 hbx2 hk0 hk1 hk2 q1 q2 hsz4 hxb HS HB3
  have HV1 := Lib.hid (HV1.out.congr (g := wroF (zm.take 0)) (fun x => rfl))
  have HV2 := Lib.hid (HV2.out.congr (g := askF (zm.take 0)) (fun x => rfl))
  go_wp2_with fail
  go_loopw [9, 10, 21] (fun _ _ s21 wr => ∃ (i n1 n2 : Nat), i ≤ nm ∧ s21 = .int .i64 i ∧ n1 ≤ i ∧ n2 ≤ i ∧ VMap numKey wr wb n1 (wroF (zm.take i)) ∧ VMap numKey wr ab n2 (askF (zm.take i)) ∧ Mod [wb, ab] w4 wr) (fun _ _ s21 _ => nm - (intOf s21).toNat)
  case atStart => exact ⟨0, 0, 0, by omega, rfl, by omega, by omega, HV1.out, HV2.out, Mod.refl _ _⟩
  case round =>
    clear HV1 HV2
    obtain ⟨i, n1, n2, hi, rfl, hn1, hn2, hv1, hv2, hmd⟩ := hrel
    have hsr := hmd.size
    have hp := HP.out
    have hbw : Below w.heap.size w wr := HB4.out.trans (hmd.below (fun x hx => by simp only [List.mem_cons, List.not_mem_nil, or_false] at hx; omega) (by omega))
    by_cases hlt : i < nm
    · have hil : (i : Int) < (nm : Int) := by omega
      obtain ⟨q, g, o, hq, hqz, rfl, hg, hc⟩ := (HMM.out.on hbw).row hlt
      have hBn := (Below.refl wr.heap.size wr).alloc (Nat.le_refl _) (.cells (mdCells q.1).toArray 40)
      have HC := Lib.hid hc
      have HTs := Lib.hid (show q.1.ts < 18446744073709551616 from (HMM.out.each q hqz).ts)
      have HBox := Lib.hid (md_box wr q.1)
      have HW := Lib.hid (wroF_next zm i q hq)
      have HA := Lib.hid (askF_next zm i q hq)
      have HV1 := Lib.hid (hv1.on hBn)
      have HV2 := Lib.hid (hv2.on hBn)
      have HMd := Lib.hid (hmd.thenBelow hBn)
      have hb0 := (hmd.cell (b := xb) (i := 0) (by omega) (by simp only [List.mem_cons, List.not_mem_nil, or_false]; omega)).trans (show w4.cell? ⟨xb, 0, none⟩ = some (.map (some wb)) by rw [HK0.out.cell]; rfl)
      have hb1 := (hmd.cell (b := xb + 1) (i := 0) (by omega) (by simp only [List.mem_cons, List.not_mem_nil, or_false]; omega)).trans (show w4.cell? ⟨xb + 1, 0, none⟩ = some (.map (some ab)) by rw [HK1.out.cell]; rfl)
      have HBx0 := Lib.hid ((hBn.cell (p := ⟨xb, 0, none⟩) (by show xb < _; omega)).trans hb0)
      have HBx1 := Lib.hid ((hBn.cell (p := ⟨xb + 1, 0, none⟩) (by show xb + 1 < _; omega)).trans hb1)
      have hwl : wb < xb ∧ ab < xb ∧ xb + 3 ≤ wr.heap.size ∧ wb ≠ ab := by omega
      clear hc hv1 hv2 hmd hBn hq hqz hb0 hb1 hp hsr hbw
      go_upto_region 5 with (first | ((with_reducible refine wpList_loadM rfl _ rfl _ _ _ HC.out ?_ ?_); rfl) | ((with_reducible refine wpList_storeM rfl _ _ rfl _ q.1 ?_ ?_ ?_); rfl; rfl))
      go_frame
      generalize hw5 : wr.alloc (.cells (mdCells q.1).toArray 40) = w5 at *
      have HW5 := Lib.hid (show wr.heap.size < w5.heap.size by rw [← hw5]; simp)
      clear hw5
      obtain ⟨d0, _, d2, _, _, _, _, d7, _, _, d10, _⟩ := HBox.out
      simp only [Nat.zero_add] at d2 d7 d10
      have b0 := HBx0.out
      have b1 := HBx1.out
      go_upto_region 6 with fail
      go_cut [43] (fun s wx => s = .bool (wroteK q.1) ∧ w5 = wx)
      case first =>
        have HE := Lib.hid (show wroteK q.1 = (q.1.dn && (decide (q.1.err = 0) && (decide (q.1.kind = 3) || decide (q.1.kind = 4)))) from rfl)
        cases h1 : q.1.dn with
        | false =>
          have HR := Lib.hid (show wroteK q.1 = false by rw [HE.out, h1]; rfl)
          rw [h1] at d7
          clear HE h1
          go_wp2_with fail
          go_meet
          exact ⟨by rw [HR.out], rfl⟩
        | true =>
          rw [h1] at d7
          by_cases h2 : q.1.err = 0
          · have e2 : (q.1.err == 0) = true := by simp [h2]
            by_cases h3 : q.1.kind = 3
            · have e3 : (q.1.kind == 3) = true := by simp [h3]
              have HR := Lib.hid (show wroteK q.1 = true by rw [HE.out, h1, decide_eq_true h2, decide_eq_true h3]; rfl)
              clear HE h1 h2 h3
              go_wp2_with fail
              go_meet
              exact ⟨by rw [HR.out], rfl⟩
            · have e3 : (q.1.kind == 3) = false := by simp [h3]
              by_cases h4 : q.1.kind = 4
              · have e4 : (q.1.kind == 4) = true := by simp [h4]
                have HR := Lib.hid (show wroteK q.1 = true by rw [HE.out, h1, decide_eq_true h2, decide_eq_true h4]; simp)
                clear HE h1 h2 h3 h4
                go_wp2_with fail
                go_meet
                exact ⟨by rw [HR.out], rfl⟩
              · have e4 : (q.1.kind == 4) = false := by simp [h4]
                have HR := Lib.hid (show wroteK q.1 = false by rw [HE.out, decide_eq_false h3, decide_eq_false h4]; simp)
                clear HE h1 h2 h3 h4
                go_wp2_with fail
                go_meet
                exact ⟨by rw [HR.out], rfl⟩
          · have e2 : (q.1.err == 0) = false := by simp [h2]
            have HR := Lib.hid (show wroteK q.1 = false by rw [HE.out, decide_eq_false h2]; simp)
            clear HE h1 h2
            go_wp2_with fail
            go_meet
            exact ⟨by rw [HR.out], rfl⟩
      obtain ⟨rfl, rfl⟩ := hcut
      go_upto_if 43 with fail
      go_cut [] (fun wx => ∃ k, k ≤ i + 1 ∧ VMap numKey wx wb k (wroF (zm.take (i + 1))) ∧ Mod [wb] w5 wx)
      case first =>
        cases hwk : wroteK q.1 with
        | false =>
          have HN := Lib.hid (show ∃ k, k ≤ i + 1 ∧ VMap numKey w5 wb k (wroF (zm.take (i + 1))) ∧ Mod [wb] w5 w5 from ⟨n1, by omega, HV1.out.congr (fun x => by rw [HW.out, hwk]; simp), Mod.refl _ _⟩)
          clear hwk
          go_wp2_with fail
          go_meet
          exact HN.out
        | true =>
          obtain ⟨w6, hrun, ⟨k, hk, hv⟩, hm6⟩ := num_store HV1.out (by omega) q.1.ts HTs.out 1
          have HN := Lib.hid (show ∃ k, k ≤ i + 1 ∧ VMap numKey w6 wb k (wroF (zm.take (i + 1))) ∧ Mod [wb] w5 w6 from ⟨k, by omega, hv.congr (fun x => by rw [HW.out, hwk]; simp), hm6⟩)
          clear hwk hv hm6
          go_wp2_with fail
          go_meet
          exact HN.out
      rename World => w6
      obtain ⟨n1', hn1', hv1, hm6⟩ := hcut
      have HV1' := Lib.hid hv1
      have HV2' := Lib.hid (HV2.out.mod hm6 (by simp only [List.mem_singleton]; omega))
      have HM6 := Lib.hid (HMd.out.trans (hm6.mono (fun z hz => .inl (by simp at hz; simp [hz]))))
      have d0' := (hm6.cell (b := wr.heap.size) (i := 0) HW5.out (by simp only [List.mem_singleton]; omega)).trans d0
      have d2' := (hm6.cell (b := wr.heap.size) (i := 2) HW5.out (by simp only [List.mem_singleton]; omega)).trans d2
      have b1' := (hm6.cell (b := xb + 1) (i := 0) (by have := HW5.out; omega) (by simp only [List.mem_singleton]; omega)).trans b1
      clear hv1 hm6 d0 d2 d7 d10 b0 b1 HV1 HV2 HBx0 HBx1
      by_cases hk5 : q.1.kind = 5
      · have e5 : (q.1.kind == 5) = true := by simp [hk5]
        obtain ⟨w7, hrun, ⟨k, hk, hv⟩, hm7⟩ := num_store HV2'.out (by omega) q.1.ts HTs.out 1
        have HN := Lib.hid (show VMap numKey w7 ab k (askF (zm.take (i + 1))) from hv.congr (fun x => by rw [HA.out]; simp [hk5]))
        have HN1 := Lib.hid (HV1'.out.mod hm7 (by simp only [List.mem_singleton]; omega))
        have HM7 := Lib.hid (HM6.out.trans (hm7.mono (fun z hz => .inl (by simp at hz; simp [hz]))))
        clear hk5 hv hm7
        go_wp2_with fail
        go_roundw
        case rel => exact ⟨i + 1, n1', k, by omega, by go_num, hn1', by omega, HN1.out, HN.out, HM7.out⟩
        case measure => simp [intOf]; omega
      · have e5 : (q.1.kind == 5) = false := by simp [hk5]
        have HN := Lib.hid (show VMap numKey w6 ab n2 (askF (zm.take (i + 1))) from HV2'.out.congr (fun x => by rw [HA.out]; simp [hk5]))
        clear hk5
        go_wp2_with fail
        go_roundw
        case rel => exact ⟨i + 1, n1', n2, by omega, by go_num, hn1', by omega, HV1'.out, HN.out, HM6.out⟩
        case measure => simp [intOf]; omega
    · have hge : ¬ (i : Int) < (nm : Int) := by omega
      have hall : zm.take i = zm := List.take_of_length_le (by have := HMM.out.len; omega)
      rw [hall] at hv1 hv2
      have HV1 := Lib.hid hv1
      have HV2 := Lib.hid hv2
      have HMd := Lib.hid hmd
      have HBw := Lib.hid hbw
      have HV3 := Lib.hid ((HV3.out.mod hmd (by simp only [List.mem_cons, List.not_mem_nil, or_false]; omega)).congr (g := cntF (L.take 0)) (fun x => rfl))
      have HK0 := Lib.hid (HK0.out.mod hmd (by simp only [List.mem_cons, List.not_mem_nil, or_false]; omega))
      have HK1 := Lib.hid (HK1.out.mod hmd (by simp only [List.mem_cons, List.not_mem_nil, or_false]; omega))
      have HK2 := Lib.hid (HK2.out.mod hmd (by simp only [List.mem_cons, List.not_mem_nil, or_false]; omega))
      have HSr := Lib.hid hsr
      clear hv1 hv2 hmd hbw hall hp hsr hn1 hn2
      generalize wr = wo at *
      go_wp2_with fail
      go_loopw [12, 55] (fun _ s55 wr => ∃ (i n3 : Nat), i ≤ n ∧ s55 = .int .i64 i ∧ n3 ≤ i ∧ VMap numKey wr eb n3 (cntF (L.take i)) ∧ Mod [eb] wo wr) (fun _ s55 _ => n - (intOf s55).toNat)
      case atStart => exact ⟨0, 0, by omega, rfl, by omega, HV3.out, Mod.refl _ _⟩
      case round =>
        clear HV3
        obtain ⟨j, n3, hj, rfl, hn3, hv3, hmd⟩ := hrel
        have hsr := hmd.size
        have hp := HP.out
        have hs4 := HSr.out
        have hbw : Below w.heap.size w wr := HBw.out.trans (hmd.below (fun x hx => by simp only [List.mem_singleton] at hx; omega) (by omega))
        by_cases hlt2 : j < n
        · have hjl : (j : Int) < (n : Int) := by omega
          obtain ⟨q, g, o, hq, hqz, rfl, hg, d0, d1, d2⟩ := (HH.out.on hbw).row hlt2
          have hLj : L[j]? = some q.2 := by rw [← HL.out, List.getElem?_map, hq]; rfl
          have hts : q.1.ts = q.2.ts := (HH.out.each q hqz).ts
          have HTs := Lib.hid (show q.2.ts < 18446744073709551616 from (HH.out.each q hqz).ok.ts)
          have HN := Lib.hid (cntF_next L j q.2 hLj)
          have hcl := cntE_le (L.take j) q.2.ts
          rw [List.length_take] at hcl
          have hBn := (Below.refl wr.heap.size wr).alloc (Nat.le_refl _) (.cells #[.int .u64 (q.1.ts : Nat), .int .u64 (q.1.first : Nat), .slice q.1.a q.1.n q.1.c] 43)
          have hA : Blk (wr.alloc (.cells #[.int .u64 (q.1.ts : Nat), .int .u64 (q.1.first : Nat), .slice q.1.a q.1.n q.1.c] 43)) wr.heap.size [.int .u64 (q.1.ts : Nat), .int .u64 (q.1.first : Nat), .slice q.1.a q.1.n q.1.c] 43 := Blk.new wr [.int .u64 (q.1.ts : Nat), .int .u64 (q.1.first : Nat), .slice q.1.a q.1.n q.1.c] 43
          have HA := Lib.hid hA
          have HV3 := Lib.hid (hv3.on hBn)
          have HMd := Lib.hid (hmd.thenBelow hBn)
          have hb2 := (hmd.cell (b := xb + 1 + 1) (i := 0) (by omega) (by simp only [List.mem_singleton]; omega)).trans (show wo.cell? ⟨xb + 1 + 1, 0, none⟩ = some (.map (some eb)) by rw [HK2.out.cell]; rfl)
          have HB2 := Lib.hid ((hBn.cell (p := ⟨xb + 1 + 1, 0, none⟩) (by show xb + 1 + 1 < _; omega)).trans hb2)
          obtain ⟨⟨qt, qf, qa, qn, qc⟩, e⟩ := q
          simp only at hts d0 d1 d2 HTs HN hcl HA HV3 HMd HB2
          subst hts
          clear hv3 hmd hBn hA hq hqz hLj hb2 hp hsr hs4 hbw hg
          go_upto_region 14 with fail
          generalize wr.alloc (.cells #[.int .u64 (e.ts : Nat), .int .u64 (qf : Nat), .slice qa qn qc] 43) = w5 at *
          clear d0 d1 d2
          have d0 : w5.cell? ⟨wr.heap.size, 0, none⟩ = some (.int .u64 (e.ts : Nat)) := by rw [HA.out.cell]; rfl
          have b2 := HB2.out
          have hlk := num_look HV3.out e.ts HTs.out
          rw [cnt_get] at hlk
          obtain ⟨c, hc⟩ : ∃ c, cntE (L.take j) e.ts = c := ⟨_, rfl⟩
          rw [hc] at hlk HN hcl
          have hwc : IntKind.i64.wrap ((c : Int) + 1) = (c : Int) + 1 := IntWalk.i64_in _ (by omega)
          obtain ⟨w6, hrun, ⟨k, hk, hv⟩, hm6⟩ := num_store HV3.out (by omega) e.ts HTs.out ((c : Int) + 1)
          have HV6 := Lib.hid (show VMap numKey w6 eb k (cntF (L.take (j + 1))) from hv.congr (fun x => by rw [HN.out]))
          have HM6 := Lib.hid (HMd.out.trans hm6)
          clear hc hv hm6 hcl
          go_wp2_with fail
          go_roundw
          case rel => exact ⟨j + 1, k, by omega, by go_num, by omega, HV6.out, HM6.out⟩
          case measure => simp [intOf]; omega
        · have hge2 : ¬ (j : Int) < (n : Int) := by omega
          have hall : L.take j = L := List.take_of_length_le (by have := HLen.out; omega)
          rw [hall] at hv3
          have HM5 := Lib.hid (HMM.out.on hbw)
          have HH5 := Lib.hid (HH.out.on hbw)
          have HBw5 := Lib.hid hbw
          have HK1' := Lib.hid (HK1.out.mod hmd (by simp only [List.mem_singleton]; omega))
          have HV2' := Lib.hid (HV2.out.mod hmd (by simp only [List.mem_singleton]; omega))
          have HKp := Lib.hid (show Kept1At wr xb (xb + 1 + 1) wb eb zm L from
            ⟨by rw [(HK0.out.mod hmd (by simp only [List.mem_singleton]; omega)).cell]; rfl, by rw [(HK2.out.mod hmd (by simp only [List.mem_singleton]; omega)).cell]; rfl, by omega, by omega, ⟨_, HV1.out.mod hmd (by simp only [List.mem_singleton]; omega)⟩, ⟨_, hv3⟩⟩)
          have HFK := Lib.hid (firstK_any wr (keptC zm L) xb (xb + 1 + 1) am nm cm zm HM5.out hnm (fun w' i q hq hb => kept1_any w' i xb (xb + 1 + 1) wb eb zm L (HKp.out.on hb) q.1 (HMM.out.each q hq).ts))
          have HP5 := Lib.hid (show xb + 3 ≤ wr.heap.size ∧ ab < xb ∧ w.heap.size ≤ wr.heap.size by omega)
          clear hv3 hmd hall hp hsr hs4 hbw HV1 HV2 HK0 HK1 HK2 HBw HMd hn3
          generalize wr = w5 at *
          generalize firstAt (keptC zm L) 0 zm = fk at *
          go_wp2_with fail
          refine HFK.out.mono ?_
          rintro e w6 ⟨rfl, hb6⟩
          have HB6 := Lib.hid hb6
          clear hb6 HFK HKp
          by_cases hfk : 0 ≤ fk
          · have hfk' : fk ≥ 0 := hfk
            have HR := Lib.hid (show kl = fk by rw [HKL.out, if_pos hfk])
            have HE := Lib.hid (HBw5.out.trans (HB6.out.mono HP5.out.2.2))
            clear HKL
            go_wp2_with fail
            go_ret
            exact ⟨by rw [HR.out]; try rfl, HE.out⟩
          · have hfk' : ¬ fk ≥ 0 := hfk
            rw [if_neg hfk] at HKL
            obtain ⟨mb, w7, hmb, hr7, hv7, hb7, hs7⟩ := made_num w6
            have hs6 := HB6.out.size
            have HV7 := Lib.hid hv7
            have HB7 := Lib.hid hb7
            have HS7 := Lib.hid (show mb = w6.heap.size ∧ w7.heap.size = w6.heap.size + 1 ∧ w5.heap.size ≤ w6.heap.size from ⟨hmb, hs7, hs6⟩)
            clear hmb hv7 hb7 hs7 hs6
            go_upto_region 20 with fail
            clear hr7
            have hx0 := (Below.refl w7.heap.size w7).alloc (Nat.le_refl _) (.cells #[.int .u64 (1 : Int)] 32)
            have hx1 := hx0.alloc hx0.size (.cells #[.map (some mb)] 61)
            have hy0 : Blk (w7.alloc (.cells #[.int .u64 (1 : Int)] 32)) w7.heap.size [.int .u64 ((1 : Nat) : Int)] 32 := Blk.new w7 [.int .u64 ((1 : Nat) : Int)] 32
            have q1 := (Below.refl (w7.alloc (.cells #[.int .u64 (1 : Int)] 32)).heap.size (w7.alloc (.cells #[.int .u64 (1 : Int)] 32))).alloc (Nat.le_refl _) (.cells #[.map (some mb)] 61)
            have hy1 : Blk ((w7.alloc (.cells #[.int .u64 (1 : Int)] 32)).alloc (.cells #[.map (some mb)] 61)) _ [.map (some mb)] 61 := Blk.new _ [.map (some mb)] 61
            have hy0 := hy0.on q1
            simp only [World.size_alloc] at hy1
            have hsz8 : ((w7.alloc (.cells #[.int .u64 (1 : Int)] 32)).alloc (.cells #[.map (some mb)] 61)).heap.size = w7.heap.size + 2 := by simp
            generalize (w7.alloc (.cells #[.int .u64 (1 : Int)] 32)).alloc (.cells #[.map (some mb)] 61) = w8 at *
            obtain ⟨nb, hnb⟩ : ∃ x, w7.heap.size = x := ⟨_, rfl⟩
            have HB8 := Lib.hid (HB7.out.trans (hx1.mono HB7.out.size))
            rw [hnb] at hy0 hy1 hsz8
            have hp5 := HP5.out
            have hp7 := HS7.out
            have HB58 := Lib.hid (HB6.out.trans (HB8.out.mono (by omega)))
            have HK := Lib.hid (show Kept2At w8 (xb + 1) (nb + 1) nb ab mb zm [] 1 from by
              have hk1 := HK1'.out.on HB58.out
              exact ⟨by rw [hk1.cell]; rfl, by rw [hy1.cell]; rfl, hy0, by omega, by omega, ⟨_, HV2'.out.on HB58.out⟩, ⟨0, by simp, (HV7.out.on hx1).congr (fun x => rfl)⟩, ⟨by omega, by omega⟩, ⟨by omega, by omega⟩, by omega, ⟨by omega, by omega⟩⟩)
            have HFE := Lib.hid (firstE_any w8 (xb + 1) (nb + 1) nb ab mb zm w6.heap.size (by omega) ⟨by omega, by omega⟩ a n c z (fun w' hb => (HH5.out.on HB6.out).on (HB8.out.trans hb)) hn HO.out HK.out)
            rw [HL.out] at HFE
            simp only [hnb]
            clear hx0 hx1 hy0 hy1 q1 hsz8 hnb hp5 hp7 HK
            have hsk := scanK_ge zm L [] 1 0
            generalize scanK zm [] 1 0 L = sk at *
            have HBh := Lib.hid (fun w' => behind_any sk nm (by have := HLen.out; omega) (by omega) w')
            have HR := Lib.hid (show kl = (if sk < 0 then -1 else (nm : Int) + sk) by rw [HKL.out, show (zm.length : Int) = nm by rw [HMM.out.len]])
            have hs68 : w6.heap.size ≤ w8.heap.size := HB8.out.size
            obtain ⟨bv, hbv⟩ : ∃ b, (if sk < 0 then -1 else (nm : Int) + sk) = b := ⟨_, rfl⟩
            rw [hbv] at HR
            simp only [hbv] at HBh
            clear hsk HKL hbv
            go_wp2_with fail
            refine HFE.out.mono ?_
            rintro e w9 ⟨rfl, hb9⟩
            have HB9 := Lib.hid (HBw5.out.trans ((HB58.out.mono HP5.out.2.2).trans (hb9.mono (by have := HB6.out.size; have := HP5.out.2.2; omega))))
            clear hb9 HFE
            go_wp2_with fail
            refine (HBh.out w9).mono ?_
            rintro e w10 ⟨rfl, rfl⟩
            go_wp2_with fail
            go_ret
            exact ⟨by rw [HR.out]; try rfl, HB9.out⟩
end Go.Proofs.YtecknikehieioaaGreat

/-! ### LookW -/
namespace Go.Proofs.YtecknikehieioaaGreat
set_option linter.unusedVariables false
set_option linter.unusedSimpArgs false
open Go.RowKit Go.Maps

theorem info_rec : (Tryz.prog.info? 49).map (fun i => (i.zero, i.size, i.bytes)) = some (some (.agg #[.string ⟨#[]⟩, .int .u64 0, .bool false, .string ⟨#[]⟩]), 4, 48) := by kernel_rfl
theorem recs_append (l m : List Rec) : recsCells (l ++ m) = recsCells l ++ recsCells m := by unfold recsCells; rw [List.flatMap_append]
theorem recs_one (l : List Rec) : ∀ u ∈ recsCells l, u.oneCell' = true := by
  intro u hu
  unfold recsCells at hu
  obtain ⟨r, _, hr⟩ := List.mem_flatMap.1 hu
  simp only [recCells, List.mem_cons, List.not_mem_nil, or_false] at hr
  rcases hr with rfl | rfl | rfl | rfl <;> rfl
theorem made_rec (w : World) : ∃ (b : Nat) (w' : World), b = w.heap.size ∧ (Instr.makeMap 71 none).run Tryz.prog w = .ok (.map (some b)) w' ∧ VMap recKey w' b 0 (fun _ => none) ∧ Below w.heap.size w w' ∧ w'.heap.size = w.heap.size + 1 :=
  ⟨w.heap.size, _, rfl, VMap.made_run (w := w) (k := 49) (e := 3) (t := 71) Tryz.underlying71, VMap.made recKey w, (Below.refl w.heap.size w).alloc (Nat.le_refl _) _, by simp⟩
theorem made_tu (w : World) : ∃ (b : Nat) (w' : World), b = w.heap.size ∧ (Instr.makeMap 72 none).run Tryz.prog w = .ok (.map (some b)) w' ∧ VMap textKey w' b 0 (fun _ => none) ∧ Below w.heap.size w w' ∧ w'.heap.size = w.heap.size + 1 :=
  ⟨w.heap.size, _, rfl, VMap.made_run (w := w) (k := 9) (e := 32) (t := 72) Tryz.underlying72, VMap.made textKey w, (Below.refl w.heap.size w).alloc (Nat.le_refl _) _, by simp⟩
theorem made_ti (w : World) : ∃ (b : Nat) (w' : World), b = w.heap.size ∧ (Instr.makeMap 75 none).run Tryz.prog w = .ok (.map (some b)) w' ∧ VMap textKey w' b 0 (fun _ => none) ∧ Below w.heap.size w w' ∧ w'.heap.size = w.heap.size + 1 :=
  ⟨w.heap.size, _, rfl, VMap.made_run (w := w) (k := 9) (e := 3) (t := 75) Tryz.underlying75, VMap.made textKey w, (Below.refl w.heap.size w).alloc (Nat.le_refl _) _, by simp⟩
/-- What Tree's two loops over the log have gathered. -/
structure TreeSt (w6 : World) (ob db : Nat) (v : Value) (A : List Rec) (w : World) : Prop where
  own : w.ownsRow w6.heap.size 49 4 v A.length (recsCells A)
  ops : ∃ k, k ≤ A.length ∧ VMap recKey w ob k (opsF (isR A))
  dels : ∃ k, k ≤ A.length ∧ VMap textKey w db k (goneF A)
  mod : Mod [ob, db] w6 w
theorem TreeSt.on {w6 : World} {ob db : Nat} {v : Value} {A : List Rec} {w w' : World} (h : TreeSt w6 ob db v A w) (hb : Below w.heap.size w w') : TreeSt w6 ob db v A w' := by
  obtain ⟨k1, e1, h1⟩ := h.ops
  obtain ⟨k2, e2, h2⟩ := h.dels
  exact ⟨ownsRow_mod h.own (Mod.of_below hb (S := [])) (by simp), ⟨k1, e1, h1.on hb⟩, ⟨k2, e2, h2.on hb⟩, h.mod.thenBelow hb⟩
def TreeEnd (s : Sn) (N A : List Rec) (w : World) (e : Ending) (w' : World) : Prop := e = .returned (.int .i64 (treeL (s.dcUp && s.sync) s.last s.stable s.low N A)) ∧ Below w.heap.size w w'
theorem opsOf_len (L : List Entry) (h : ∀ x ∈ L, x.ops.length ≤ 1000) (i : Nat) : (doneOps L i).length ≤ 1000 * i := by
  induction i with
  | zero => simp [doneOps, opsOf]
  | succ i ih =>
    rcases Nat.lt_or_ge i L.length with hi | hi
    · rw [doneOps_next L i L[i] (List.getElem?_eq_getElem hi), List.length_append]
      have := h L[i] (List.getElem_mem hi)
      omega
    · unfold doneOps at *
      rw [List.take_of_length_le (by omega)]
      rw [List.take_of_length_le hi] at ih
      omega
set_option maxRecDepth 100000 in
set_option maxHeartbeats 16000000 in
theorem tree_any (w : World) (s : Sn) (N : List Rec) (hN : RowsAt w s.ca s.cn s.cc 4 (recsCells N)) (eN : s.cn = N.length) (bN : s.cn ≤ 100000) (oN : ∀ r ∈ N, r.ok) (a : Option Addr) (n c : Nat) (z : List EZ) (h : EntsAt w a n c z) (hn : n ≤ 1000) (hops : ∀ q ∈ z, q.2.ops.length ≤ 1000) :
    Calls Tryz.prog 17 #[.agg (snCells s).toArray, .slice a n c] w (TreeEnd s N (opsOf (z.map (·.2))) w) := by
  obtain ⟨L, hL⟩ : ∃ L, z.map (·.2) = L := ⟨_, rfl⟩
  have HLen := Lib.hid (show L.length = n by rw [← hL, List.length_map]; exact h.len)
  have HLo := Lib.hid (show ∀ x ∈ L, x.ops.length ≤ 1000 from fun x hx => by
    rw [← hL] at hx
    obtain ⟨q, hq, rfl⟩ := List.mem_map.1 hx
    exact hops q hq)
  have HAok := Lib.hid (show ∀ r ∈ opsOf L, r.ok from fun r hr => by
    obtain ⟨x, hx, hr⟩ := List.mem_flatMap.1 hr
    rw [← hL] at hx
    obtain ⟨q, hq, rfl⟩ := List.mem_map.1 hx
    exact (h.each q hq).ok.ops r hr)
  rw [hL]
  have HL := Lib.hid hL
  have HH := Lib.hid h
  have HN := Lib.hid hN
  have EN := Lib.hid eN
  have ON := Lib.hid oN
  have HKL := Lib.hid (show treeL (s.dcUp && s.sync) s.last s.stable s.low N (opsOf L) = if (s.dcUp && s.sync) = true then (if 0 ≤ scanT s.stable (opsOf L) none 0 N then scanT s.stable (opsOf L) none 0 N else if firstR (badO s.last s.stable s.low N (opsOf L)) 0 (opsOf L) < 0 then -1 else N.length + firstR (badO s.last s.stable s.low N (opsOf L)) 0 (opsOf L)) else -1 from rfl)
  unfold TreeEnd
  obtain ⟨tv, htv⟩ : ∃ t, treeL (s.dcUp && s.sync) s.last s.stable s.low N (opsOf L) = t := ⟨_, rfl⟩
  rw [htv] at HKL ⊢
  clear hL h hN eN oN hops htv
  obtain ⟨tcUp, dcUp, ready, sync, base, stable, last, eosl, low, ca, cn, cc, aa, an, ac, fly⟩ := s
  simp only at HN EN bN HKL
  show Calls Tryz.prog 17 #[.agg #[.bool tcUp, .bool dcUp, .bool ready, .bool sync, .int .u64 (base : Nat), .int .u64 (stable : Nat), .int .u64 (last : Nat), .int .u64 (eosl : Nat), .int .u64 (low : Nat), .slice ca cn cc, .slice aa an ac, .int .i64 fly], .slice a n c] w _
  have hA : Blk (w.alloc (.cells #[.bool tcUp, .bool dcUp, .bool ready, .bool sync, .int .u64 (base : Nat), .int .u64 (stable : Nat), .int .u64 (last : Nat), .int .u64 (eosl : Nat), .int .u64 (low : Nat), .slice ca cn cc, .slice aa an ac, .int .i64 fly] 47)) w.heap.size (snCells (⟨tcUp, dcUp, ready, sync, base, stable, last, eosl, low, ca, cn, cc, aa, an, ac, fly⟩ : Sn)) 47 := Blk.new w (snCells (⟨tcUp, dcUp, ready, sync, base, stable, last, eosl, low, ca, cn, cc, aa, an, ac, fly⟩ : Sn)) 47
  have hbn := (Below.refl w.heap.size w).alloc (Nat.le_refl _) (.cells #[.bool tcUp, .bool dcUp, .bool ready, .bool sync, .int .u64 (base : Nat), .int .u64 (stable : Nat), .int .u64 (last : Nat), .int .u64 (eosl : Nat), .int .u64 (low : Nat), .slice ca cn cc, .slice aa an ac, .int .i64 fly] 47)
  have hsz1 : (w.alloc (.cells #[.bool tcUp, .bool dcUp, .bool ready, .bool sync, .int .u64 (base : Nat), .int .u64 (stable : Nat), .int .u64 (last : Nat), .int .u64 (eosl : Nat), .int .u64 (low : Nat), .slice ca cn cc, .slice aa an ac, .int .i64 fly] 47)).heap.size = w.heap.size + 1 := by simp
  go_enter Tryz.func17, Tryz.ntmps17
  go_upto_region 1 with fail
  generalize w.alloc (.cells #[.bool tcUp, .bool dcUp, .bool ready, .bool sync, .int .u64 (base : Nat), .int .u64 (stable : Nat), .int .u64 (last : Nat), .int .u64 (eosl : Nat), .int .u64 (low : Nat), .slice ca cn cc, .slice aa an ac, .int .i64 fly] 47) = w1 at *
  have c1 : w1.cell? ⟨w.heap.size, 1, none⟩ = some (.bool dcUp) := by rw [hA.cell]; rfl
  have c3 : w1.cell? ⟨w.heap.size, 3, none⟩ = some (.bool sync) := by rw [hA.cell]; rfl
  have HA := Lib.hid (show SnAt w1 w.heap.size (⟨tcUp, dcUp, ready, sync, base, stable, last, eosl, low, ca, cn, cc, aa, an, ac, fly⟩ : Sn) from ⟨hA⟩)
  have HBN := Lib.hid hbn
  have HSz := Lib.hid hsz1
  clear hA hbn hsz1
  cases dcUp with
  | false =>
    have HR := Lib.hid (show tv = -1 by rw [HKL.out]; rfl)
    go_wp2_with fail
    go_ret
    exact ⟨by rw [HR.out]; try rfl, HBN.out⟩
  | true =>
    cases sync with
    | false =>
      have HR := Lib.hid (show tv = -1 by rw [HKL.out]; rfl)
      go_wp2_with fail
      go_ret
      exact ⟨by rw [HR.out]; try rfl, HBN.out⟩
    | true =>
      rw [show (true && true) = true from rfl, if_pos rfl] at HKL
      obtain ⟨ob, w2, hob, hr2, hv2, hb2, hs2⟩ := made_rec w1
      have HS2 := Lib.hid (And.intro hob hs2)
      clear hob hs2
      go_upto_region 4 with fail
      clear hr2 c1 c3
      have hx := (Below.refl w2.heap.size w2).alloc (Nat.le_refl _) (.cells #[.map (some ob)] 71)
      have hk : Blk (w2.alloc (.cells #[.map (some ob)] 71)) w2.heap.size [.map (some ob)] 71 := Blk.new w2 [.map (some ob)] 71
      have hs3 : (w2.alloc (.cells #[.map (some ob)] 71)).heap.size = w2.heap.size + 1 := by simp
      obtain ⟨ox, hox⟩ : ∃ x, w2.heap.size = x := ⟨_, rfl⟩
      have HB3 := Lib.hid (hb2.trans (hx.mono (by have := HS2.out; omega)))
      have HVo := Lib.hid (hv2.on hx)
      generalize w2.alloc (.cells #[.map (some ob)] 71) = w3 at *
      rw [hox] at hk hs3
      have HKo := Lib.hid hk
      have HP3 := Lib.hid (show ob = w1.heap.size ∧ ox = w1.heap.size + 1 ∧ w3.heap.size = w1.heap.size + 2 by have := HS2.out; omega)
      simp only [hox]
      clear hx hk hs3 hox hb2 hv2 HS2
      obtain ⟨db, w4, hdb, hr4, hv4, hb4, hs4⟩ := made_tu w3
      obtain ⟨hb, w5, hhb, hr5, hv5, hb5, hs5⟩ := made_tu w4
      have HS5 := Lib.hid (show db = w3.heap.size ∧ w4.heap.size = w3.heap.size + 1 ∧ hb = w4.heap.size ∧ w5.heap.size = w4.heap.size + 1 from ⟨hdb, hs4, hhb, hs5⟩)
      clear hdb hs4 hhb hs5
      go_upto_region 6 with fail
      clear hr4 hr5
      have hx0 := (Below.refl w5.heap.size w5).alloc (Nat.le_refl _) (.cells #[.map (some db)] 72)
      have hx1 := hx0.alloc hx0.size (.cells #[.map (some hb)] 72)
      have hk0 : Blk (w5.alloc (.cells #[.map (some db)] 72)) w5.heap.size [.map (some db)] 72 := Blk.new w5 [.map (some db)] 72
      have q1 := (Below.refl (w5.alloc (.cells #[.map (some db)] 72)).heap.size (w5.alloc (.cells #[.map (some db)] 72))).alloc (Nat.le_refl _) (.cells #[.map (some hb)] 72)
      have hk1 : Blk ((w5.alloc (.cells #[.map (some db)] 72)).alloc (.cells #[.map (some hb)] 72)) _ [.map (some hb)] 72 := Blk.new _ [.map (some hb)] 72
      have hk0 := hk0.on q1
      simp only [World.size_alloc] at hk1
      have hsz6 : ((w5.alloc (.cells #[.map (some db)] 72)).alloc (.cells #[.map (some hb)] 72)).heap.size = w5.heap.size + 2 := by simp
      generalize (w5.alloc (.cells #[.map (some db)] 72)).alloc (.cells #[.map (some hb)] 72) = w6 at *
      obtain ⟨dx, hdx⟩ : ∃ x, w5.heap.size = x := ⟨_, rfl⟩
      rw [hdx] at hk0 hk1 hsz6
      have hB36 : Below w3.heap.size w3 w6 := hb4.trans ((hb5.mono (by have := HS5.out; omega)).trans (hx1.mono (by have := HS5.out; omega)))
      have HKd := Lib.hid hk0
      have HKh := Lib.hid hk1
      have HKo := Lib.hid (HKo.out.on hB36)
      have HVo := Lib.hid ((HVo.out.on hB36).congr (g := opsF (isR [])) (fun x => rfl))
      have HVd := Lib.hid (((hv4.on hb5).on hx1).congr (g := goneF []) (fun x => rfl))
      have HVh := Lib.hid ((hv5.on hx1).congr (g := goneF []) (fun x => rfl))
      have HB16 := Lib.hid (show Below w1.heap.size w1 w6 from HB3.out.trans (hB36.mono HB3.out.size))
      have HSn := Lib.hid (HA.out.on HB16.out)
      have HB6 := Lib.hid (show Below w.heap.size w w6 from HBN.out.trans (HB16.out.mono HBN.out.size))
      obtain ⟨sx, hsx⟩ : ∃ x, w.heap.size = x := ⟨_, rfl⟩
      have HP := Lib.hid (show w.heap.size = sx ∧ ob = sx + 1 ∧ ox = sx + 2 ∧ db = sx + 3 ∧ hb = sx + 4 ∧ dx = sx + 5 ∧ w6.heap.size = sx + 7 by have := HP3.out; have := HSz.out; have := HS5.out; omega)
      rw [hsx] at HSn
      simp only [hdx, hsx]
      clear hx0 hx1 hk0 hk1 q1 hsz6 hdx hsx hb4 hb5 hv4 hv5 HS5 hB36 HP3 HSz HB3 HA HBN HB16
      go_wp2_with fail
      go_loopw [6, 10, 12, 30] (fun s6 _ _ s30 wr => ∃ i : Nat, i ≤ n ∧ s30 = .int .i64 i ∧ TreeSt w6 ob db s6 (doneOps L i) wr) (fun _ _ _ s30 _ => n - (intOf s30).toNat)
      case atStart => exact ⟨0, by omega, rfl, ⟨⟨rfl, .inl ⟨rfl, rfl⟩⟩, ⟨0, by omega, HVo.out⟩, ⟨0, by omega, HVd.out⟩, Mod.refl _ _⟩⟩
      case round =>
        clear HVo HVd
        obtain ⟨i, hi, rfl, hst⟩ := hrel
        have HSt := Lib.hid hst
        have hp := HP.out
        have hbw : Below w.heap.size w wr := HB6.out.trans (hst.mod.below (fun x hx => by simp only [List.mem_cons, List.not_mem_nil, or_false] at hx; omega) (by omega))
        have hsr := hst.mod.size
        clear hst
        by_cases hlt : i < n
        · have hil : (i : Int) < (n : Int) := by omega
          obtain ⟨q, g, o, hq, hqz, rfl, hg, d0, d1, d2⟩ := (HH.out.on hbw).row hlt
          have hLi : L[i]? = some q.2 := by rw [← HL.out, List.getElem?_map, hq]; rfl
          have HDn := Lib.hid (doneOps_next L i q.2 hLi)
          have HDl := Lib.hid (show (doneOps L i).length ≤ 1000000 from Nat.le_trans (opsOf_len L HLo.out i) (by omega))
          have HOl := Lib.hid (HLo.out q.2 (List.mem_of_getElem? hLi))
          have hBn := (Below.refl wr.heap.size wr).alloc (Nat.le_refl _) (.cells #[.int .u64 (q.1.ts : Nat), .int .u64 (q.1.first : Nat), .slice q.1.a q.1.n q.1.c] 43)
          have hA : Blk (wr.alloc (.cells #[.int .u64 (q.1.ts : Nat), .int .u64 (q.1.first : Nat), .slice q.1.a q.1.n q.1.c] 43)) wr.heap.size [.int .u64 (q.1.ts : Nat), .int .u64 (q.1.first : Nat), .slice q.1.a q.1.n q.1.c] 43 := Blk.new wr [.int .u64 (q.1.ts : Nat), .int .u64 (q.1.first : Nat), .slice q.1.a q.1.n q.1.c] 43
          have HE := Lib.hid (HH.out.each q hqz)
          have HSt := Lib.hid (HSt.out.on hBn)
          have HSr := Lib.hid hsr
          obtain ⟨⟨qt, qf, qa, qn, qc⟩, x⟩ := q
          simp only at d0 d1 d2 HE HDn HOl hBn hA HSt
          clear hq hqz hLi hp hsr hbw hg
          go_upto_region 9 with fail
          generalize wr.alloc (.cells #[.int .u64 (qt : Nat), .int .u64 (qf : Nat), .slice qa qn qc] 43) = w7 at *
          clear d0 d1 d2
          have d2 : w7.cell? ⟨wr.heap.size, 2, none⟩ = some (.slice qa qn qc) := by rw [hA.cell]; rfl
          have HSr7 := Lib.hid (show w6.heap.size ≤ w7.heap.size from Nat.le_trans HSr.out hBn.size)
          have HN7 := Lib.hid (show qn = x.ops.length from HE.out.n)
          have hqn : qn ≤ 1000 := by have := HN7.out; have := HOl.out; omega
          clear hA hBn
          go_wp2_with fail
          clear d2
          go_loopw [6, 12, 37] (fun s6 _ s37 wr => ∃ j : Nat, j ≤ qn ∧ s37 = .int .i64 j ∧ TreeSt w6 ob db s6 (doneOps L i ++ x.ops.take j) wr) (fun _ _ s37 _ => qn - (intOf s37).toNat)
          case atStart => exact ⟨0, by omega, rfl, by simpa using HSt.out⟩
          case round =>
            clear HSt
            obtain ⟨j, hj, rfl, hst⟩ := hrel
            have hp := HP.out
            have hbw : Below w.heap.size w wr := HB6.out.trans (hst.mod.below (fun x hx => by simp only [List.mem_cons, List.not_mem_nil, or_false] at hx; omega) (by omega))
            have hsr := hst.mod.size
            by_cases hlt2 : j < qn
            · have hjl : (j : Int) < (qn : Int) := by omega
              obtain ⟨r, g2, o2, hr, hrm, rfl, hg2, d0, d1, d2, d3⟩ := recs_row (HE.out.rows.on hbw) HN7.out hlt2
              have HRok := Lib.hid (HE.out.ok.ops r hrm)
              have HNx := Lib.hid (show doneOps L i ++ x.ops.take (j + 1) = (doneOps L i ++ x.ops.take j) ++ [r] by rw [take_next _ _ _ hr, List.append_assoc])
              have HAl := Lib.hid (show (doneOps L i ++ x.ops.take j).length ≤ 1000000 by rw [List.length_append, List.length_take]; have := opsOf_len L HLo.out i; have := HOl.out; omega)
              obtain ⟨A, hAe⟩ : ∃ A, doneOps L i ++ x.ops.take j = A := ⟨_, rfl⟩
              rw [hAe] at HNx HAl hst
              have HAe := Lib.hid hAe
              obtain ⟨rk, rl, rd, rv⟩ := r
              simp only at d0 d1 d2 d3
              have hbn := (Below.refl wr.heap.size wr).alloc (Nat.le_refl _) (.cells #[.string ⟨rk.toArray⟩, .int .u64 (rl : Nat), .bool rd, .string ⟨rv.toArray⟩] 49)
              have hA : Blk (wr.alloc (.cells #[.string ⟨rk.toArray⟩, .int .u64 (rl : Nat), .bool rd, .string ⟨rv.toArray⟩] 49)) wr.heap.size [.string ⟨rk.toArray⟩, .int .u64 (rl : Nat), .bool rd, .string ⟨rv.toArray⟩] 49 := Blk.new wr [.string ⟨rk.toArray⟩, .int .u64 (rl : Nat), .bool rd, .string ⟨rv.toArray⟩] 49
              have HLt := Lib.hid (show ∀ x, u6.ownBlock = some x → w6.heap.size ≤ x ∧ x < wr.heap.size from hst.own.lt)
              have HSt := Lib.hid (hst.on hbn)
              have HSr := Lib.hid hsr
              clear hst hr hrm hp hsr hbw hg2 hAe
              go_upto_region 12 with fail
              generalize hw8 : wr.alloc (.cells #[.string ⟨rk.toArray⟩, .int .u64 (rl : Nat), .bool rd, .string ⟨rv.toArray⟩] 49) = w8 at *
              have hw8l : wr.heap.size < w8.heap.size := by rw [← hw8]; simp
              clear hw8 d0 d1 d2 d3
              have e0 : w8.cell? ⟨wr.heap.size, 0, none⟩ = some (.string ⟨rk.toArray⟩) := by rw [hA.cell]; rfl
              have e1 : w8.cell? ⟨wr.heap.size, 1, none⟩ = some (.int .u64 (rl : Nat)) := by rw [hA.cell]; rfl
              have e2 : w8.cell? ⟨wr.heap.size, 2, none⟩ = some (.bool rd) := by rw [hA.cell]; rfl
              have e3 : w8.cell? ⟨wr.heap.size, 3, none⟩ = some (.string ⟨rv.toArray⟩) := by rw [hA.cell]; rfl
              have hbn2 := (Below.refl w8.heap.size w8).alloc (Nat.le_refl _) (.cells #[.string ⟨rk.toArray⟩, .int .u64 (rl : Nat), .bool rd, .string ⟨rv.toArray⟩] 49)
              have hN2 : Blk (w8.alloc (.cells #[.string ⟨rk.toArray⟩, .int .u64 (rl : Nat), .bool rd, .string ⟨rv.toArray⟩] 49)) w8.heap.size (recsCells [⟨rk, rl, rd, rv⟩]) 49 := Blk.new w8 [.string ⟨rk.toArray⟩, .int .u64 (rl : Nat), .bool rd, .string ⟨rv.toArray⟩] 49
              obtain ⟨v', w9, hrun, hown', hmod, hblk⟩ := own_append 41 49 41 _ 4 48 Tryz.underlying41 info_rec rfl (by decide) (by decide) (HSt.out.own.alloc (.cells #[.string ⟨rk.toArray⟩, .int .u64 (rl : Nat), .bool rd, .string ⟨rv.toArray⟩] 49))
                HAl.out (by have := HSr.out; simp; omega) ⟨w8.heap.size, 0, none⟩ 1 1 (recsCells [⟨rk, rl, rd, rv⟩]) (by omega) (by omega) rfl
                (fun k u hk => by rw [addr_add', Nat.zero_add, hN2.cell]; exact hk) (recs_one _)
              rw [← recs_append] at hown'
              have hm89 : Mod u6.ownBlock.toList w8 w9 := (Mod.of_below hbn2).trans hmod
              have HOwn := Lib.hid hown'
              have HM := Lib.hid (show Mod [ob, db] w6 w9 from HSt.out.mod.on hm89 (fun y hy => .inr (HLt.out y (by simpa using hy)).1))
              have HM89 := Lib.hid hm89
              have HVx := Lib.hid (show (∃ k, k ≤ A.length ∧ VMap recKey w9 ob k (opsF (isR A))) ∧ ∃ k, k ≤ A.length ∧ VMap textKey w9 db k (goneF A) from by
                have hp := HP.out
                obtain ⟨k1, e1, h1⟩ := HSt.out.ops
                obtain ⟨k2, e2, h2⟩ := HSt.out.dels
                exact ⟨⟨k1, e1, h1.mod hm89 (fun hy => by have := (HLt.out ob (by simpa using hy)).1; omega)⟩, ⟨k2, e2, h2.mod hm89 (fun hy => by have := (HLt.out db (by simpa using hy)).1; omega)⟩⟩)
              have HA9 := Lib.hid (hA.mod hm89 (fun hy => by have := (HLt.out _ (by simpa using hy)).2; omega))
              clear hown' hmod hblk hbn hbn2 hN2 hm89 hA HSt
              go_upto_region 13 with (at_builtin; (with_reducible refine wpList_append_run rfl _ _ _ rfl _ _ _ _ ?_ ?_ hrun ?_); rfl; rfl)
              clear hrun e0 e1 e2 e3
              have hp := HP.out
              have hs9 : w8.heap.size ≤ w9.heap.size := HM89.out.size
              have hlt9 := HOwn.out.lt
              have e0 : w9.cell? ⟨wr.heap.size, 0, none⟩ = some (.string ⟨rk.toArray⟩) := by rw [HA9.out.cell]; rfl
              have e1 : w9.cell? ⟨wr.heap.size, 1, none⟩ = some (.int .u64 (rl : Nat)) := by rw [HA9.out.cell]; rfl
              have e2 : w9.cell? ⟨wr.heap.size, 2, none⟩ = some (.bool rd) := by rw [HA9.out.cell]; rfl
              have e3 : w9.cell? ⟨wr.heap.size, 3, none⟩ = some (.string ⟨rv.toArray⟩) := by rw [HA9.out.cell]; rfl
              have b0 : w9.cell? ⟨ox, 0, none⟩ = some (.map (some ob)) := by rw [(HKo.out.mod HM.out (by simp only [List.mem_cons, List.not_mem_nil, or_false]; omega)).cell]; rfl
              obtain ⟨⟨k1, hk1, hv1⟩, k2, hk2, hv2⟩ := HVx.out
              obtain ⟨w10, k1', hr10, hv10, hk10, hm10⟩ := ops_store hv1 (by have := HAl.out; omega) ⟨rk, rl, rd, rv⟩ HRok.out
              unfold recV at hr10
              simp only at hr10
              have HSr9 := HSr.out
              have HA10 := Lib.hid (HA9.out.mod hm10 (by simp only [List.mem_singleton]; omega))
              have HM10 := Lib.hid (HM.out.on hm10 (fun y hy => by simp only [List.mem_singleton] at hy; rw [hy]; exact .inl (by simp)))
              have HOwn10 := Lib.hid (ownsRow_mod HOwn.out hm10 (fun y hy e => by simp only [List.mem_singleton] at hy; have := (hlt9 y e).1; omega))
              have HVo10 := Lib.hid (show ∃ k, k ≤ A.length + 1 ∧ VMap recKey w10 ob k (opsF (isR (A ++ [⟨rk, rl, rd, rv⟩]))) from ⟨k1', by omega, hv10.congr (fun y => by unfold opsF; rw [isR_snoc])⟩)
              have HVd10 := Lib.hid (hv2.mod hm10 (by simp only [List.mem_singleton]; omega))
              have hs10 : w9.heap.size ≤ w10.heap.size := hm10.size
              have HLt9 := Lib.hid hlt9
              clear hv1 hv2 hv10 hm10 hk10 HVx HM HM89 HA9 HOwn hlt9 hp HSr9
              go_upto_region 14 with fail
              clear hr10 e0 e1 e2 e3 b0
              have e2 : w10.cell? ⟨wr.heap.size, 2, none⟩ = some (.bool rd) := by rw [HA10.out.cell]; rfl
              cases rd with
              | false =>
                have HE2 := Lib.hid (show TreeSt w6 ob db v' (doneOps L i ++ x.ops.take (j + 1)) w10 from by
                  rw [HNx.out]
                  have hl : (A ++ [(⟨rk, rl, false, rv⟩ : Rec)]).length = A.length + 1 := by simp
                  exact ⟨by rw [hl]; exact HOwn10.out, by rw [hl]; exact HVo10.out, ⟨k2, by rw [hl]; omega, HVd10.out.congr (fun y => (gone_skip A ⟨rk, rl, false, rv⟩ rfl y).symm)⟩, HM10.out⟩)
                go_wp2_with fail
                go_roundw
                case rel => exact ⟨j + 1, by omega, by go_num, HE2.out⟩
                case measure => simp [intOf]; omega
              | true =>
                have hp := HP.out
                have HSr9 := HSr.out
                have b1 : w10.cell? ⟨dx, 0, none⟩ = some (.map (some db)) := by rw [(HKd.out.mod HM10.out (by simp only [List.mem_cons, List.not_mem_nil, or_false]; omega)).cell]; rfl
                have e0 : w10.cell? ⟨wr.heap.size, 0, none⟩ = some (.string ⟨rk.toArray⟩) := by rw [HA10.out.cell]; rfl
                have e1 : w10.cell? ⟨wr.heap.size, 1, none⟩ = some (.int .u64 (rl : Nat)) := by rw [HA10.out.cell]; rfl
                obtain ⟨w11, k2', hr11, hv11, hk11, hm11⟩ := gone_store HVd10.out (by have := HAl.out; omega) ⟨rk, rl, true, rv⟩ HRok.out rfl
                have hlk := gone_look HVd10.out rk HRok.out.1
                have hmx := fun w => max_u64 (gmax A rk) rl w
                simp only at hr11
                have HE2 := Lib.hid (show TreeSt w6 ob db v' (doneOps L i ++ x.ops.take (j + 1)) w11 from by
                  rw [HNx.out]
                  have hl : (A ++ [(⟨rk, rl, true, rv⟩ : Rec)]).length = A.length + 1 := by simp
                  obtain ⟨k, hk, hv⟩ := HVo10.out
                  exact ⟨by rw [hl]; exact ownsRow_mod HOwn10.out hm11 (fun y hy e => by simp only [List.mem_singleton] at hy; have := (HLt9.out y e).1; omega), ⟨k, by rw [hl]; exact hk, hv.mod hm11 (by simp only [List.mem_singleton]; omega)⟩, ⟨k2', by rw [hl]; omega, hv11⟩, HM10.out.on hm11 (fun y hy => by simp only [List.mem_singleton] at hy; rw [hy]; exact .inl (by simp))⟩)
                clear hv11 hm11 hk11 hp HSr9
                generalize gmax A rk = gm at *
                go_wp2_with fail
                go_roundw
                case rel => exact ⟨j + 1, by omega, by go_num, HE2.out⟩
                case measure => simp [intOf]; omega
            · have hge2 : ¬ (j : Int) < (qn : Int) := by omega
              have hall : x.ops.take j = x.ops := List.take_of_length_le (by have := HN7.out; omega)
              rw [hall, ← HDn.out] at hst
              have HSt := Lib.hid hst
              clear hst hall hp hsr hbw
              go_wp2_with fail
              go_roundw
              case rel => exact ⟨i + 1, by omega, by go_num, HSt.out⟩
              case measure => simp [intOf]; omega
        · have hge : ¬ (i : Int) < (n : Int) := by omega
          have hall : doneOps L i = opsOf L := by unfold doneOps; rw [List.take_of_length_le (by have := HLen.out; omega)]
          rw [hall] at HSt
          have hAl := opsOf_len L HLo.out i
          rw [hall] at hAl
          have HAl := Lib.hid (show (opsOf L).length ≤ 1000000 by omega)
          obtain ⟨A, hAe⟩ : ∃ A, opsOf L = A := ⟨_, rfl⟩
          rw [hAe] at HSt HAl HAok HKL
          have HSw := Lib.hid (show sx < wr.heap.size ∧ ox < wr.heap.size ∧ dx + 1 < wr.heap.size ∧ w6.heap.size ≤ wr.heap.size by omega)
          have HBw := Lib.hid hbw
          have HNw := Lib.hid (fun w' (hb : Below w.heap.size w w') => HN.out.on hb)
          clear hAl hall hAe hp hbw hsr HLo
          generalize wr = wo at *
          have HT1 := Lib.hid (show Tree1At wo (dx + 1) sx ox hb ob (⟨tcUp, true, ready, true, base, stable, last, eosl, low, ca, cn, cc, aa, an, ac, fly⟩ : Sn) A [] from by
            have hm := HSt.out.mod
            have hp := HP.out
            have hw := HSw.out
            obtain ⟨k, hk, hv⟩ := HSt.out.ops
            exact ⟨by rw [(HKh.out.mod hm (by simp only [List.mem_cons, List.not_mem_nil, or_false]; omega)).cell]; rfl, by rw [(HKo.out.mod hm (by simp only [List.mem_cons, List.not_mem_nil, or_false]; omega)).cell]; rfl, HSn.out.mod hm (by simp only [List.mem_cons, List.not_mem_nil, or_false]; omega), by omega, by omega, ⟨0, by omega, HVh.out.mod hm (by simp only [List.mem_cons, List.not_mem_nil, or_false]; omega)⟩, ⟨k, hv⟩, by omega, by omega, by omega, by omega⟩)
          have HF1 := Lib.hid (firstT_any wo (dx + 1) sx ox hb ob (⟨tcUp, true, ready, true, base, stable, last, eosl, low, ca, cn, cc, aa, an, ac, fly⟩ : Sn) N A HT1.out w.heap.size (by have := HP.out; have := HSw.out; omega) (by have := HP.out; omega) (fun w' hb => HNw.out w' (HBw.out.trans hb)) EN.out (by show cn ≤ 1000000; omega) ON.out)
          obtain ⟨_, _, _, _, _, _, _, _, _, s9, _, _⟩ := HT1.out.sc.cells
          simp only at s9 HF1
          have hsc := scanT_ge stable A N none 0
          obtain ⟨st, hst⟩ : ∃ x, scanT stable A none 0 N = x := ⟨_, rfl⟩
          rw [hst] at HF1 HKL hsc
          obtain ⟨a6, c6, rfl⟩ := own_slice HSt.out.own
          have HDl := Lib.hid (show ∃ k, k ≤ A.length ∧ VMap textKey wo db k (goneF A) from HSt.out.dels)
          have HAr := Lib.hid (show RowsAt wo a6 A.length c6 4 (recsCells A) ∧ (∀ g o, a6 = some ⟨g, o, none⟩ → w6.heap.size ≤ g ∧ g < wo.heap.size) from ⟨(own_rows HSt.out.own).1, fun g o e => HSt.out.own.lt g (by rw [e]; rfl)⟩)
          have HKd2 := Lib.hid (HKd.out.mod HSt.out.mod (by have := HP.out; simp only [List.mem_cons, List.not_mem_nil, or_false]; omega))
          have HLn := Lib.hid (show cn = N.length from EN.out)
          clear HT1 HSt HSn HKd HKh HKo HVh hst
          go_wp2_with fail
          refine HF1.out.mono ?_
          rintro e w7 ⟨rfl, ht7, hb7, hm7⟩
          clear s9
          by_cases hge0 : 0 ≤ st
          · have hge0' : st ≥ 0 := hge0
            have HR := Lib.hid (show tv = st by rw [HKL.out, if_pos hge0])
            have HE := Lib.hid (HBw.out.trans hb7)
            clear ht7 hb7 hm7 HKL HF1
            go_wp2_with fail
            go_ret
            exact ⟨by rw [HR.out]; try rfl, HE.out⟩
          · have hge0' : ¬ st ≥ 0 := hge0
            have HT7 := Lib.hid (ht7 (by omega))
            have HB7 := Lib.hid (HBw.out.trans hb7)
            have HM7 := Lib.hid hm7
            rw [if_neg hge0] at HKL
            have HS7 := Lib.hid (show w6.heap.size ≤ wo.heap.size ∧ wo.heap.size ≤ w7.heap.size from ⟨HSw.out.2.2.2, hm7.size⟩)
            obtain ⟨tb, w8, htb, hr8, hv8, hb8, hs8⟩ := made_ti w7
            have HS8 := Lib.hid (And.intro htb hs8)
            clear htb hs8 ht7 hb7 hm7 HF1
            go_upto_region 22 with fail
            clear hr8
            have hx := (Below.refl w8.heap.size w8).alloc (Nat.le_refl _) (.cells #[.map (some tb)] 75)
            have hk : Blk (w8.alloc (.cells #[.map (some tb)] 75)) w8.heap.size [.map (some tb)] 75 := Blk.new w8 [.map (some tb)] 75
            have hs9 : (w8.alloc (.cells #[.map (some tb)] 75)).heap.size = w8.heap.size + 1 := by simp
            obtain ⟨tx, htx⟩ : ∃ x, w8.heap.size = x := ⟨_, rfl⟩
            have HB79 := Lib.hid (hb8.trans (hx.mono (by have := HS8.out; omega)))
            have HVt := Lib.hid ((hv8.on hx).congr (g := thereF (N.take 0)) (fun x => rfl))
            generalize w8.alloc (.cells #[.map (some tb)] 75) = w9 at *
            rw [htx] at hk hs9
            have HKt := Lib.hid hk
            have HP9 := Lib.hid (show tb = w7.heap.size ∧ tx = w7.heap.size + 1 ∧ w9.heap.size = w7.heap.size + 2 by have := HS8.out; omega)
            have HT9 := Lib.hid (HT7.out.on HB79.out)
            have HB9 := Lib.hid (HB7.out.trans (HB79.out.mono HB7.out.size))
            obtain ⟨_, _, _, _, _, _, _, _, _, s9, _, _⟩ := HT9.out.sc.cells
            simp only at s9
            simp only [htx]
            clear hx hk hs9 htx hb8 hv8 HS8 HT7
            go_wp2_with fail
            clear s9
            go_loopw [16, 72] (fun _ s72 wr => ∃ (i k : Nat), i ≤ cn ∧ s72 = .int .i64 i ∧ k ≤ i ∧ VMap textKey wr tb k (thereF (N.take i)) ∧ Mod [tb] w9 wr) (fun _ s72 _ => cn - (intOf s72).toNat)
            case atStart => exact ⟨0, 0, by omega, rfl, by omega, HVt.out, Mod.refl _ _⟩
            case round =>
              clear HVt
              obtain ⟨i, k, hi, rfl, hki, hv, hm⟩ := hrel
              have hsr := hm.size
              have hp9 := HP9.out
              have hbw : Below w.heap.size w wr := HB9.out.trans (hm.below (fun x hx => by simp only [List.mem_singleton] at hx; have := HB7.out.size; omega) HB9.out.size)
              by_cases hlt : i < cn
              · have hil : (i : Int) < (cn : Int) := by omega
                obtain ⟨r, g2, o2, hr, hrm, rfl, hg2, d0, d1, d2, d3⟩ := recs_row (HNw.out wr hbw) HLn.out hlt
                have HRok := Lib.hid (ON.out r hrm)
                have HNx := Lib.hid (take_next N i r hr)
                obtain ⟨rk, rl, rd, rv⟩ := r
                simp only at d0 d1 d2 d3
                have hbn := (Below.refl wr.heap.size wr).alloc (Nat.le_refl _) (.cells #[.string ⟨rk.toArray⟩, .int .u64 (rl : Nat), .bool rd, .string ⟨rv.toArray⟩] 49)
                have hA : Blk (wr.alloc (.cells #[.string ⟨rk.toArray⟩, .int .u64 (rl : Nat), .bool rd, .string ⟨rv.toArray⟩] 49)) wr.heap.size [.string ⟨rk.toArray⟩, .int .u64 (rl : Nat), .bool rd, .string ⟨rv.toArray⟩] 49 := Blk.new wr [.string ⟨rk.toArray⟩, .int .u64 (rl : Nat), .bool rd, .string ⟨rv.toArray⟩] 49
                have HV := Lib.hid (hv.on hbn)
                have HMd := Lib.hid (hm.thenBelow hbn)
                have b0 := (hm.cell (b := tx) (i := 0) (by omega) (by simp only [List.mem_singleton]; omega)).trans (show w9.cell? ⟨tx, 0, none⟩ = some (.map (some tb)) by rw [HKt.out.cell]; rfl)
                have HB0 := Lib.hid ((hbn.cell (p := ⟨tx, 0, none⟩) (by show tx < _; omega)).trans b0)
                clear hv hm hbw hr hrm hg2 b0 hp9 hsr hbn
                go_upto_region 25 with fail
                generalize wr.alloc (.cells #[.string ⟨rk.toArray⟩, .int .u64 (rl : Nat), .bool rd, .string ⟨rv.toArray⟩] 49) = w10 at *
                clear d0 d1 d2 d3
                have e0 : w10.cell? ⟨wr.heap.size, 0, none⟩ = some (.string ⟨rk.toArray⟩) := by rw [hA.cell]; rfl
                have b0 := HB0.out
                obtain ⟨w11, k', hr11, hv11, hk11, hm11⟩ := there_store HV.out (by omega) ⟨rk, rl, rd, rv⟩ HRok.out
                simp only at hr11
                have HV11 := Lib.hid (show VMap textKey w11 tb k' (thereF (N.take (i + 1))) by rw [HNx.out]; exact hv11)
                have HM11 := Lib.hid (HMd.out.trans hm11)
                clear hv11 hm11 hA
                go_wp2_with fail
                go_roundw
                case rel => exact ⟨i + 1, k', by omega, by go_num, by omega, HV11.out, HM11.out⟩
                case measure => simp [intOf]; omega
              · have hge : ¬ (i : Int) < (cn : Int) := by omega
                have hall : N.take i = N := List.take_of_length_le (by have := HLn.out; omega)
                rw [hall] at hv
                have hsz7 := HS7.out
                have hp := HP.out
                have hm2 : Mod [hb] wo w9 := HM7.out.thenBelow HB79.out
                have hm3 : Mod [hb, tb] wo wr := (hm2.mono (fun z hz => .inl (by simp at hz; simp [hz]))).on hm (fun z hz => .inl (by simp at hz; simp [hz]))
                have HT2 := Lib.hid (show Tree2At wr sx tx (dx + 1) dx tb hb db (⟨tcUp, true, ready, true, base, stable, last, eosl, low, ca, cn, cc, aa, an, ac, fly⟩ : Sn) N A from by
                  have h9 := HT9.out
                  obtain ⟨k2, hk2, hv2⟩ := HDl.out
                  obtain ⟨n1, hn1, hvh⟩ := h9.has
                  exact ⟨by rw [(HKt.out.mod hm (by simp only [List.mem_singleton]; omega)).cell]; rfl, (hm.cell (b := dx + 1) (i := 0) h9.hl (by simp only [List.mem_singleton]; omega)).trans h9.hc, by rw [(HKd2.out.mod hm3 (by simp only [List.mem_cons, List.not_mem_nil, or_false]; omega)).cell]; rfl, h9.sc.mod hm (by simp only [List.mem_singleton]; omega), by omega, by omega, by omega, ⟨k, hv⟩, ⟨n1, hvh.mod hm (by simp only [List.mem_singleton]; omega)⟩, ⟨k2, hv2.mod hm3 (by simp only [List.mem_cons, List.not_mem_nil, or_false]; omega)⟩⟩)
                have HAr2 := Lib.hid (show RowsAt wr a6 A.length c6 4 (recsCells A) from HAr.out.1.mod hm3 (fun g o e => by have := HAr.out.2 g o e; have := HP9.out; simp only [List.mem_cons, List.not_mem_nil, or_false]; omega))
                have HBr := Lib.hid hbw
                clear hv hm hbw hall hsz7 hp hm2 hm3 HT9 hp9 hsr
                generalize wr = w10 at *
                have HF2 := Lib.hid (fun w' (hb' : Below w10.heap.size w10 w') => firstO_any w' sx tx (dx + 1) dx tb hb db (⟨tcUp, true, ready, true, base, stable, last, eosl, low, ca, cn, cc, aa, an, ac, fly⟩ : Sn) N A (HT2.out.on hb') a6 A.length c6 (HAr2.out.on hb') rfl HAl.out HAok.out)
                have HSc := Lib.hid (fun w' (hb' : Below w10.heap.size w10 w') => ((HT2.out.on hb').sc.cells).2.2.2.2.2.2.2.2.2.1)
                simp only at HF2 HSc
                have hfo1 := firstR_ge (badO last stable low N A) 0 A
                have hfo2 := firstR_le (badO last stable low N A) 0 A
                obtain ⟨fo, hfo⟩ : ∃ x, firstR (badO last stable low N A) 0 A = x := ⟨_, rfl⟩
                rw [hfo] at HKL hfo1 hfo2
                simp only [hfo] at HF2
                have HBh := Lib.hid (fun w' => behind_any fo cn (by have := HAl.out; omega) (by omega) w')
                have HR := Lib.hid (show tv = (if fo < 0 then -1 else (cn : Int) + fo) by rw [HKL.out, show (N.length : Int) = cn by rw [HLn.out]])
                obtain ⟨bv, hbv⟩ : ∃ b, (if fo < 0 then -1 else (cn : Int) + fo) = b := ⟨_, rfl⟩
                rw [hbv] at HR
                simp only [hbv] at HBh
                clear hfo hbv hfo1 hfo2 HKL
                go_upto_region 27 with fail
                refine wp_region_settleF (Below w10.heap.size w10) (by kernel_rfl) (by kernel_rfl) (by kernel_rfl) (below_drew (Below.refl _ _)) ?_
                repeat (first
                  | (refine settled_not ?_ ?_
                     · rfl
                     simp only [Act.put, List.setIfInBounds_toArray, List.set_cons_zero, List.set_cons_succ])
                  | (refine settled_val (v := ?_) ?_ (fun w' hS => ?_) ?_
                     rotate_left
                     · rfl
                     · have s9 := HSc.out w' hS
                       go_simp
                       with_reducible rfl
                     simp only [Act.put, List.setIfInBounds_toArray, List.set_cons_zero, List.set_cons_succ])
                  | (refine settled_call (f := 38) (v := .int .i64 fo) ?_ (fun w' hS => ?_) (fun w' hS => ((HF2.out w' hS).mono fun e w'' ⟨h1, h2⟩ => ⟨h1, hS.on h2⟩)) ?_
                     · rfl
                     · go_simp
                     simp only [Act.put, List.setIfInBounds_toArray, List.set_cons_zero, List.set_cons_succ])
                  | (refine settled_call (f := 32) (v := .int .i64 bv) ?_ (fun w' hS => ?_) (fun w' hS => ((HBh.out w').mono fun e w'' ⟨h1, h2⟩ => ⟨h1, h2 ▸ hS⟩)) ?_
                     · rfl
                     · go_simp
                     simp only [Act.put, List.setIfInBounds_toArray, List.set_cons_zero, List.set_cons_succ]))
                refine settled_nil (fun w11 hS => ?_)
                have HE := Lib.hid (HBr.out.trans (hS.mono HBr.out.size))
                clear hS HF2 HBh
                go_wp2_with fail
                go_ret
                exact ⟨by rw [HR.out]; try rfl, HE.out⟩
end Go.Proofs.YtecknikehieioaaGreat

/-! ### Of -/
namespace Go.Proofs.YtecknikehieioaaGreat
set_option linter.unusedVariables false
set_option linter.unusedSimpArgs false
open Go.RowKit Go.Maps

def ofZ (z : List EZ) (ts : Nat) : List EZ := z.filter fun q => decide (q.1.ts = ts)
/-- The value under a key. -/
def ofV (F : Nat → Option Value) (ts : Nat) : Value := (F ts).getD (.slice none 0 0)
/-- Block ob is the map of z's entries, by their timestamps; the rows lie from block B on, each in a block of its own. -/
structure OfAt (w : World) (ob B : Nat) (z : List EZ) (F : Nat → Option Value) (n : Nat) : Prop where
  map : VMap numKey w ob n F
  cnt : n ≤ z.length
  row : ∀ ts, w.ownsRow B 43 3 (ofV F ts) (ofZ z ts).length (entsCells ((ofZ z ts).map (·.1)))
  apart : ∀ t t' x, t ≠ t' → (ofV F t).ownBlock = some x → (ofV F t').ownBlock ≠ some x
  obl : ob < B
theorem OfAt.on {w w' : World} {ob B n : Nat} {z : List EZ} {F : Nat → Option Value} (h : OfAt w ob B z F n) (hb : Below w.heap.size w w') : OfAt w' ob B z F n :=
  ⟨h.map.on hb, h.cnt, fun ts => ownsRow_mod (S := []) (h.row ts) (Mod.of_below hb) (by simp), h.apart, h.obl⟩
theorem OfAt.mod {S : List Nat} {w w' : World} {ob B n : Nat} {z : List EZ} {F : Nat → Option Value} (h : OfAt w ob B z F n) (hm : Mod S w w') (hS : ∀ x ∈ S, x ≠ ob ∧ x < B) : OfAt w' ob B z F n :=
  ⟨h.map.mod hm (fun hx => (hS _ hx).1 rfl), h.cnt, fun ts => ownsRow_mod (h.row ts) hm (fun s hs e => by have := ((h.row ts).lt s e).1; have := (hS s hs).2; omega), h.apart, h.obl⟩
theorem OfAt.made (w : World) : OfAt (w.alloc (.map #[] 0)) w.heap.size (w.heap.size + 1) [] (fun _ => none) 0 :=
  ⟨VMap.made numKey w, Nat.le_refl _, fun ts => ⟨rfl, .inl ⟨rfl, rfl⟩⟩, (fun t t' x _ h => by cases h), by omega⟩
theorem OfAt.look {w : World} {ob B n : Nat} {z : List EZ} {F : Nat → Option Value} (h : OfAt w ob B z F n) (ts : Nat) (hts : ts < 18446744073709551616) :
    (Instr.lookup 88 (.map (some ob)) (.int .u64 (ts : Nat)) false).run Tryz.prog w = .ok (ofV F ts) w := by
  have := h.map.look_run (e := 23) (z := .slice none 0 0) Tryz.underlying88 (by kernel_rfl) ts hts
  rw [show numKey.val ts = .int .u64 (ts : Nat) from rfl] at this
  exact this
theorem oper_append_run3 {P : Program} {w : World} {o : Oper} {a : Act} {K : Act → World → Prop} {Q : Exit → Act → World → Prop} (s x : Operand) (t : TypeId)
    (ho : o.op = .call { callee := .builtin .append, args := #[s, x], argTypes := #[t, t] }) (v xv v' : Value) (w' : World) (hs : a.eval s = v) (hx : a.eval x = xv)
    (hrun : (Builtin.append_ #[t, t] o.type #[v, xv]).run P w = .ok v' w') (h : K (a.put o.dst v') w') : Oper.wp P o a w K Q := by
  unfold Oper.wp
  simp [execOp, ho, resolve, invoke, builtin, hs, hx, hrun, Result.andThen]
  exact h
/-- An entry is put behind those of its timestamp. -/
theorem OfAt.put {w : World} {ob B n : Nat} {z : List EZ} {F : Nat → Option Value} (h : OfAt w ob B z F n) (hB : B ≤ w.heap.size) (hz : z.length ≤ 100000) (q : EZ) (hts : q.1.ts < 18446744073709551616) (ty : TypeId) (c : Array Value) (hc : c = #[.int .u64 (q.1.ts : Nat), .int .u64 (q.1.first : Nat), .slice q.1.a q.1.n q.1.c]) (m : Nat) (hm : m = w.heap.size) :
    ∃ v' w1 w2 F' n', (Builtin.append_ #[23, 23] ty #[ofV F q.1.ts, .slice (some ⟨m, 0, none⟩) 1 1]).run Tryz.prog (w.alloc (.cells c 43)) = .ok v' w1 ∧ Mod (ofV F q.1.ts).ownBlock.toList w w1 ∧
      (Instr.mapUpdate 88 (.map (some ob)) (.int .u64 (q.1.ts : Nat)) v').run Tryz.prog w1 = .ok () w2 ∧ OfAt w2 ob B (z ++ [q]) F' n' ∧ Mod (ob :: (ofV F q.1.ts).ownBlock.toList) w w2 := by
  subst hc hm
  have hbn := (Below.refl w.heap.size w).alloc (Nat.le_refl _) (.cells #[.int .u64 (q.1.ts : Nat), .int .u64 (q.1.first : Nat), .slice q.1.a q.1.n q.1.c] 43)
  have hfl : (ofZ z q.1.ts).length ≤ z.length := List.length_filter_le _ _
  obtain ⟨v', w1, hrun, hown, hmod, hblk⟩ := own_append 23 43 ty _ 3 40 Tryz.underlying23 info_entry rfl (by decide) (by decide) ((h.row q.1.ts).alloc (.cells #[.int .u64 (q.1.ts : Nat), .int .u64 (q.1.first : Nat), .slice q.1.a q.1.n q.1.c] 43))
    (by omega) (by simp; omega) ⟨w.heap.size, 0, none⟩ 1 1 (entCells q.1) (by omega) (by omega) rfl
    (fun k u hk => by rw [addr_add', Nat.zero_add, World.cell?_alloc_new]; simpa [entCells] using hk)
    (by intro u hu; simp only [entCells, List.mem_cons, List.not_mem_nil, or_false] at hu; rcases hu with rfl | rfl | rfl <;> rfl)
  have hm1 : Mod (ofV F q.1.ts).ownBlock.toList w w1 := (Mod.of_below hbn).trans hmod
  have hobn : ob ∉ (ofV F q.1.ts).ownBlock.toList := fun hx => by
    have := ((h.row q.1.ts).lt ob (by simpa using hx)).1
    have := h.obl
    omega
  obtain ⟨w2, hr2, hv2, hm2⟩ := (h.map.mod hm1 hobn).store (e := 23) Tryz.underlying88 (by have := h.cnt; unfold maxLen; omega) q.1.ts hts v'
  rw [show numKey.val q.1.ts = .int .u64 (q.1.ts : Nat) from rfl] at hr2
  have hfresh : ∀ x, v'.ownBlock = some x → (ofV F q.1.ts).ownBlock = some x ∨ w.heap.size ≤ x := fun x hx => (hblk x hx).imp id (fun h => by simp at h; omega)
  have hm12 : Mod (ob :: (ofV F q.1.ts).ownBlock.toList) w w2 := (hm1.mono (fun x hx => .inl (List.mem_cons_of_mem _ hx))).trans (hm2.mono (fun x hx => by simp at hx; left; simp [hx]))
  refine ⟨v', w1, w2, _, _, hrun, hm1, hr2, ⟨hv2, ?_, fun ts => ?_, fun t t' x hne hx => ?_, h.obl⟩, hm12⟩
  · rw [List.length_append]; have := h.cnt; split <;> simp <;> omega
  · by_cases hts2 : ts = q.1.ts
    · subst hts2
      have e1 : ofV (fun y => if y = q.1.ts then some v' else F y) q.1.ts = v' := by unfold ofV; simp
      have e2 : ofZ (z ++ [q]) q.1.ts = ofZ z q.1.ts ++ [q] := by unfold ofZ; rw [List.filter_append]; simp
      rw [e1, e2, List.length_append, List.map_append, ents_append]
      refine ownsRow_mod (S := [ob]) ?_ hm2 (fun s hs hx => ?_)
      · simpa [entsCells] using hown
      · rw [List.mem_singleton.1 hs] at hx
        have := (hown.lt ob hx).1
        have := h.obl
        omega
    · have e1 : ofV (fun y => if y = q.1.ts then some v' else F y) ts = ofV F ts := by unfold ofV; simp [hts2]
      have e2 : ofZ (z ++ [q]) ts = ofZ z ts := by
        unfold ofZ
        rw [List.filter_append]
        have : ¬ q.1.ts = ts := fun e => hts2 e.symm
        simp [this]
      rw [e1, e2]
      refine ownsRow_mod (h.row ts) hm12 (fun s hs hx => ?_)
      rcases List.mem_cons.1 hs with rfl | hs
      · have := ((h.row ts).lt s hx).1
        have := h.obl
        omega
      · exact h.apart _ _ s hts2 hx (by simpa using hs)
  · by_cases h1 : t = q.1.ts
    · subst h1
      rw [show ofV (fun y => if y = q.1.ts then some v' else F y) q.1.ts = v' by unfold ofV; simp] at hx
      rw [show ofV (fun y => if y = q.1.ts then some v' else F y) t' = ofV F t' by unfold ofV; simp [Ne.symm hne]]
      rcases hfresh x hx with h2 | h2
      · exact h.apart _ _ x hne h2
      · intro h3
        have := ((h.row t').lt x h3).2
        omega
    · rw [show ofV (fun y => if y = q.1.ts then some v' else F y) t = ofV F t by unfold ofV; simp [h1]] at hx
      by_cases h2 : t' = q.1.ts
      · subst h2
        rw [show ofV (fun y => if y = q.1.ts then some v' else F y) q.1.ts = v' by unfold ofV; simp]
        intro h3
        rcases hfresh x h3 with h4 | h4
        · exact h.apart _ _ x hne hx h4
        · have := ((h.row t).lt x hx).2
          omega
      · rw [show ofV (fun y => if y = q.1.ts then some v' else F y) t' = ofV F t' by unfold ofV; simp [h2]]
        exact h.apart _ _ x hne hx
end Go.Proofs.YtecknikehieioaaGreat

/-! ### Serial -/
namespace Go.Proofs.YtecknikehieioaaGreat
set_option linter.unusedVariables false
set_option linter.unusedSimpArgs false
open Go.RowKit Go.Maps

/-- A transaction's calls, one behind the other, on a map: the first that is not right; the map and what was written, if all are. -/
def runC (z : List MZ) : List KV → List Rec → List Nat → Option Nat × List KV × List Rec
  | M, W, [] => (none, M, W)
  | M, W, i :: t => match z[i]? with
    | none => (none, M, W)
    | some q => if rightB M q then runC z (rightM M q) (rightW W q) t else (some i, M, W)
def entsOf (ez : List EZ) (ts : Nat) : List Entry := (ofZ ez ts).map (·.2)
def serialL (z : List MZ) (ez : List EZ) : List KV → List Nat → Int
  | _, [] => -1
  | M, ts :: t => match runC z M [] (callsL ts z) with
    | (some i, _, _) => i
    | (none, M2, W2) => if endedB W2 (entsOf ez ts) then serialL z ez M2 t else firstAt (askC ts) 0 z
theorem u64s_nth (l : List Nat) (i n : Nat) (h : l[i]? = some n) : (u64s l)[i]? = some (.int .u64 (n : Int)) := by unfold u64s; rw [List.getElem?_map, h]; rfl
theorem i64s_nth (l : List Nat) (i n : Nat) (h : l[i]? = some n) : (i64s l)[i]? = some (.int .i64 (n : Int)) := by unfold i64s; rw [List.getElem?_map, h]; rfl
theorem rightM_asc {M : List KV} (h : Asc M) (q : MZ) : Asc (rightM M q) := by
  unfold rightM
  split
  · exact app_asc h _
  · split
    · exact app_asc h _
    · exact h
theorem rightM_length {M : List KV} (h : Asc M) (q : MZ) : (rightM M q).length ≤ M.length + 1 := by
  unfold rightM
  split
  · exact app_length h _
  · split
    · exact app_length h _
    · omega
theorem rightW_length (W : List Rec) (q : MZ) : (rightW W q).length ≤ W.length + 1 := by
  have h : ∀ r, (setR W r).length ≤ W.length + 1 := fun r => by rw [setR_length]; split <;> omega
  unfold rightW
  split
  · exact h _
  · split
    · exact h _
    · omega
/-- What the seen calls of a history are asked to be. -/
structure MadeOk (z : List MZ) : Prop where
  pn : ∀ q ∈ z, q.1.pn ≤ 9223372036854775807
  kind : ∀ q ∈ z, -9223372036854775808 ≤ q.1.kind ∧ q.1.kind ≤ 9223372036854775807
set_option maxRecDepth 100000 in
set_option maxHeartbeats 16000000 in
theorem serial_any (w : World) (a : Option Addr) (n c : Nat) (z : List EZ) (h : EntsAt w a n c z) (hn : n ≤ 900) (hops : ∀ q ∈ z, q.2.ops.length ≤ 1000)
    (am : Option Addr) (nm cm : Nat) (zm : List MZ) (hm : MadeAt w am nm cm zm) (hnm : nm ≤ 900) (hok : MadeOk zm) (hB : BoundU (commL (z.map (·.1.ts)) zm).length) (hC : ∀ ts, BoundC (indsL ts zm).length) :
    Calls Tryz.prog 26 #[.slice a n c, .slice am nm cm] w fun e w' => e = .returned (.int .i64 (serialL zm z [] (commL (z.map (·.1.ts)) zm))) ∧ Below w.heap.size w w' := by
  have hM0 := VMap.made_run (w := w) (k := 9) (e := 9) (t := 84) Tryz.underlying84
  have HH := Lib.hid h
  have HMM := Lib.hid hm
  have HO := Lib.hid hops
  have HK := Lib.hid hok
  clear h hm hops hok
  go_enter Tryz.func26, Tryz.ntmps26
  go_upto_region 2 with fail
  clear hM0
  have hbm := (Below.refl w.heap.size w).alloc (Nat.le_refl _) (.map #[] 0)
  have hb1 := hbm.alloc hbm.size (.cells #[.map (some w.heap.size), .map none] 87)
  have hst : StoreAt ((w.alloc (.map #[] 0)).alloc (.cells #[.map (some w.heap.size), .map none] 87)) w.heap.size [] := (StoreAt.made w).on ((Below.refl _ _).alloc (Nat.le_refl _) _)
  have hrb : Blk ((w.alloc (.map #[] 0)).alloc (.cells #[.map (some w.heap.size), .map none] 87)) (w.heap.size + 1) [.map (some w.heap.size), .map none] 87 := by
    have := Blk.new (w.alloc (.map #[] 0)) [.map (some w.heap.size), .map none] 87
    rw [World.size_alloc] at this
    exact this
  have hsz : ((w.alloc (.map #[] 0)).alloc (.cells #[.map (some w.heap.size), .map none] 87)).heap.size = w.heap.size + 2 := by simp
  generalize (w.alloc (.map #[] 0)).alloc (.cells #[.map (some w.heap.size), .map none] 87) = w1 at *
  have hM1 := VMap.made_run (w := w1) (k := 32) (e := 23) (t := 88) Tryz.underlying88
  have HOf0 := Lib.hid (OfAt.made w1)
  have HB1 := Lib.hid hb1
  have HSt := Lib.hid hst
  have HRb := Lib.hid hrb
  have HSz := Lib.hid hsz
  have HBo := Lib.hid ((Below.refl w1.heap.size w1).alloc (Nat.le_refl _) (.map #[] 0))
  clear hbm hb1 hst hrb hsz
  go_wp2_with fail
  clear hM1
  go_loopw [8, 19] (fun _ s19 wr => ∃ (i k : Nat) (F : Nat → Option Value), i ≤ n ∧ s19 = .int .i64 i ∧ OfAt wr w1.heap.size (w1.heap.size + 1) (z.take i) F k ∧ Below w1.heap.size w1 wr ∧ w1.heap.size + 1 ≤ wr.heap.size) (fun _ s19 _ => n - (intOf s19).toNat)
  case atStart => exact ⟨0, 0, _, by omega, rfl, HOf0.out, HBo.out, by simp⟩
  case round =>
    obtain ⟨i, k, F, hi, rfl, hOf, hb, hsz⟩ := hrel
    have HBw := Lib.hid (HB1.out.trans (hb.mono HB1.out.size))
    by_cases hlt : i < n
    · have hil : (i : Int) < (n : Int) := by omega
      obtain ⟨q, g, o, hq, hqz, rfl, hg, c0, c1, c2⟩ := (HH.out.on HBw.out).row hlt
      have hts : q.1.ts < 18446744073709551616 := by rw [(HH.out.each q hqz).ts]; exact (HH.out.each q hqz).ok.ts
      have hNext : z.take (i + 1) = z.take i ++ [q] := by rw [List.take_add_one, hq]; rfl
      have HNext := Lib.hid hNext
      have hbn := (Below.refl wr.heap.size wr).alloc (Nat.le_refl _) (.cells #[.int .u64 (q.1.ts : Nat), .int .u64 (q.1.first : Nat), .slice q.1.a q.1.n q.1.c] 43)
      have hBx : Blk (wr.alloc (.cells #[.int .u64 (q.1.ts : Nat), .int .u64 (q.1.first : Nat), .slice q.1.a q.1.n q.1.c] 43)) wr.heap.size (entCells q.1) 43 := Blk.new wr (entCells q.1) _
      have hOf3 := hOf.on hbn
      have hb3 := hb.trans (hbn.mono hb.size)
      clear hq hqz hNext
      go_upto_region 6 with fail
      generalize hw3 : wr.alloc (.cells #[.int .u64 (q.1.ts : Nat), .int .u64 (q.1.first : Nat), .slice q.1.a q.1.n q.1.c] 43) = w3 at *
      have HW3 := Lib.hid (show wr.heap.size < w3.heap.size by rw [← hw3]; simp)
      clear hw3 c0 c1 c2 hbn
      have hvb : ∀ x, x ∈ (ofV F q.1.ts).ownBlock.toList → w1.heap.size + 1 ≤ x ∧ x < wr.heap.size := fun x hx => (hOf.row q.1.ts).lt x (by simpa using hx)
      have HF := Lib.hid (show ∀ w', Mod (ofV F q.1.ts).ownBlock.toList w3 w' → (w'.cell? ⟨wr.heap.size, 0, none⟩ = some (.int .u64 (q.1.ts : Nat)) ∧ w'.cell? ⟨wr.heap.size, 1, none⟩ = some (.int .u64 (q.1.first : Nat)) ∧ w'.cell? ⟨wr.heap.size, 2, none⟩ = some (.slice q.1.a q.1.n q.1.c) ∧
          (Instr.lookup 88 (.map (some w1.heap.size)) (.int .u64 (q.1.ts : Nat)) false).run Tryz.prog w' = .ok (ofV F q.1.ts) w') from fun w' hm => by
        have hx := hBx.mod hm (fun hx => by have := (hvb _ hx).2; omega)
        refine ⟨by rw [hx.cell]; rfl, by rw [hx.cell]; rfl, by rw [hx.cell]; rfl, ?_⟩
        have := (hOf3.map.mod hm (fun hx => by have := (hvb _ hx).1; omega)).look_run (e := 23) (z := .slice none 0 0) Tryz.underlying88 (by kernel_rfl) q.1.ts hts
        rw [show numKey.val q.1.ts = .int .u64 (q.1.ts : Nat) from rfl] at this
        exact this)
      have hOf4 : OfAt { w3 with drawn := w3.drawn + 1 } w1.heap.size (w1.heap.size + 1) (z.take i) F k := hOf3.on (below_drew (Below.refl _ _))
      have HVB := Lib.hid hvb
      have HB3 := Lib.hid hb3
      clear hOf hOf3 hBx hvb hb hb3
      refine wp_region_float [0, 1, 2, 3, 4, 5, 6, 7] [8, 9, 10] [10] (fun w' => Mod (ofV F q.1.ts).ownBlock.toList w3 w') (by kernel_rfl) (by kernel_rfl) (by kernel_rfl) (by kernel_rfl) (fun c a d v w h => by cases d <;> exact h) ((Mod.refl _ _).drew) ?_
      have hS : Mod (ofV F q.1.ts).ownBlock.toList w3 { w3 with drawn := w3.drawn + 1 } := (Mod.refl _ _).drew
      generalize ({ w3 with drawn := w3.drawn + 1 } : World) = w4 at *
      simp only [pick, List.map_cons, List.map_nil, List.getD_cons_zero, List.getD_cons_succ]
      repeat (
        refine takes_val (v := ?_) ?_ (fun w' hS => ?_) ?_
        rotate_left
        · rfl
        · obtain ⟨k0, k1, k2, k3⟩ := HF.out w' hS
          go_simp
          with_reducible rfl
        simp only [Act.put, List.setIfInBounds_toArray, List.set_cons_zero, List.set_cons_succ])
      refine takes_nil ?_
      obtain ⟨v', w5, w6, F', k', hrun, hm5, hrun2, hOf6, hm6⟩ := hOf4.put (by have := hS.size; have := HW3.out; omega) (by rw [List.length_take]; omega) q hts 23 _ rfl w4.heap.size rfl
      have HM6 := Lib.hid (show Below w1.heap.size w1 w6 from HB3.out.trans ((hS.below (fun x hx => by have := (HVB.out x hx).1; omega) HB3.out.size).trans (hm6.below (fun x hx => by
        rcases List.mem_cons.1 hx with rfl | hx
        · exact Nat.le_refl _
        · have := (HVB.out x hx).1; omega) (by have := hS.size; have := HB3.out.size; omega))))
      have HOf6 := Lib.hid hOf6
      have HS6 := Lib.hid (show w1.heap.size + 1 ≤ w6.heap.size by have := hm6.size; have := hS.size; have := HW3.out; omega)
      clear hOf4 hOf6 hm6
      refine seqW_step (by rfl) (fun K hK => ?_)
      go_simp
      refine hK.out _ _ (.inr (hS.alloc _)) ?_
      clear hK K
      refine seqW_step (by rfl) (fun K hK => ?_)
      refine oper_append_run3 _ _ _ rfl _ _ _ _ ?hs ?hx hrun ?_
      case hs => go_simp
      case hx => go_simp
      simp only [Act.put, List.setIfInBounds_toArray, List.set_cons_zero, List.set_cons_succ]
      refine hK.out _ _ (.inr (hS.trans hm5)) ?_
      clear hK K
      refine seqW_step (by rfl) (fun K hK => ?_)
      go_simp
      refine hK.out _ _ (.inl (by rfl)) (seqW_nil ?_)
      clear hK K HF hS hrun hrun2 hm5
      go_wp2_with fail
      go_roundw
      case rel => exact ⟨i + 1, k', F', by omega, by go_num, by rw [HNext.out]; exact HOf6.out, HM6.out, HS6.out⟩
      case measure => simp [intOf]; omega
    · have hge : ¬ (i : Int) < (n : Int) := by omega
      have hin : i = z.length := by rw [HH.out.len]; omega
      rw [hin, List.take_of_length_le (Nat.le_refl _)] at hOf
      have HCm := Lib.hid (comm_any wr am nm cm zm (HMM.out.on HBw.out) (by omega) a n c z (HH.out.on HBw.out) (by omega) hB)
      have hLn : (commL (z.map (·.1.ts)) zm).length ≤ nm := by rw [← HMM.out.len]; exact commL_le _ _
      have hLt : ∀ x ∈ commL (z.map (·.1.ts)) zm, x < 18446744073709551616 := fun x hx => commL_lt _ _ (fun q hq => (HMM.out.each q hq).ts) x hx
      have HLt := Lib.hid hLt
      have hst1 := HSt.out.on hb
      have hrb1 := HRb.out.on hb
      have hs1 := HSz.out
      obtain ⟨wo, hwo⟩ : ∃ wo, wo = wr := ⟨_, rfl⟩
      subst hwo
      have HOfo := Lib.hid hOf
      have HSto := Lib.hid hst1
      have HRbo := Lib.hid hrb1
      have hso : w.heap.size + 2 + 1 ≤ wo.heap.size := by omega
      have hs1a : w1.heap.size ≤ w.heap.size + 2 ∧ w.heap.size + 2 ≤ w1.heap.size := by omega
      clear hLt hin hlt hi hb hOf hst1 hrb1 hs1 hsz
      generalize hLe : commL (z.map (·.1.ts)) zm = L at *
      have HLe := Lib.hid hLe
      clear hLe
      go_wp2_with fail
      refine HCm.out.mono ?_
      rintro e w2 ⟨aL, cL, rfl, hrowL, holdL, hb2⟩
      have HRowL := Lib.hid hrowL
      have HOldL := Lib.hid holdL
      have HBo2 := Lib.hid hb2
      have hs2 := hb2.size
      clear hrowL holdL hb2
      go_wp2_with fail
      go_loopw [4, 10, 12, 38] (fun _ _ _ s38 wr => ∃ (i : Nat) (M : List KV) (x : Value), i ≤ L.length ∧ s38 = .int .i64 i ∧ StoreAt wr w.heap.size M ∧ M.length ≤ i * 900 ∧ Blk wr (w.heap.size + 1) [.map (some w.heap.size), x] 87 ∧ OfAt wr w1.heap.size (w1.heap.size + 1) z F k ∧ serialL zm z [] L = serialL zm z M (L.drop i) ∧ Mod [w.heap.size + 1, w.heap.size] w2 wr) (fun _ _ _ s38 _ => L.length - (intOf s38).toNat)
      case atStart => exact ⟨0, [], _, by omega, rfl, HSto.out.on HBo2.out, by simp, HRbo.out.on HBo2.out, HOfo.out.on HBo2.out, rfl, Mod.refl _ _⟩
      case round =>
        obtain ⟨i, M, xw, hi, rfl, hst, hMl, hrb, hOf, hser, hm⟩ := hrel
        have hsm := hm.size
        have hbw : Below w.heap.size w wr := (HBw.out.trans (HBo2.out.mono HBw.out.size)).trans (hm.below (fun x hx => by simp at hx; omega) (by omega))
        by_cases hlt : i < L.length
        · have hil : (i : Int) < (L.length : Int) := by omega
          obtain ⟨ts, htsL⟩ : ∃ ts, L[i]? = some ts := ⟨_, List.getElem?_eq_getElem hlt⟩
          obtain ⟨gL, oL, rfl, hgL, hcL⟩ := HRowL.out.at_ (by omega)
          have d0 := hcL i _ (u64s_nth L i ts htsL)
          have hgL2 : gL ∉ [w.heap.size + 1, w.heap.size] := by have := HOldL.out gL oL rfl; simp; omega
          have k0 := (hm.cell hgL hgL2).trans d0
          have hts : ts < 18446744073709551616 := HLt.out ts (List.mem_of_getElem? htsL)
          have hdrop : L.drop i = ts :: L.drop (i + 1) := by
            obtain ⟨h1, rfl⟩ := List.getElem?_eq_some_iff.1 htsL
            exact List.drop_eq_getElem_cons h1
          have hi900 : i * 900 ≤ 900 * 900 := Nat.mul_le_mul_right _ (by omega)
          rw [hdrop] at hser
          clear d0 hcL htsL hdrop
          -- the box of ts, the new map, the store into the replay
          have hb3 := (Below.refl wr.heap.size wr).alloc (Nat.le_refl _) (.cells #[.int .u64 (ts : Nat)] 32)
          have hTs : Blk (wr.alloc (.cells #[.int .u64 (ts : Nat)] 32)) wr.heap.size [.int .u64 (ts : Nat)] 32 := Blk.new wr [.int .u64 (ts : Nat)] _
          have hMm := VMap.made_run (w := wr.alloc (.cells #[.int .u64 (ts : Nat)] 32)) (k := 9) (e := 49) (t := 85) Tryz.underlying85
          rw [World.size_alloc] at hMm
          have hb4 := hb3.trans (((Below.refl _ _).alloc (Nat.le_refl _) (.map #[] 0)).mono hb3.size)
          have hwr0 : WroteAt ((wr.alloc (.cells #[.int .u64 (ts : Nat)] 32)).alloc (.map #[] 0)) (wr.heap.size + 1) [] := by
            have := WroteAt.made (wr.alloc (.cells #[.int .u64 (ts : Nat)] 32))
            rw [World.size_alloc] at this
            exact this
          have hsz4 : ((wr.alloc (.cells #[.int .u64 (ts : Nat)] 32)).alloc (.map #[] 0)).heap.size = wr.heap.size + 2 := by simp
          have hst4 := hst.on hb4
          have hrb4 := hrb.on hb4
          have hOf4 := hOf.on hb4
          have HOfq := Lib.hid hOf
          have hTs4 := hTs.alloc (.map #[] 0)
          have hm4 := hm.thenBelow hb4
          have z0 := hrb4.free 1
          have z1 : ((wr.alloc (.cells #[.int .u64 (ts : Nat)] 32)).alloc (.map #[] 0)).cell? ⟨w.heap.size + 1, 1, none⟩ = some xw := by rw [hrb4.cell]; rfl
          have hset : Mod [w.heap.size + 1] ((wr.alloc (.cells #[.int .u64 (ts : Nat)] 32)).alloc (.map #[] 0)) (((wr.alloc (.cells #[.int .u64 (ts : Nat)] 32)).alloc (.map #[] 0)).setCell ⟨w.heap.size + 1, 1, none⟩ (.map (some (wr.heap.size + 1)))) := (Mod.refl _ _).setCell _ _ (.inl (by simp))
          have hrb5 : Blk (((wr.alloc (.cells #[.int .u64 (ts : Nat)] 32)).alloc (.map #[] 0)).setCell ⟨w.heap.size + 1, 1, none⟩ (.map (some (wr.heap.size + 1)))) (w.heap.size + 1) [.map (some w.heap.size), .map (some (wr.heap.size + 1))] 87 := hrb4.set 1 (.map (some (wr.heap.size + 1)))
          have hRep5 := Lib.hid (show RepAt (((wr.alloc (.cells #[.int .u64 (ts : Nat)] 32)).alloc (.map #[] 0)).setCell ⟨w.heap.size + 1, 1, none⟩ (.map (some (wr.heap.size + 1)))) (w.heap.size + 1) w.heap.size (wr.heap.size + 1) M [] from
            ⟨hrb5, hst4.mod hset (by simp), hwr0.mod hset (by simp; omega), by omega, by omega, by omega⟩)
          have hTs5 := hTs4.mod hset (by simp; omega)
          have hOf5 := hOf4.mod hset (fun x hx => by simp at hx; omega)
          have hm5 := hm4.trans (hset.mono (S' := [w.heap.size + 1, w.heap.size]) (fun x hx => by simp at hx; left; simp [hx]))
          clear hst4 hrb4 hOf4 hTs4 hm4 hrb5 hwr0 hst hrb hOf hm hTs hb3 hb4
          go_upto_region 12 with fail
          clear z0 z1 hMm k0
          have hsz5 : (((wr.alloc (.cells #[.int .u64 (ts : Nat)] 32)).alloc (.map #[] 0)).setCell ⟨w.heap.size + 1, 1, none⟩ (.map (some (wr.heap.size + 1)))).heap.size = wr.heap.size + 2 := by simp
          generalize ((wr.alloc (.cells #[.int .u64 (ts : Nat)] 32)).alloc (.map #[] 0)).setCell ⟨w.heap.size + 1, 1, none⟩ (.map (some (wr.heap.size + 1))) = w5 at *
          have HSz5 := Lib.hid hsz5
          have hbw5 : Below w.heap.size w w5 := (HBw.out.trans (HBo2.out.mono HBw.out.size)).trans (hm5.below (fun x hx => by simp at hx; omega) (by omega))
          have HCl := Lib.hid (show Calls Tryz.prog 57 #[.slice am nm cm, .int .u64 ts] w5 fun e w' => ∃ (a : Option Addr) (c : Nat), e = .returned (.slice a (callsL ts zm).length c) ∧ RowsAt w' a (callsL ts zm).length c 1 (i64s (callsL ts zm)) ∧ (∀ g o, a = some ⟨g, o, none⟩ → w5.heap.size ≤ g) ∧ Below w5.heap.size w5 w' from calls_any w5 am nm cm zm (HMM.out.on hbw5) (by omega) ts (hC ts))
          have HCn := Lib.hid (show (callsL ts zm).length ≤ nm from by
            have h1 := indsP_le ts zm zm.length
            have h2 : (callsL ts zm).length = (indsL ts zm).length := isort_length _ _
            have h3 := HMM.out.len
            rw [h2]
            exact Nat.le_trans h1 (by omega))
          have HCi := Lib.hid (show ∀ x ∈ callsL ts zm, x < nm from fun x hx => by
            have h1 := indsL_mem ts zm x ((isort_perm _ _).mem_iff.1 hx)
            have h3 := HMM.out.len
            omega)
          have HBw5 := Lib.hid hbw5
          have HTs5 := Lib.hid hTs5
          have HOf5 := Lib.hid hOf5
          have HM5 := Lib.hid hm5
          have HSer := Lib.hid (show serialL zm z [] L = match runC zm M [] (callsL ts zm) with
              | (some i, _, _) => (i : Int)
              | (none, M2, W2) => if endedB W2 (entsOf z ts) then serialL zm z M2 (L.drop (i + 1)) else firstAt (askC ts) 0 zm from hser)
          have d0 : w5.cell? ⟨wr.heap.size, 0, none⟩ = some (.int .u64 (ts : Nat)) := by rw [hTs5.cell]; rfl
          clear hser hbw5 hTs5 hOf5 hm5 hset hsz4 hsz5
          generalize callsL ts zm = cs at *
          go_wp2_with fail
          refine HCl.out.mono ?_
          rintro e w6 ⟨aC, cC, rfl, hrowC, holdC, hb6⟩
          have HRowC := Lib.hid hrowC
          have HOldC := Lib.hid holdC
          have HB6 := Lib.hid hb6
          have hs6 := hb6.size
          have hs5 := HSz5.out
          clear hrowC holdC hb6 d0 hbw
          have hcn := HCn.out
          obtain ⟨wq, hwq⟩ : ∃ wq, wq = wr := ⟨_, rfl⟩
          subst hwq
          have hs5a : wq.heap.size + 2 ≤ w5.heap.size ∧ w5.heap.size ≤ wq.heap.size + 2 := by omega
          clear hs5
          go_wp2_with fail
          go_loopw [4, 12, 50] (fun _ _ s50 wr => ∃ (j : Nat) (M2 : List KV) (W2 : List Rec), j ≤ cs.length ∧ s50 = .int .i64 j ∧ RepAt wr (w.heap.size + 1) w.heap.size (wq.heap.size + 1) M2 W2 ∧ M2.length ≤ i * 900 + j ∧ W2.length ≤ j ∧ runC zm M [] cs = runC zm M2 W2 (cs.drop j) ∧ Mod [w.heap.size, wq.heap.size + 1] w6 wr) (fun _ _ s50 _ => cs.length - (intOf s50).toNat)
          case atStart => exact ⟨0, M, [], by omega, rfl, hRep5.out.on HB6.out, by omega, by simp, rfl, Mod.refl _ _⟩
          case round =>
            obtain ⟨j, M2, W2, hj, rfl, hrep, hM2, hW2, hrun, hm⟩ := hrel
            have hsm2 := hm.size
            have hbw6 : Below w.heap.size w w6 := HBw5.out.trans (HB6.out.mono HBw5.out.size)
            have hbwr : Below w.heap.size w wr := hbw6.trans (hm.below (fun x hx => by simp at hx; omega) hbw6.size)
            by_cases hltj : j < cs.length
            · have hjl : (j : Int) < (cs.length : Int) := by omega
              obtain ⟨ix, hix⟩ : ∃ ix, cs[j]? = some ix := ⟨_, List.getElem?_eq_getElem hltj⟩
              obtain ⟨gC, oC, rfl, hgC, hcC⟩ := HRowC.out.at_ (by omega)
              have d1 := hcC j _ (i64s_nth cs j ix hix)
              have hgC2 : gC ∉ [w.heap.size, wq.heap.size + 1] := by have := HOldC.out gC oC rfl; simp; omega
              have k1 := (hm.cell hgC hgC2).trans d1
              have hixn : ix < nm := HCi.out ix (List.mem_of_getElem? hix)
              have hixl : (ix : Int) < (nm : Int) := by omega
              obtain ⟨q, gm, om, hq, hqz, rfl, hgm, hcm⟩ := (HMM.out.on hbwr).row hixn
              have HCM := Lib.hid hcm
              have hdrop : cs.drop j = ix :: cs.drop (j + 1) := by
                obtain ⟨h1, rfl⟩ := List.getElem?_eq_some_iff.1 hix
                exact List.drop_eq_getElem_cons h1
              have HRun := Lib.hid (show runC zm M [] cs = if rightB M2 q then runC zm (rightM M2 q) (rightW W2 q) (cs.drop (j + 1)) else (some ix, M2, W2) by
                rw [hrun, hdrop]
                show (match zm[ix]? with | none => (none, M2, W2) | some q => if rightB M2 q then runC zm (rightM M2 q) (rightW W2 q) (cs.drop (j + 1)) else (some ix, M2, W2)) = _
                rw [hq])
              have HRt := Lib.hid (right_any wr (w.heap.size + 1) w.heap.size (wq.heap.size + 1) q M2 W2 hrep (by omega) (by omega) ((HMM.out.each q hqz).on hbwr) (HK.out.pn q hqz) (HK.out.kind q hqz))
              have HAsc := Lib.hid hrep.store.asc
              have HM := Lib.hid hm
              have HBwr := Lib.hid hbwr
              clear d1 hcC hix hq hqz hcm hdrop hrun hrep hm hbwr hbw6
              go_wp2_with ((with_reducible refine wpList_loadM rfl _ rfl _ _ _ HCM.out ?_ ?_); rfl)
              refine HRt.out.mono ?_
              rintro e w7 ⟨rfl, hrep7, hm7⟩
              have HB7 := Lib.hid (HBwr.out.trans (hm7.below (fun x hx => by simp at hx; omega) HBwr.out.size))
              have HRep7 := Lib.hid hrep7
              have HM7 := Lib.hid (HM.out.trans hm7)
              clear hrep7 hm7
              cases hrB : rightB M2 q with
              | true =>
                have HR2 := Lib.hid (show runC zm M [] cs = runC zm (rightM M2 q) (rightW W2 q) (cs.drop (j + 1)) by rw [HRun.out, hrB]; rfl)
                have HL1 := Lib.hid (show (rightM M2 q).length ≤ i * 900 + (j + 1) by have := rightM_length HAsc.out q; omega)
                have HL2 := Lib.hid (show (rightW W2 q).length ≤ j + 1 by have := rightW_length W2 q; omega)
                clear hrB
                go_wp2_with fail
                go_roundw
                case rel => exact ⟨j + 1, _, _, by omega, by go_num, HRep7.out, HL1.out, HL2.out, HR2.out, HM7.out⟩
                case measure => simp [intOf]; omega
              | false =>
                have HR2 := Lib.hid (show serialL zm z [] L = (ix : Int) by rw [HSer.out, HRun.out, hrB]; rfl)
                clear hrB
                go_wp2_with fail
                go_ret
                exact ⟨by rw [HLe.out, HR2.out]; try rfl, HB7.out⟩
            · have hgej : ¬ (j : Int) < (cs.length : Int) := by omega
              have HR2 := Lib.hid (show serialL zm z [] L = if endedB W2 (entsOf z ts) then serialL zm z M2 (L.drop (i + 1)) else firstAt (askC ts) 0 zm by
                rw [HSer.out, hrun, List.drop_eq_nil_of_le (by omega)]; rfl)
              have hofm : Mod [w.heap.size, wq.heap.size + 1] w5 wr := (Mod.of_below HB6.out).trans hm
              have hofr : OfAt wr w1.heap.size (w1.heap.size + 1) z F k := by
                refine ⟨HOf5.out.map.mod hofm (by simp; omega), HOf5.out.cnt, fun t => ownsRow_mod (HOf5.out.row t) hofm (fun s hs e => ?_), HOf5.out.apart, HOf5.out.obl⟩
                have h1 := (HOf5.out.row t).lt s e
                have h2 := HM5.out
                simp at hs
                rcases hs with rfl | rfl
                · omega
                · have h3 := (HOfq.out.row t).lt _ e; omega
              have hlk := hofr.look ts hts
              have htb : wr.cell? ⟨wq.heap.size, 0, none⟩ = some (.int .u64 (ts : Nat)) := by rw [(HTs5.out.mod hofm (by simp; omega)).cell]; rfl
              obtain ⟨ao, co, hvo⟩ := own_slice (hofr.row ts)
              rw [hvo] at hlk
              have hro := hofr.row ts
              rw [hvo] at hro
              have hents : EntsAt wr ao (ofZ z ts).length co (ofZ z ts) := ⟨rfl, (own_rows hro).1, fun q hq => (HH.out.each q (List.mem_filter.1 hq).1).on hbwr⟩
              have HEn := Lib.hid (ended_any wr (w.heap.size + 1) w.heap.size (wq.heap.size + 1) M2 W2 hrep ao (ofZ z ts).length co (ofZ z ts) hents (by have := List.length_filter_le (fun q : EZ => decide (q.1.ts = ts)) z; have h2 := HH.out.len; show (z.filter _).length ≤ _; omega) (fun q hq => HO.out q (List.mem_filter.1 hq).1))
              have htl : wq.heap.size < wr.heap.size := by omega
              have HIx := Lib.hid (fun (w' : World) (hb' : Below wr.heap.size wr w') => indexM_any w' (askC ts) 61 rfl wq.heap.size ts ((hb'.cell (p := ⟨wq.heap.size, 0, none⟩) htl).trans htb) (by have := hb'.size; omega) rfl am nm cm zm (HMM.out.on (hbwr.trans (hb'.mono hbwr.size))) (by omega))
              have HEo := Lib.hid (show entsOf z ts = (ofZ z ts).map (·.2) from rfl)
              have HRep := Lib.hid hrep
              have HOfr := Lib.hid hofr
              have HMo := Lib.hid (show Mod [w.heap.size + 1, w.heap.size] w2 wr from HM5.out.on hofm (fun x hx => by
                simp at hx
                rcases hx with hx | hx
                · left; simp [hx]
                · right; omega))
              have HBwr := Lib.hid hbwr
              clear hrun hofm hofr hvo hro hents hrep hm hbwr hbw6
              go_wp2_with fail
              refine HEn.out.mono ?_
              rintro e w8 ⟨rfl, hb8⟩
              have HB8 := Lib.hid hb8
              have htb8 := (hb8.cell (p := ⟨wq.heap.size, 0, none⟩) htl).trans htb
              clear hb8 hlk htb
              cases hen : endedB W2 ((ofZ z ts).map (·.2)) with
              | true =>
                have HR3 := Lib.hid (show serialL zm z [] L = serialL zm z M2 (L.drop (i + 1)) by rw [HR2.out, HEo.out, hen]; rfl)
                have HL9 := Lib.hid (show M2.length ≤ (i + 1) * 900 by omega)
                clear hen htb8
                go_wp2_with fail
                go_roundw
                case rel => exact ⟨i + 1, M2, _, by omega, by go_num, HRep.out.store.on HB8.out, HL9.out, HRep.out.blk.on HB8.out, HOfr.out.on HB8.out, HR3.out, HMo.out.thenBelow HB8.out⟩
                case measure => simp [intOf]; omega
              | false =>
                have HR3 := Lib.hid (show serialL zm z [] L = firstAt (askC ts) 0 zm by rw [HR2.out, HEo.out, hen]; rfl)
                have HI8 := Lib.hid (HIx.out w8 HB8.out)
                clear hen htb8
                go_wp2_with fail
                refine HI8.out.mono ?_
                rintro e w9 ⟨rfl, hb9⟩
                have HB9 := Lib.hid ((HBwr.out.trans (HB8.out.mono HBwr.out.size)).trans (hb9.mono (HBwr.out.trans (HB8.out.mono HBwr.out.size)).size))
                clear hb9
                go_wp2_with fail
                go_ret
                exact ⟨by rw [HLe.out, HR3.out]; try rfl, HB9.out⟩
        · have hge2 : ¬ (i : Int) < (L.length : Int) := by omega
          have HR3 := Lib.hid (show serialL zm z [] L = -1 by rw [hser, List.drop_eq_nil_of_le (by omega)]; rfl)
          have HB9 := Lib.hid hbw
          clear hst hrb hOf hser hm hbw
          go_wp2_with fail
          go_ret
          exact ⟨by rw [HLe.out, HR3.out]; try rfl, HB9.out⟩
end Go.Proofs.YtecknikehieioaaGreat

/-! ### LookC -/
namespace Go.Proofs.YtecknikehieioaaGreat
set_option linter.unusedVariables false
set_option linter.unusedSimpArgs false
open Go.RowKit Go.Maps

set_option maxRecDepth 100000 in
set_option maxHeartbeats 4000000 in
theorem bounds51_any (w : World) (i u sx : Nat) (s : Sn) (T : List Nat) (h : SnAt w sx s) (hT : RowsAt w s.aa s.an s.ac 1 (u64s T)) (hl : T.length = s.an) (hi : T[i]? = some u) :
    Calls Tryz.prog 51 #[.int .i64 i, .int .u64 u, .pointer (some ⟨sx, 0, none⟩)] w fun e w' => e = .returned (.bool (badU T i u)) ∧ w = w' := by
  obtain ⟨_, _, _, _, _, _, _, _, _, _, c10, _⟩ := h.cells
  have hil := (List.getElem?_eq_some_iff.1 hi).1
  have hmax := hT.max
  obtain ⟨tcUp, dcUp, ready, sync, base, stable, last, eosl, low, ca, cn, cc, aa, an, ac, fly⟩ := s
  simp only at c10 hT hl hmax
  cases i with
  | zero =>
    have HR := Lib.hid (show badU T 0 u = false from rfl)
    clear hi hT hl h
    rw [HR.out]
    go_enter Tryz.func51, Tryz.ntmps51
    go_wp2_with fail
    go_ret
    exact ⟨by try rfl, rfl⟩
  | succ j =>
    obtain ⟨g, o, rfl, hg, hc⟩ := hT.at_ (by omega)
    obtain ⟨v, hv⟩ : ∃ v, T[j]? = some v := ⟨_, List.getElem?_eq_getElem (by omega)⟩
    have d0 := hc j _ (u64s_nth T j v hv)
    have hgt : ((j + 1 : Nat) : Int) > 0 := by omega
    have hjn : (j : Int) < (an : Int) := by omega
    have hwj : IntKind.i64.wrap (j : Int) = (j : Int) := IntWalk.i64_in _ (by omega)
    have hji : ((j + 1 : Nat) : Int) - 1 = (j : Int) := by omega
    have HE := Lib.hid (show badU T (j + 1) u = decide (u ≤ v) by
      unfold badU
      rw [List.getD_eq_getElem?_getD, show j + 1 - 1 = j from rfl, hv]
      simp)
    clear hi hT h hc hv
    obtain ⟨I, hI⟩ : ∃ I, j + 1 = I := ⟨_, rfl⟩
    rw [hI] at hgt hji HE
    rw [hI]
    obtain ⟨bad, hbad⟩ : ∃ b, badU T I u = b := ⟨_, rfl⟩
    rw [hbad] at HE ⊢
    clear hI hbad hl hil
    by_cases hle : u ≤ v
    · have hlei : (v : Int) ≥ (u : Int) := by omega
      have HR := Lib.hid (show bad = true by rw [HE.out, decide_eq_true hle])
      clear hle HE
      go_enter Tryz.func51, Tryz.ntmps51
      go_wp2_with fail
      go_ret
      exact ⟨by rw [HR.out]; try rfl, rfl⟩
    · have hlei : ¬ (v : Int) ≥ (u : Int) := by omega
      have HR := Lib.hid (show bad = false by rw [HE.out, decide_eq_false hle])
      clear hle HE
      go_enter Tryz.func51, Tryz.ntmps51
      go_wp2_with fail
      go_ret
      exact ⟨by rw [HR.out]; try rfl, rfl⟩
set_option maxRecDepth 100000 in
set_option maxHeartbeats 4000000 in
theorem firstU_any (w : World) (sx : Nat) (s : Sn) (T : List Nat) (h : SnAt w sx s) (hT : RowsAt w s.aa s.an s.ac 1 (u64s T)) (hl : T.length = s.an) :
    Calls Tryz.prog 50 #[.slice s.aa s.an s.ac, .func (.func 51) #[] #[.pointer (some ⟨sx, 0, none⟩)]] w fun e w' => e = .returned (.int .i64 (firstU T 0 T)) ∧ w = w' := by
  have HB := Lib.hid (fun i u hi => bounds51_any w i u sx s T h hT hl hi)
  have hmax := hT.max
  obtain ⟨tcUp, dcUp, ready, sync, base, stable, last, eosl, low, ca, cn, cc, aa, an, ac, fly⟩ := s
  simp only at hT hl hmax
  have HT := Lib.hid hT
  have HL := Lib.hid hl
  clear h hT hl
  go_enter Tryz.func50, Tryz.ntmps50
  go_wp2_with fail
  go_loopw [4, 5, 6, 9] (fun _ _ _ s9 wr => ∃ i : Nat, i ≤ an ∧ s9 = .int .i64 i ∧ firstU T 0 T = firstU T i (T.drop i) ∧ w = wr) (fun _ _ _ s9 _ => an - (intOf s9).toNat)
  case atStart => exact ⟨0, by omega, rfl, rfl, rfl⟩
  case round =>
    obtain ⟨i, hi, rfl, hfi, rfl⟩ := hrel
    by_cases hlt : i < an
    · have hil : (i : Int) < (an : Int) := by omega
      obtain ⟨g, o, rfl, hg, hc⟩ := HT.out.at_ (by omega)
      obtain ⟨u, hu⟩ : ∃ u, T[i]? = some u := ⟨_, List.getElem?_eq_getElem (by rw [HL.out]; omega)⟩
      have d0 := hc i _ (u64s_nth T i u hu)
      have HN := Lib.hid (show firstU T 0 T = if badU T i u then (i : Int) else firstU T (i + 1) (T.drop (i + 1)) by rw [hfi, firstU_drop T i u hu])
      have HS := Lib.hid (HB.out i u hu)
      clear hfi hu hc
      go_wp2_with fail
      refine HS.out.mono ?_
      rintro e w2 ⟨rfl, rfl⟩
      cases hak : badU T i u with
      | true =>
        have HR := Lib.hid (show firstU T 0 T = (i : Int) by rw [HN.out, hak]; rfl)
        clear hak
        go_wp2_with fail
        go_ret
        exact ⟨by rw [HR.out]; try rfl, rfl⟩
      | false =>
        have HR := Lib.hid (show firstU T 0 T = firstU T (i + 1) (T.drop (i + 1)) by rw [HN.out, hak]; rfl)
        clear hak
        go_wp2_with fail
        go_roundw
        case rel => exact ⟨i + 1, by omega, by go_num, HR.out, by first | rfl | trivial⟩
        case measure => simp [intOf]; omega
    · have hge : ¬ (i : Int) < (an : Int) := by omega
      have HR := Lib.hid (show firstU T 0 T = -1 by rw [hfi, List.drop_eq_nil_of_le (by rw [HL.out]; omega)]; rfl)
      clear hfi
      go_wp2_with fail
      go_ret
      exact ⟨by rw [HR.out]; try rfl, rfl⟩
set_option maxRecDepth 100000 in
set_option maxHeartbeats 4000000 in
theorem bounds5_any (w : World) (sx : Nat) (s : Sn) (T : List Nat) (h : SnAt w sx s) (hT : RowsAt w s.aa s.an s.ac 1 (u64s T)) (hl : T.length = s.an) :
    Calls Tryz.prog 49 #[.pointer (some ⟨sx, 0, none⟩)] w fun e w' => e = .returned (.bool (ascB T)) ∧ w = w' := by
  have HF := Lib.hid (firstU_any w sx s T h hT hl)
  obtain ⟨_, _, _, _, _, _, _, _, _, _, c10, _⟩ := h.cells
  have HA := Lib.hid (firstU_asc T)
  obtain ⟨f, hf⟩ : ∃ f, firstU T 0 T = f := ⟨_, rfl⟩
  obtain ⟨bv, hb⟩ : ∃ b, ascB T = b := ⟨_, rfl⟩
  rw [hf] at HF HA
  rw [hb] at HA ⊢
  clear h hT hl hf hb
  obtain ⟨tcUp, dcUp, ready, sync, base, stable, last, eosl, low, ca, cn, cc, aa, an, ac, fly⟩ := s
  simp only at HF c10
  by_cases h0 : f < 0
  · have HR := Lib.hid (show bv = true by rw [← HA.out, decide_eq_true h0])
    go_enter Tryz.func49, Tryz.ntmps49
    go_wp2_with fail
    refine HF.out.mono ?_
    rintro e w2 ⟨rfl, rfl⟩
    go_wp2_with fail
    go_ret
    exact ⟨by rw [HR.out]; first | rfl | simp [h0], rfl⟩
  · have HR := Lib.hid (show bv = false by rw [← HA.out, decide_eq_false h0])
    go_enter Tryz.func49, Tryz.ntmps49
    go_wp2_with fail
    refine HF.out.mono ?_
    rintro e w2 ⟨rfl, rfl⟩
    go_wp2_with fail
    go_ret
    exact ⟨by rw [HR.out]; first | rfl | (simp; omega), rfl⟩
set_option maxRecDepth 100000 in
set_option maxHeartbeats 4000000 in
theorem ask_any (w : World) (f : Nat) (p : Value) (b : Bool) (h : Calls Tryz.prog f #[p] w fun e w' => e = .returned (.bool b) ∧ w = w') (he : ∀ args w, (callFunc f args).run Tryz.prog w = .ok (.enter f args) w) :
    Calls Tryz.prog 73 #[.func (.func f) #[] #[p]] w fun e w' => e = .returned (.bool (!b)) ∧ Below w.heap.size w w' := by
  have H := Lib.hid h
  clear h
  go_enter Tryz.func73, Tryz.ntmps73
  go_wp2_with fail
  refine H.out.mono ?_
  rintro e w2 ⟨rfl, rfl⟩
  go_wp2_with fail
  go_ret
  exact ⟨by try rfl, Below.refl _ _⟩

set_option maxRecDepth 100000 in
set_option maxHeartbeats 4000000 in
theorem dn_any (w : World) (i : Int) (x : Md) :
    Calls Tryz.prog 55 #[.int .i64 i, .agg (mdCells x).toArray] w fun e w' => e = .returned (.bool (!x.dn)) ∧ Below w.heap.size w w' := by
  have hbn := (Below.refl w.heap.size w).alloc (Nat.le_refl _) (.cells (mdCells x).toArray 40)
  have HBN := Lib.hid hbn
  have HX := Lib.hid (md_box w x)
  clear hbn
  go_enter Tryz.func55, Tryz.ntmps55
  go_upto_region 1 with fail
  generalize w.alloc (.cells (mdCells x).toArray 40) = w1 at *
  obtain ⟨_, _, _, _, _, _, _, d7, _⟩ := HX.out
  simp only [Nat.zero_add] at d7
  clear HX
  go_wp2_with fail
  go_ret
  exact ⟨by try rfl, HBN.out⟩

set_option maxRecDepth 100000 in
set_option maxHeartbeats 4000000 in
theorem firstD_any (w : World) (f : Md → Bool) (am : Option Addr) (nm cm : Nat) (zm : List MZ) (hm : MadeAt w am nm cm zm) (hnm : nm ≤ 100000)
    (hf : ∀ w' (i : Nat) q, q ∈ zm → Below w.heap.size w w' → Calls Tryz.prog 55 #[.int .i64 i, .agg (mdCells q.1).toArray] w' fun e w'' => e = .returned (.bool (f q.1)) ∧ Below w'.heap.size w' w'') :
    Calls Tryz.prog 30 #[.slice am nm cm, .func (.func 55) #[] #[]] w fun e w' => e = .returned (.int .i64 (firstAt f 0 zm)) ∧ Below w.heap.size w w' := by
  have HMM := Lib.hid hm
  have HF := Lib.hid hf
  clear hm hf
  go_enter Tryz.func30, Tryz.ntmps30
  go_wp2_with fail
  go_loopw [4, 5, 6, 9] (fun _ _ _ s9 wr => ∃ i : Nat, i ≤ nm ∧ s9 = .int .i64 i ∧ firstAt f 0 zm = firstAt f i (zm.drop i) ∧ Below w.heap.size w wr) (fun _ _ _ s9 _ => nm - (intOf s9).toNat)
  case atStart => exact ⟨0, by omega, rfl, rfl, Below.refl _ _⟩
  case round =>
    obtain ⟨i, hi, rfl, hfi, hb⟩ := hrel
    by_cases hlt : i < nm
    · have hil : (i : Int) < (nm : Int) := by omega
      obtain ⟨q, g, o, hq, hqz, rfl, hg, hc⟩ := (HMM.out.on hb).row hlt
      have HN := Lib.hid (show firstAt f 0 zm = if f q.1 then (i : Int) else firstAt f (i + 1) (zm.drop (i + 1)) by rw [hfi, firstAt_drop _ _ _ _ hq])
      have HC := Lib.hid hc
      have hBn := (Below.refl wr.heap.size wr).alloc (Nat.le_refl _) (.cells (mdCells q.1).toArray 40)
      have HBox := Lib.hid (md_box wr q.1)
      have HB := Lib.hid (hb.trans (hBn.mono hb.size))
      have HS := Lib.hid (HF.out (wr.alloc (.cells (mdCells q.1).toArray 40)) i q hqz HB.out)
      clear hfi hq hqz hc hb hBn
      go_upto_region 4 with (first | ((with_reducible refine wpList_loadM rfl _ rfl _ _ _ HC.out ?_ ?_); rfl) | ((with_reducible refine wpList_storeM rfl _ _ rfl _ q.1 ?_ ?_ ?_); rfl; rfl))
      go_frame
      go_wp2_with ((with_reducible refine wpList_loadM rfl _ rfl _ _ _ HBox.out ?_ ?_); rfl)
      refine HS.out.mono ?_
      rintro e w2 ⟨rfl, hb2⟩
      have HB2 := Lib.hid (HB.out.trans (hb2.mono HB.out.size))
      clear hb2
      cases hak : f q.1 with
      | true =>
        have HR := Lib.hid (show firstAt f 0 zm = (i : Int) by rw [HN.out, hak]; rfl)
        clear hak
        go_wp2_with fail
        go_ret
        exact ⟨by rw [HR.out]; try rfl, HB2.out⟩
      | false =>
        have HR := Lib.hid (show firstAt f 0 zm = firstAt f (i + 1) (zm.drop (i + 1)) by rw [HN.out, hak]; rfl)
        clear hak
        go_wp2_with fail
        go_roundw
        case rel => exact ⟨i + 1, by omega, by go_num, HR.out, HB2.out⟩
        case measure => simp [intOf]; omega
    · have hge : ¬ (i : Int) < (nm : Int) := by omega
      have HR := Lib.hid (show firstAt f 0 zm = -1 by
        have hin : i = zm.length := by rw [HMM.out.len]; omega
        rw [hfi, hin, List.drop_eq_nil_of_le (Nat.le_refl _)]; rfl)
      have HB := Lib.hid hb
      clear hfi hb
      go_wp2_with fail
      go_ret
      exact ⟨by rw [HR.out]; try rfl, HB.out⟩
theorem firstAt_dn (Z : List MZ) (i : Nat) : decide (firstAt (fun m => !m.dn) i Z < 0) = Z.all fun q => q.1.dn := by
  induction Z generalizing i with
  | nil => rfl
  | cons q t ih =>
    unfold firstAt
    rw [List.all_cons]
    cases q.1.dn with
    | true => simpa using ih (i + 1)
    | false => simp
set_option maxRecDepth 100000 in
set_option maxHeartbeats 4000000 in
theorem quiet3_any (w : World) (mx : Nat) (am : Option Addr) (nm cm : Nat) (zm : List MZ) (hm : MadeAt w am nm cm zm) (hnm : nm ≤ 100000) (hb : w.cell? ⟨mx, 0, none⟩ = some (.slice am nm cm)) :
    Calls Tryz.prog 54 #[.pointer (some ⟨mx, 0, none⟩)] w fun e w' => e = .returned (.bool (zm.all fun q => q.1.dn)) ∧ Below w.heap.size w w' := by
  have HF := Lib.hid (firstD_any w (fun m => !m.dn) am nm cm zm hm hnm (fun w' i q hq hb => dn_any w' i q.1))
  have HA := Lib.hid (firstAt_dn zm 0)
  obtain ⟨f, hf⟩ : ∃ f, firstAt (fun m => !m.dn) 0 zm = f := ⟨_, rfl⟩
  obtain ⟨bv, hv⟩ : ∃ b, (zm.all fun q => q.1.dn) = b := ⟨_, rfl⟩
  rw [hf] at HF HA
  rw [hv] at HA ⊢
  clear hm hf hv
  by_cases h0 : f < 0
  · have HR := Lib.hid (show bv = true by rw [← HA.out, decide_eq_true h0])
    go_enter Tryz.func54, Tryz.ntmps54
    go_wp2_with fail
    refine HF.out.mono ?_
    rintro e w2 ⟨rfl, hb2⟩
    have HB2 := Lib.hid hb2
    clear hb2
    go_wp2_with fail
    go_ret
    exact ⟨by rw [HR.out]; first | rfl | simp [h0], HB2.out⟩
  · have HR := Lib.hid (show bv = false by rw [← HA.out, decide_eq_false h0])
    go_enter Tryz.func54, Tryz.ntmps54
    go_wp2_with fail
    refine HF.out.mono ?_
    rintro e w2 ⟨rfl, hb2⟩
    have HB2 := Lib.hid hb2
    clear hb2
    go_wp2_with fail
    go_ret
    exact ⟨by rw [HR.out]; first | rfl | (simp; omega), HB2.out⟩
theorem askB_any (w : World) (f : Nat) (p : Value) (b : Bool) (h : Calls Tryz.prog f #[p] w fun e w' => e = .returned (.bool b) ∧ Below w.heap.size w w') (he : ∀ args w, (callFunc f args).run Tryz.prog w = .ok (.enter f args) w) :
    Calls Tryz.prog 73 #[.func (.func f) #[] #[p]] w fun e w' => e = .returned (.bool (!b)) ∧ Below w.heap.size w w' := by
  have H := Lib.hid h
  clear h
  go_enter Tryz.func73, Tryz.ntmps73
  go_wp2_with fail
  refine H.out.mono ?_
  rintro e w2 ⟨rfl, hb⟩
  have HB := Lib.hid hb
  clear hb
  go_wp2_with fail
  go_ret
  exact ⟨by try rfl, HB.out⟩
def BoundsEnd (s : Sn) (T : List Nat) (w : World) (e : Ending) (w' : World) : Prop := e = .returned (.bool (boundsL s T)) ∧ Below w.heap.size w w'
def QuietEnd (s : Sn) (T : List Nat) (Z : List MZ) (w : World) (e : Ending) (w' : World) : Prop := e = .returned (.bool (quietL s T Z)) ∧ Below w.heap.size w w'
set_option maxRecDepth 100000 in
set_option maxHeartbeats 4000000 in
theorem bounds_any (w : World) (s : Sn) (T : List Nat) (hT : RowsAt w s.aa s.an s.ac 1 (u64s T)) (hl : T.length = s.an) :
    Calls Tryz.prog 19 #[.agg (snCells s).toArray] w (BoundsEnd s T w) := by
  obtain ⟨tcUp, dcUp, ready, sync, base, stable, last, eosl, low, ca, cn, cc, aa, an, ac, fly⟩ := s
  simp only at hT hl
  unfold BoundsEnd
  obtain ⟨bv, hbv⟩ : ∃ b, boundsL (⟨tcUp, dcUp, ready, sync, base, stable, last, eosl, low, ca, cn, cc, aa, an, ac, fly⟩ : Sn) T = b := ⟨_, rfl⟩
  rw [hbv]
  show Calls Tryz.prog 19 #[.agg #[.bool tcUp, .bool dcUp, .bool ready, .bool sync, .int .u64 (base : Nat), .int .u64 (stable : Nat), .int .u64 (last : Nat), .int .u64 (eosl : Nat), .int .u64 (low : Nat), .slice ca cn cc, .slice aa an ac, .int .i64 fly]] w _
  have hA : Blk (w.alloc (.cells #[.bool tcUp, .bool dcUp, .bool ready, .bool sync, .int .u64 (base : Nat), .int .u64 (stable : Nat), .int .u64 (last : Nat), .int .u64 (eosl : Nat), .int .u64 (low : Nat), .slice ca cn cc, .slice aa an ac, .int .i64 fly] 47)) w.heap.size (snCells (⟨tcUp, dcUp, ready, sync, base, stable, last, eosl, low, ca, cn, cc, aa, an, ac, fly⟩ : Sn)) 47 := Blk.new w (snCells (⟨tcUp, dcUp, ready, sync, base, stable, last, eosl, low, ca, cn, cc, aa, an, ac, fly⟩ : Sn)) 47
  have hbn := (Below.refl w.heap.size w).alloc (Nat.le_refl _) (.cells #[.bool tcUp, .bool dcUp, .bool ready, .bool sync, .int .u64 (base : Nat), .int .u64 (stable : Nat), .int .u64 (last : Nat), .int .u64 (eosl : Nat), .int .u64 (low : Nat), .slice ca cn cc, .slice aa an ac, .int .i64 fly] 47)
  go_enter Tryz.func19, Tryz.ntmps19
  go_upto_region 1 with fail
  generalize w.alloc (.cells #[.bool tcUp, .bool dcUp, .bool ready, .bool sync, .int .u64 (base : Nat), .int .u64 (stable : Nat), .int .u64 (last : Nat), .int .u64 (eosl : Nat), .int .u64 (low : Nat), .slice ca cn cc, .slice aa an ac, .int .i64 fly] 47) = w1 at *
  have hSn : SnAt w1 w.heap.size (⟨tcUp, dcUp, ready, sync, base, stable, last, eosl, low, ca, cn, cc, aa, an, ac, fly⟩ : Sn) := ⟨hA⟩
  obtain ⟨sx, hsx⟩ : ∃ x, w.heap.size = x := ⟨_, rfl⟩
  have HBN := Lib.hid hbn
  rw [hsx] at hSn
  have hAl := (Below.refl w1.heap.size w1).alloc (Nat.le_refl _) (.cells #[.func (.func 45) #[] #[.pointer (some ⟨sx, 0, none⟩)], .func (.func 46) #[] #[.pointer (some ⟨sx, 0, none⟩)], .func (.func 47) #[] #[.pointer (some ⟨sx, 0, none⟩)], .func (.func 48) #[] #[.pointer (some ⟨sx, 0, none⟩)], .func (.func 49) #[] #[.pointer (some ⟨sx, 0, none⟩)]] 28)
  have hF : Blk (w1.alloc (.cells #[.func (.func 45) #[] #[.pointer (some ⟨sx, 0, none⟩)], .func (.func 46) #[] #[.pointer (some ⟨sx, 0, none⟩)], .func (.func 47) #[] #[.pointer (some ⟨sx, 0, none⟩)], .func (.func 48) #[] #[.pointer (some ⟨sx, 0, none⟩)], .func (.func 49) #[] #[.pointer (some ⟨sx, 0, none⟩)]] 28)) w1.heap.size ([.func (.func 45) #[] #[.pointer (some ⟨sx, 0, none⟩)], .func (.func 46) #[] #[.pointer (some ⟨sx, 0, none⟩)], .func (.func 47) #[] #[.pointer (some ⟨sx, 0, none⟩)], .func (.func 48) #[] #[.pointer (some ⟨sx, 0, none⟩)], .func (.func 49) #[] #[.pointer (some ⟨sx, 0, none⟩)]] ++ []) 28 := Blk.new w1 _ _
  have hR := RowsAt.of_blk (k := 1) (n := 5) (c := 5) hF rfl (by omega) (by omega)
  have HEv := Lib.hid (every_any _ (some ⟨w1.heap.size, 0, none⟩) 5 5 _ [!tcUp || (decide (base ≤ stable) && decide (stable ≤ last)), !dcUp || decide (low ≤ eosl), !tcUp || (!dcUp || decide (eosl ≤ stable)), decide (an ≤ 6) && (decide (0 ≤ fly) && decide (fly ≤ 400)), ascB T] hR rfl (by omega) (fun k v b hv hb w' hw => by
    have hs := (hSn.on hAl).on hw
    have hTw := ((hT.on (hbn.mono (by omega))).on hAl).on hw
    match k, hv, hb with
    | 0, hv, hb => cases hv; cases hb; exact ask_any w' _ _ _ (bounds1_any w' sx _ hs) (enters_of Tryz.func45 (by kernel_rfl) rfl)
    | 1, hv, hb => cases hv; cases hb; exact ask_any w' _ _ _ (bounds2_any w' sx _ hs) (enters_of Tryz.func46 (by kernel_rfl) rfl)
    | 2, hv, hb => cases hv; cases hb; exact ask_any w' _ _ _ (bounds3_any w' sx _ hs) (enters_of Tryz.func47 (by kernel_rfl) rfl)
    | 3, hv, hb => cases hv; cases hb; exact ask_any w' _ _ _ (bounds4_any w' sx _ hs) (enters_of Tryz.func48 (by kernel_rfl) rfl)
    | 4, hv, hb => cases hv; cases hb; exact ask_any w' _ _ _ (bounds5_any w' sx _ T hs hTw hl) (enters_of Tryz.func49 (by kernel_rfl) rfl)
    | k + 5, hv, hb => simp at hv))
  have HAl := Lib.hid hAl
  have HV := Lib.hid (show ([!tcUp || (decide (base ≤ stable) && decide (stable ≤ last)), !dcUp || decide (low ≤ eosl), !tcUp || (!dcUp || decide (eosl ≤ stable)), decide (an ≤ 6) && (decide (0 ≤ fly) && decide (fly ≤ 400)), ascB T] : List Bool).all id = bv from by
    rw [← hbv]
    show _ = ((!tcUp || (decide (base ≤ stable) && decide (stable ≤ last))) && ((!dcUp || decide (low ≤ eosl)) && ((!tcUp || (!dcUp || decide (eosl ≤ stable))) && ((decide (T.length ≤ 6) && (decide (0 ≤ fly) && decide (fly ≤ 400))) && ascB T))))
    rw [hl]
    simp only [List.all_cons, List.all_nil, id, Bool.and_true])
  rw [HV.out] at HEv
  simp only [hsx]
  clear hA hbn hSn hAl hF hR hT hl HV hsx hbv
  go_wp2_with fail
  refine HEv.out.mono ?_
  rintro e w2 ⟨rfl, hb⟩
  have HE := Lib.hid (HBN.out.trans ((HAl.out.trans (hb.mono HAl.out.size)).mono HBN.out.size))
  clear hb HEv
  go_wp2_with fail
  go_ret
  exact ⟨by try rfl, HE.out⟩

set_option maxRecDepth 100000 in
set_option maxHeartbeats 4000000 in
theorem quiet_any (w : World) (s : Sn) (T : List Nat) (hl : T.length = s.an) (am : Option Addr) (nm cm : Nat) (zm : List MZ) (hm : MadeAt w am nm cm zm) (hnm : nm ≤ 100000) :
    Calls Tryz.prog 21 #[.agg (snCells s).toArray, .slice am nm cm] w (QuietEnd s T zm w) := by
  obtain ⟨tcUp, dcUp, ready, sync, base, stable, last, eosl, low, ca, cn, cc, aa, an, ac, fly⟩ := s
  simp only at hl
  unfold QuietEnd
  obtain ⟨bv, hbv⟩ : ∃ b, quietL (⟨tcUp, dcUp, ready, sync, base, stable, last, eosl, low, ca, cn, cc, aa, an, ac, fly⟩ : Sn) T zm = b := ⟨_, rfl⟩
  rw [hbv]
  show Calls Tryz.prog 21 #[.agg #[.bool tcUp, .bool dcUp, .bool ready, .bool sync, .int .u64 (base : Nat), .int .u64 (stable : Nat), .int .u64 (last : Nat), .int .u64 (eosl : Nat), .int .u64 (low : Nat), .slice ca cn cc, .slice aa an ac, .int .i64 fly], .slice am nm cm] w _
  have hA : Blk (w.alloc (.cells #[.bool tcUp, .bool dcUp, .bool ready, .bool sync, .int .u64 (base : Nat), .int .u64 (stable : Nat), .int .u64 (last : Nat), .int .u64 (eosl : Nat), .int .u64 (low : Nat), .slice ca cn cc, .slice aa an ac, .int .i64 fly] 47)) w.heap.size (snCells (⟨tcUp, dcUp, ready, sync, base, stable, last, eosl, low, ca, cn, cc, aa, an, ac, fly⟩ : Sn)) 47 := Blk.new w (snCells (⟨tcUp, dcUp, ready, sync, base, stable, last, eosl, low, ca, cn, cc, aa, an, ac, fly⟩ : Sn)) 47
  have hbn := (Below.refl w.heap.size w).alloc (Nat.le_refl _) (.cells #[.bool tcUp, .bool dcUp, .bool ready, .bool sync, .int .u64 (base : Nat), .int .u64 (stable : Nat), .int .u64 (last : Nat), .int .u64 (eosl : Nat), .int .u64 (low : Nat), .slice ca cn cc, .slice aa an ac, .int .i64 fly] 47)
  have hb2 := hbn.alloc hbn.size (.cells #[.slice am nm cm] 22)
  have q1 := (Below.refl (w.alloc (.cells #[.bool tcUp, .bool dcUp, .bool ready, .bool sync, .int .u64 (base : Nat), .int .u64 (stable : Nat), .int .u64 (last : Nat), .int .u64 (eosl : Nat), .int .u64 (low : Nat), .slice ca cn cc, .slice aa an ac, .int .i64 fly] 47)).heap.size (w.alloc (.cells #[.bool tcUp, .bool dcUp, .bool ready, .bool sync, .int .u64 (base : Nat), .int .u64 (stable : Nat), .int .u64 (last : Nat), .int .u64 (eosl : Nat), .int .u64 (low : Nat), .slice ca cn cc, .slice aa an ac, .int .i64 fly] 47))).alloc (Nat.le_refl _) (.cells #[.slice am nm cm] 22)
  have hA := hA.on q1
  have hM : Blk ((w.alloc (.cells #[.bool tcUp, .bool dcUp, .bool ready, .bool sync, .int .u64 (base : Nat), .int .u64 (stable : Nat), .int .u64 (last : Nat), .int .u64 (eosl : Nat), .int .u64 (low : Nat), .slice ca cn cc, .slice aa an ac, .int .i64 fly] 47)).alloc (.cells #[.slice am nm cm] 22)) _ [.slice am nm cm] 22 := Blk.new _ [.slice am nm cm] 22
  simp only [World.size_alloc] at hM
  go_enter Tryz.func21, Tryz.ntmps21
  go_upto_region 1 with fail
  generalize (w.alloc (.cells #[.bool tcUp, .bool dcUp, .bool ready, .bool sync, .int .u64 (base : Nat), .int .u64 (stable : Nat), .int .u64 (last : Nat), .int .u64 (eosl : Nat), .int .u64 (low : Nat), .slice ca cn cc, .slice aa an ac, .int .i64 fly] 47)).alloc (.cells #[.slice am nm cm] 22) = w1 at *
  have hSn : SnAt w1 w.heap.size (⟨tcUp, dcUp, ready, sync, base, stable, last, eosl, low, ca, cn, cc, aa, an, ac, fly⟩ : Sn) := ⟨hA⟩
  obtain ⟨sx, hsx⟩ : ∃ x, w.heap.size = x := ⟨_, rfl⟩
  have HBN := Lib.hid hb2
  rw [hsx] at hSn hM
  have hAl := (Below.refl w1.heap.size w1).alloc (Nat.le_refl _) (.cells #[.func (.func 52) #[] #[.pointer (some ⟨sx, 0, none⟩)], .func (.func 53) #[] #[.pointer (some ⟨sx, 0, none⟩)], .func (.func 54) #[] #[.pointer (some ⟨sx + 1, 0, none⟩)]] 28)
  have hF : Blk (w1.alloc (.cells #[.func (.func 52) #[] #[.pointer (some ⟨sx, 0, none⟩)], .func (.func 53) #[] #[.pointer (some ⟨sx, 0, none⟩)], .func (.func 54) #[] #[.pointer (some ⟨sx + 1, 0, none⟩)]] 28)) w1.heap.size ([.func (.func 52) #[] #[.pointer (some ⟨sx, 0, none⟩)], .func (.func 53) #[] #[.pointer (some ⟨sx, 0, none⟩)], .func (.func 54) #[] #[.pointer (some ⟨sx + 1, 0, none⟩)]] ++ []) 28 := Blk.new w1 _ _
  have hR := RowsAt.of_blk (k := 1) (n := 3) (c := 3) hF rfl (by omega) (by omega)
  have HEv := Lib.hid (every_any _ (some ⟨w1.heap.size, 0, none⟩) 3 3 _ [tcUp && (dcUp && (ready && decide (an = 0))), decide (low = eosl) && (decide (eosl = stable) && decide (stable = last)), zm.all fun q => q.1.dn] hR rfl (by omega) (fun k v b hv hb w' hw => by
    have hs := (hSn.on hAl).on hw
    have hMw := ((hM.on hAl).on hw)
    have hmw := ((hm.on hb2).on hAl).on hw
    match k, hv, hb with
    | 0, hv, hb => cases hv; cases hb; exact ask_any w' _ _ _ (quiet1_any w' sx _ hs) (enters_of Tryz.func52 (by kernel_rfl) rfl)
    | 1, hv, hb => cases hv; cases hb; exact ask_any w' _ _ _ (quiet2_any w' sx _ hs) (enters_of Tryz.func53 (by kernel_rfl) rfl)
    | 2, hv, hb => cases hv; cases hb; exact askB_any w' _ _ _ (quiet3_any w' (sx + 1) am nm cm zm hmw hnm (by rw [hMw.cell]; rfl)) (enters_of Tryz.func54 (by kernel_rfl) rfl)
    | k + 3, hv, hb => simp at hv))
  have HAl := Lib.hid hAl
  have HV := Lib.hid (show ([tcUp && (dcUp && (ready && decide (an = 0))), decide (low = eosl) && (decide (eosl = stable) && decide (stable = last)), zm.all fun q => q.1.dn] : List Bool).all id = bv from by
    rw [← hbv]
    show _ = ((tcUp && (dcUp && (ready && decide (T.length = 0)))) && ((decide (low = eosl) && (decide (eosl = stable) && decide (stable = last))) && zm.all fun q => q.1.dn))
    rw [hl]
    simp only [List.all_cons, List.all_nil, id, Bool.and_true])
  rw [HV.out] at HEv
  simp only [hsx]
  clear hA hbn hb2 q1 hM hSn hAl hF hR hm hl HV hsx hbv
  go_wp2_with fail
  refine HEv.out.mono ?_
  rintro e w2 ⟨rfl, hb⟩
  have HE := Lib.hid (HBN.out.trans ((HAl.out.trans (hb.mono HAl.out.size)).mono HBN.out.size))
  clear hb HEv
  go_wp2_with fail
  go_ret
  exact ⟨by try rfl, HE.out⟩

end Go.Proofs.YtecknikehieioaaGreat
