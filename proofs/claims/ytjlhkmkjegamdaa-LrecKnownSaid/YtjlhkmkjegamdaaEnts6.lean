/-
  The lists of entries that LrecKnown makes, and how they stand in memory. No condition.
-/
import Derived.Test.YtjlhkmkjegamdaaWalk6C
namespace Go.Proofs.Ytjlhkmkjegamdaa
set_option linter.unusedVariables false
set_option linter.unusedSimpArgs false
open Go.RowKit

/-- New blocks, one behind the other. -/
def many (w : World) (os : List (List Value × TypeId)) : World := os.foldl (fun w o => w.alloc (.cells o.1.toArray o.2)) w
theorem many_size (w : World) (os : List (List Value × TypeId)) : (many w os).heap.size = w.heap.size + os.length := by
  induction os generalizing w with
  | nil => rfl
  | cons o os ih =>
    show (many (w.alloc _) os).heap.size = _
    rw [ih]; simp; omega
theorem many_below (w : World) (os : List (List Value × TypeId)) : Below w.heap.size w (many w os) := by
  induction os generalizing w with
  | nil => exact Below.refl _ _
  | cons o os ih => exact ((Below.refl _ _).alloc (Nat.le_refl _) _).on (ih _)
theorem many_blk (w : World) (os : List (List Value × TypeId)) (i : Nat) (C : List Value) (T : TypeId) (h : os[i]? = some (C, T)) : Blk (many w os) (w.heap.size + i) C T := by
  induction os generalizing w i with
  | nil => simp at h
  | cons o os ih =>
    cases i with
    | zero =>
      simp only [List.getElem?_cons_zero, Option.some.injEq] at h
      subst h
      exact (Blk.new w C T).on (many_below _ os)
    | succ i =>
      have := ih (w.alloc (.cells o.1.toArray o.2)) i (by simpa using h)
      have e : (w.alloc (.cells o.1.toArray o.2)).heap.size + i = w.heap.size + (i + 1) := by simp; omega
      rw [e] at this
      exact this

/-- Records stand at the head of a block. -/
theorem recs_blk {w : World} {g : Nat} (rs : List Rec) (n : Nat) (h : Blk w g (recsCells rs) 24) (hn : rs.length = n) (hm : n ≤ 1000) : RecsAt w (some ⟨g, 0, none⟩) n n rs := by
  refine ⟨hn, Nat.le_refl _, by omega, fun _ => ⟨g, 0, rfl, h.lt, fun i hi => ?_⟩⟩
  have e0 := recs_get rs i hi 0 (by omega)
  have e1 := recs_get rs i hi 1 (by omega)
  have e2 := recs_get rs i hi 2 (by omega)
  have e3 := recs_get rs i hi 3 (by omega)
  refine ⟨?_, ?_, ?_, ?_⟩
  · rw [Nat.zero_add, h.cell]; exact e0
  · rw [Nat.zero_add, h.cell]; exact e1
  · rw [Nat.zero_add, h.cell]; exact e2
  · rw [Nat.zero_add, h.cell]; exact e3
theorem recs_nil (w : World) : RecsAt w none 0 0 [] := ⟨rfl, Nat.le_refl _, by omega, fun h0 => absurd h0 (Nat.lt_irrefl 0)⟩

/-- An entry stands at a place of a block. -/
def EntAt (w : World) (g o : Nat) (e : Entry) : Prop := ∃ a n c, w.cell? ⟨g, o, none⟩ = some (.int .u64 e.ts) ∧ w.cell? ⟨g, o + 1, none⟩ = some (.int .u64 e.first) ∧ w.cell? ⟨g, o + 2, none⟩ = some (.slice a n c) ∧ RecsAt w a n c e.ops
/-- Entries stand in a block. -/
def EntsAt (w : World) (g : Nat) (es : List Entry) : Prop := g < w.heap.size ∧ ∀ i e, es[i]? = some e → EntAt w g (i * 3) e
theorem EntsAt.on {w w' : World} {g : Nat} {es : List Entry} (h : EntsAt w g es) (hb : Below w.heap.size w w') : EntsAt w' g es := by
  refine ⟨Nat.lt_of_lt_of_le h.1 hb.size, fun i e hi => ?_⟩
  obtain ⟨a, n, c, h0, h1, h2, h3⟩ := h.2 i e hi
  exact ⟨a, n, c, (hb.cell (p := ⟨g, i * 3, none⟩) h.1).trans h0, (hb.cell (p := ⟨g, i * 3 + 1, none⟩) h.1).trans h1, (hb.cell (p := ⟨g, i * 3 + 2, none⟩) h.1).trans h2, h3.on hb⟩
theorem entAt_mk {w : World} {g : Nat} {C : List Value} {T : TypeId} (h : Blk w g C T) (o : Nat) (e : Entry) (a : Option Addr) (n c : Nat) (h0 : C[o]? = some (.int .u64 e.ts)) (h1 : C[o + 1]? = some (.int .u64 e.first)) (h2 : C[o + 2]? = some (.slice a n c)) (hr : RecsAt w a n c e.ops) : EntAt w g o e :=
  ⟨a, n, c, by rw [h.cell]; exact h0, by rw [h.cell]; exact h1, by rw [h.cell]; exact h2, hr⟩

def goods : List Entry := [oneE,
  ⟨1099511627776, 1, [⟨[49, 50, 51, 52, 53, 54, 55, 56, 57, 48, 49, 50, 51, 52, 53, 54], 1, false, [49, 50, 51, 52, 53, 54, 55, 56, 57, 48, 49, 50, 51, 52, 53, 54, 55, 56, 57, 48, 49, 50, 51, 52]⟩, ⟨[98], 2, true, []⟩, ⟨[99], 3, false, []⟩, ⟨[100], 4, false, []⟩, ⟨[101], 5, false, []⟩, ⟨[102], 6, false, []⟩]⟩,
  ⟨1, 1099511627775, [⟨[97], 1099511627775, false, []⟩, ⟨[98], 1099511627776, false, []⟩]⟩]
def bads : List Entry := [⟨0, 0, []⟩,
  ⟨1, 1, []⟩,
  ⟨1, 1, [⟨[97], 2, false, []⟩]⟩,
  ⟨0, 1, [⟨[97], 1, false, []⟩]⟩,
  ⟨1, 0, [⟨[97], 0, false, []⟩]⟩,
  ⟨1099511627777, 1, [⟨[97], 1, false, []⟩]⟩,
  ⟨1, 1, [⟨[97], 1, false, []⟩, ⟨[97], 2, false, []⟩]⟩,
  ⟨1, 1099511627776, [⟨[97], 1099511627776, false, []⟩, ⟨[98], 1099511627777, false, []⟩]⟩,
  ⟨1, 1, [⟨[], 1, false, []⟩]⟩,
  ⟨1, 1, [⟨[97], 1, true, [120]⟩]⟩,
  ⟨1, 18446744073709551615, [⟨[97], 18446744073709551615, false, []⟩, ⟨[98], 0, false, []⟩]⟩]
def longs : List Entry := [⟨0, 0, [⟨[], 0, false, []⟩, ⟨[], 0, false, []⟩, ⟨[], 0, false, []⟩, ⟨[], 0, false, []⟩, ⟨[], 0, false, []⟩, ⟨[], 0, false, []⟩, ⟨[], 0, false, []⟩]⟩,
  ⟨1, 1, [⟨[49, 50, 51, 52, 53, 54, 55, 56, 57, 48, 49, 50, 51, 52, 53, 54, 55], 1, false, []⟩]⟩,
  ⟨0, 0, [⟨[], 0, false, [49, 50, 51, 52, 53, 54, 55, 56, 57, 48, 49, 50, 51, 52, 53, 54, 55, 56, 57, 48, 49, 50, 51, 52, 53]⟩]⟩]
def goodsMem (N : Nat) (a : Option Addr) (n c : Nat) : List (List Value × TypeId) := [(recsCells [⟨[49, 50, 51, 52, 53, 54, 55, 56, 57, 48, 49, 50, 51, 52, 53, 54], 1, false, [49, 50, 51, 52, 53, 54, 55, 56, 57, 48, 49, 50, 51, 52, 53, 54, 55, 56, 57, 48, 49, 50, 51, 52]⟩, ⟨[98], 2, true, []⟩, ⟨[99], 3, false, []⟩, ⟨[100], 4, false, []⟩, ⟨[101], 5, false, []⟩, ⟨[102], 6, false, []⟩], 24),
  (recsCells [⟨[97], 1099511627775, false, []⟩, ⟨[98], 1099511627776, false, []⟩], 24),
  ([.int .u64 1, .int .u64 2, .slice a n c,
    .int .u64 1099511627776, .int .u64 1, .slice (some ⟨N + 0, 0, none⟩) 6 6,
    .int .u64 1, .int .u64 1099511627775, .slice (some ⟨N + 1, 0, none⟩) 2 2], 27)]
def badsMem (N : Nat) : List (List Value × TypeId) := [(recsCells [⟨[97], 2, false, []⟩], 24),
  (recsCells [⟨[97], 1, false, []⟩], 24),
  (recsCells [⟨[97], 0, false, []⟩], 24),
  (recsCells [⟨[97], 1, false, []⟩], 24),
  (recsCells [⟨[97], 1, false, []⟩, ⟨[97], 2, false, []⟩], 24),
  (recsCells [⟨[97], 1099511627776, false, []⟩, ⟨[98], 1099511627777, false, []⟩], 24),
  (recsCells [⟨[], 1, false, []⟩], 24),
  (recsCells [⟨[97], 1, true, [120]⟩], 24),
  (recsCells [⟨[97], 18446744073709551615, false, []⟩, ⟨[98], 0, false, []⟩], 24),
  ([.int .u64 0, .int .u64 0, .slice none 0 0,
    .int .u64 1, .int .u64 1, .slice none 0 0,
    .int .u64 1, .int .u64 1, .slice (some ⟨N + 0, 0, none⟩) 1 1,
    .int .u64 0, .int .u64 1, .slice (some ⟨N + 1, 0, none⟩) 1 1,
    .int .u64 1, .int .u64 0, .slice (some ⟨N + 2, 0, none⟩) 1 1,
    .int .u64 1099511627777, .int .u64 1, .slice (some ⟨N + 3, 0, none⟩) 1 1,
    .int .u64 1, .int .u64 1, .slice (some ⟨N + 4, 0, none⟩) 2 2,
    .int .u64 1, .int .u64 1099511627776, .slice (some ⟨N + 5, 0, none⟩) 2 2,
    .int .u64 1, .int .u64 1, .slice (some ⟨N + 6, 0, none⟩) 1 1,
    .int .u64 1, .int .u64 1, .slice (some ⟨N + 7, 0, none⟩) 1 1,
    .int .u64 1, .int .u64 18446744073709551615, .slice (some ⟨N + 8, 0, none⟩) 2 2], 27)]
def longsMem (N : Nat) : List (List Value × TypeId) := [(recsCells [⟨[], 0, false, []⟩, ⟨[], 0, false, []⟩, ⟨[], 0, false, []⟩, ⟨[], 0, false, []⟩, ⟨[], 0, false, []⟩, ⟨[], 0, false, []⟩, ⟨[], 0, false, []⟩], 24),
  (recsCells [⟨[49, 50, 51, 52, 53, 54, 55, 56, 57, 48, 49, 50, 51, 52, 53, 54, 55], 1, false, []⟩], 24),
  (recsCells [⟨[], 0, false, [49, 50, 51, 52, 53, 54, 55, 56, 57, 48, 49, 50, 51, 52, 53, 54, 55, 56, 57, 48, 49, 50, 51, 52, 53]⟩], 24),
  ([.int .u64 0, .int .u64 0, .slice (some ⟨N + 0, 0, none⟩) 7 7,
    .int .u64 1, .int .u64 1, .slice (some ⟨N + 1, 0, none⟩) 1 1,
    .int .u64 0, .int .u64 0, .slice (some ⟨N + 2, 0, none⟩) 1 1], 27)]
set_option maxRecDepth 10000 in
theorem goods_at (w : World) (a : Option Addr) (n c : Nat) (h : RecsAt w a n c oneE.ops) : EntsAt (many w (goodsMem w.heap.size a n c)) (w.heap.size + 2) goods := by
  have hb := many_below w (goodsMem w.heap.size a n c)
  have hE := many_blk w (goodsMem w.heap.size a n c) 2 _ _ rfl
  refine ⟨hE.lt, fun i e hi => ?_⟩
  match i, hi with
  | 0, hi => cases hi; exact entAt_mk hE 0 _ a n c rfl rfl rfl (h.on hb)
  | 1, hi => cases hi; exact entAt_mk hE 3 _ (some ⟨w.heap.size + 0, 0, none⟩) 6 6 rfl rfl rfl (recs_blk _ _ (many_blk w _ 0 _ _ rfl) rfl (by decide))
  | 2, hi => cases hi; exact entAt_mk hE 6 _ (some ⟨w.heap.size + 1, 0, none⟩) 2 2 rfl rfl rfl (recs_blk _ _ (many_blk w _ 1 _ _ rfl) rfl (by decide))
  | i + 3, hi => simp [goods] at hi
set_option maxRecDepth 10000 in
theorem bads_at (w : World) : EntsAt (many w (badsMem w.heap.size)) (w.heap.size + 9) bads := by
  have hb := many_below w (badsMem w.heap.size)
  have hE := many_blk w (badsMem w.heap.size) 9 _ _ rfl
  refine ⟨hE.lt, fun i e hi => ?_⟩
  match i, hi with
  | 0, hi => cases hi; exact entAt_mk hE 0 _ none 0 0 rfl rfl rfl (recs_nil _)
  | 1, hi => cases hi; exact entAt_mk hE 3 _ none 0 0 rfl rfl rfl (recs_nil _)
  | 2, hi => cases hi; exact entAt_mk hE 6 _ (some ⟨w.heap.size + 0, 0, none⟩) 1 1 rfl rfl rfl (recs_blk _ _ (many_blk w _ 0 _ _ rfl) rfl (by decide))
  | 3, hi => cases hi; exact entAt_mk hE 9 _ (some ⟨w.heap.size + 1, 0, none⟩) 1 1 rfl rfl rfl (recs_blk _ _ (many_blk w _ 1 _ _ rfl) rfl (by decide))
  | 4, hi => cases hi; exact entAt_mk hE 12 _ (some ⟨w.heap.size + 2, 0, none⟩) 1 1 rfl rfl rfl (recs_blk _ _ (many_blk w _ 2 _ _ rfl) rfl (by decide))
  | 5, hi => cases hi; exact entAt_mk hE 15 _ (some ⟨w.heap.size + 3, 0, none⟩) 1 1 rfl rfl rfl (recs_blk _ _ (many_blk w _ 3 _ _ rfl) rfl (by decide))
  | 6, hi => cases hi; exact entAt_mk hE 18 _ (some ⟨w.heap.size + 4, 0, none⟩) 2 2 rfl rfl rfl (recs_blk _ _ (many_blk w _ 4 _ _ rfl) rfl (by decide))
  | 7, hi => cases hi; exact entAt_mk hE 21 _ (some ⟨w.heap.size + 5, 0, none⟩) 2 2 rfl rfl rfl (recs_blk _ _ (many_blk w _ 5 _ _ rfl) rfl (by decide))
  | 8, hi => cases hi; exact entAt_mk hE 24 _ (some ⟨w.heap.size + 6, 0, none⟩) 1 1 rfl rfl rfl (recs_blk _ _ (many_blk w _ 6 _ _ rfl) rfl (by decide))
  | 9, hi => cases hi; exact entAt_mk hE 27 _ (some ⟨w.heap.size + 7, 0, none⟩) 1 1 rfl rfl rfl (recs_blk _ _ (many_blk w _ 7 _ _ rfl) rfl (by decide))
  | 10, hi => cases hi; exact entAt_mk hE 30 _ (some ⟨w.heap.size + 8, 0, none⟩) 2 2 rfl rfl rfl (recs_blk _ _ (many_blk w _ 8 _ _ rfl) rfl (by decide))
  | i + 11, hi => simp [bads] at hi
set_option maxRecDepth 10000 in
theorem longs_at (w : World) : EntsAt (many w (longsMem w.heap.size)) (w.heap.size + 3) longs := by
  have hb := many_below w (longsMem w.heap.size)
  have hE := many_blk w (longsMem w.heap.size) 3 _ _ rfl
  refine ⟨hE.lt, fun i e hi => ?_⟩
  match i, hi with
  | 0, hi => cases hi; exact entAt_mk hE 0 _ (some ⟨w.heap.size + 0, 0, none⟩) 7 7 rfl rfl rfl (recs_blk _ _ (many_blk w _ 0 _ _ rfl) rfl (by decide))
  | 1, hi => cases hi; exact entAt_mk hE 3 _ (some ⟨w.heap.size + 1, 0, none⟩) 1 1 rfl rfl rfl (recs_blk _ _ (many_blk w _ 1 _ _ rfl) rfl (by decide))
  | 2, hi => cases hi; exact entAt_mk hE 6 _ (some ⟨w.heap.size + 2, 0, none⟩) 1 1 rfl rfl rfl (recs_blk _ _ (many_blk w _ 2 _ _ rfl) rfl (by decide))
  | i + 3, hi => simp [longs] at hi

theorem goods_fine : ∀ e ∈ goods, checkRes e.ts e.first e.ops = 0 := by
  have h : (goods.all fun e => checkRes e.ts e.first e.ops == 0) = true := by kernel_rfl
  intro e he
  have := List.all_eq_true.1 h e he
  simpa using this
theorem bads_fine : ∀ e ∈ bads, checkRes e.ts e.first e.ops = 2 := by
  have h : (bads.all fun e => checkRes e.ts e.first e.ops == 2) = true := by kernel_rfl
  intro e he
  have := List.all_eq_true.1 h e he
  simpa using this
theorem longs_fine : ∀ e ∈ longs, checkRes e.ts e.first e.ops = 3 := by
  have h : (longs.all fun e => checkRes e.ts e.first e.ops == 3) = true := by kernel_rfl
  intro e he
  have := List.all_eq_true.1 h e he
  simpa using this
def okB (e : Entry) : Bool := decide (e.ts < U64) && decide (e.first < U64) && e.ops.all fun r => decide (r.key.length ≤ 100) && decide (r.val.length ≤ 100) && decide (r.lsn < U64)
theorem okB_ok {e : Entry} (h : okB e = true) : e.ts < U64 ∧ e.first < U64 ∧ ∀ r ∈ e.ops, r.ok := by
  unfold okB at h
  simp only [Bool.and_eq_true, decide_eq_true_eq, List.all_eq_true] at h
  refine ⟨h.1.1, h.1.2, fun r hr => ?_⟩
  have := h.2 r hr
  exact ⟨by omega, by omega, this.2⟩
theorem goods_ok : ∀ e ∈ goods, okB e = true := List.all_eq_true.1 (by kernel_rfl)
theorem bads_ok : ∀ e ∈ bads, okB e = true := List.all_eq_true.1 (by kernel_rfl)
theorem longs_ok : ∀ e ∈ longs, okB e = true := List.all_eq_true.1 (by kernel_rfl)

def raws : List (List UInt8) := [[], [0], [4, 0, 0, 0, 0], [12] ++ sealI [1, 2, 1, 1, 97, 2, 1, 98], [13] ++ sealI [1, 2, 1, 1, 97, 0, 1, 98, 0], [11] ++ sealI [1, 2, 2, 1, 97, 0, 0], [140, 0] ++ sealI [1, 2, 1, 1, 97, 0, 1, 98]]
theorem raws_fine : ∀ l ∈ raws, readAll l = none := by
  have h : (raws.all fun l => (readAll l).isNone) = true := by kernel_rfl
  intro l hl
  have := List.all_eq_true.1 h l hl
  simpa using this
theorem raws_len : ∀ l ∈ raws, l.length ≤ 100 := by
  have h : (raws.all fun l => decide (l.length ≤ 100)) = true := by kernel_rfl
  intro l hl
  have := List.all_eq_true.1 h l hl
  simpa using this
end Go.Proofs.Ytjlhkmkjegamdaa
