/-
  The lists of messages that DmsgKnown makes, and how they stand in memory. No condition.
-/
import Derived.Test.YtnijijcbdajodaaHelp14
namespace Go.Proofs.Ytnijijcbdajodaa
set_option linter.unusedVariables false
set_option linter.unusedSimpArgs false
open Go.RowKit

/-- New blocks, one behind the other. -/
def many (w : World) (os : List (List Value × TypeId)) : World := os.foldl (fun w o => w.alloc (.cells o.1.toArray o.2)) w
theorem many_size (w : World) (os : List (List Value × TypeId)) : (many w os).heap.size = w.heap.size + os.length := by
  induction os generalizing w with
  | nil => rfl
  | cons o os ih =>
    show (many (w.alloc _) os).heap.size = _
    rw [ih]; simp; omega
theorem many_below (w : World) (os : List (List Value × TypeId)) : Below w.heap.size w (many w os) := by
  induction os generalizing w with
  | nil => exact Below.refl _ _
  | cons o os ih => exact ((Below.refl _ _).alloc (Nat.le_refl _) _).on (ih _)
theorem many_blk (w : World) (os : List (List Value × TypeId)) (i : Nat) (C : List Value) (T : TypeId) (h : os[i]? = some (C, T)) : Blk (many w os) (w.heap.size + i) C T := by
  induction os generalizing w i with
  | nil => simp at h
  | cons o os ih =>
    cases i with
    | zero =>
      simp only [List.getElem?_cons_zero, Option.some.injEq] at h
      subst h
      exact (Blk.new w C T).on (many_below _ os)
    | succ i =>
      have := ih (w.alloc (.cells o.1.toArray o.2)) i (by simpa using h)
      have e : (w.alloc (.cells o.1.toArray o.2)).heap.size + i = w.heap.size + (i + 1) := by simp; omega
      rw [e] at this
      exact this

/-- Records stand at the head of a block. -/
theorem recs_blk {w : World} {g : Nat} (rs : List Rec) (n : Nat) (h : Blk w g (recsCells rs) 43) (hn : rs.length = n) (hm : n ≤ 1000) : RecsAt w (some ⟨g, 0, none⟩) n n rs := by
  refine ⟨hn, Nat.le_refl _, by omega, fun _ => ⟨g, 0, rfl, h.lt, fun i hi => ?_⟩⟩
  have e0 := recs_get rs i hi 0 (by omega)
  have e1 := recs_get rs i hi 1 (by omega)
  have e2 := recs_get rs i hi 2 (by omega)
  have e3 := recs_get rs i hi 3 (by omega)
  refine ⟨?_, ?_, ?_, ?_⟩
  · rw [Nat.zero_add, h.cell]; exact e0
  · rw [Nat.zero_add, h.cell]; exact e1
  · rw [Nat.zero_add, h.cell]; exact e2
  · rw [Nat.zero_add, h.cell]; exact e3
theorem recs_nil (w : World) : RecsAt w none 0 0 [] := ⟨rfl, Nat.le_refl _, by omega, fun h0 => absurd h0 (Nat.lt_irrefl 0)⟩

/-- A message stands at a place of a block. -/
def MsgIn (w : World) (g o : Nat) (m : Msg) (a : Option Addr) (n c : Nat) : Prop := ∀ j v, (msgCells m a n c)[j]? = some v → w.cell? ⟨g, o + j, none⟩ = some v
theorem MsgIn.cells {w : World} {g o : Nat} {m : Msg} {a : Option Addr} {n c : Nat} (h : MsgIn w g o m a n c) :
    w.cell? ⟨g, o, none⟩ = some (.int .i64 m.kind) ∧ w.cell? ⟨g, o + 1, none⟩ = some (.int .u64 m.te) ∧ w.cell? ⟨g, o + 2, none⟩ = some (.int .u64 m.di) ∧ w.cell? ⟨g, o + 3, none⟩ = some (.int .u64 m.id) ∧ w.cell? ⟨g, o + 4, none⟩ = some (.int .u64 m.lsn) ∧ w.cell? ⟨g, o + 5, none⟩ = some (.int .u64 m.low) ∧
    w.cell? ⟨g, o + 6, none⟩ = some (.string ⟨m.key.toArray⟩) ∧ w.cell? ⟨g, o + 7, none⟩ = some (.string ⟨m.hi.toArray⟩) ∧ w.cell? ⟨g, o + 8, none⟩ = some (.bool m.del) ∧ w.cell? ⟨g, o + 9, none⟩ = some (.bool m.found) ∧ w.cell? ⟨g, o + 10, none⟩ = some (.string ⟨m.val.toArray⟩) ∧ w.cell? ⟨g, o + 11, none⟩ = some (.slice a n c) ∧ w.cell? ⟨g, o + 12, none⟩ = some (.int .i64 m.err) :=
  ⟨h 0 _ rfl, h 1 _ rfl, h 2 _ rfl, h 3 _ rfl, h 4 _ rfl, h 5 _ rfl, h 6 _ rfl, h 7 _ rfl, h 8 _ rfl, h 9 _ rfl, h 10 _ rfl, h 11 _ rfl, h 12 _ rfl⟩
theorem MsgIn.on {w w' : World} {g o : Nat} {m : Msg} {a : Option Addr} {n c : Nat} (h : MsgIn w g o m a n c) (hb : Below w.heap.size w w') (hg : g < w.heap.size) : MsgIn w' g o m a n c :=
  fun j v hj => (hb.cell (p := ⟨g, o + j, none⟩) hg).trans (h j v hj)
/-- Messages stand in a block. -/
def MsgsAt (w : World) (g : Nat) (ms : List Msg) : Prop := g < w.heap.size ∧ ∀ i m, ms[i]? = some m → ∃ a n c, MsgIn w g (i * 13) m a n c ∧ RecsAt w a n c m.recs
theorem MsgsAt.on {w w' : World} {g : Nat} {ms : List Msg} (h : MsgsAt w g ms) (hb : Below w.heap.size w w') : MsgsAt w' g ms := by
  refine ⟨Nat.lt_of_lt_of_le h.1 hb.size, fun i m hi => ?_⟩
  obtain ⟨a, n, c, h1, h2⟩ := h.2 i m hi
  exact ⟨a, n, c, h1.on hb h.1, h2.on hb⟩
theorem msgIn_mk {w : World} {g : Nat} {C : List Value} {T : TypeId} (h : Blk w g C T) (o : Nat) (m : Msg) (a : Option Addr) (n c : Nat) (hc : (C.drop o).take 13 = msgCells m a n c) : MsgIn w g o m a n c := by
  intro j v hj
  rw [h.cell]
  rw [← hc] at hj
  by_cases h13 : j < 13
  · rw [List.getElem?_take_of_lt h13, List.getElem?_drop] at hj
    exact hj
  · rw [List.getElem?_take, if_neg h13] at hj
    cases hj

def rowsM : List Msg := [⟨1, 1, 0, 0, 0, 0, [], [], false, false, [], [], 0⟩,
  ⟨2, 1, 2, 0, 3, 0, [107], [], false, false, [118], [], 0⟩,
  ⟨2, 1, 2, 0, 1099511627776, 0, [49, 50, 51, 52, 53, 54, 55, 56, 57, 48, 49, 50, 51, 52, 53, 54], [], true, false, [], [], 0⟩,
  ⟨3, 1, 2, 0, 0, 0, [], [], false, false, [], [], 0⟩,
  ⟨3, 1, 2, 0, 9, 9, [], [], false, false, [], [], 0⟩,
  ⟨4, 1, 2, 7, 0, 0, [107], [], false, false, [], [], 0⟩,
  ⟨5, 1, 2, 7, 0, 0, [], [], false, false, [], [], 0⟩,
  ⟨5, 1, 2, 7, 0, 0, [122], [97], false, false, [], [], 0⟩,
  ⟨6, 1, 2, 7, 0, 0, [], [], false, false, [], [], 0⟩,
  ⟨7, 1, 2, 0, 0, 0, [], [], false, false, [], [], 0⟩,
  ⟨8, 1, 2, 0, 5, 0, [], [], false, false, [], [], 0⟩,
  ⟨9, 1, 2, 7, 0, 0, [], [], false, false, [], [], 0⟩,
  ⟨9, 1, 2, 7, 0, 0, [], [], false, true, [49, 50, 51, 52, 53, 54, 55, 56, 57, 48, 49, 50, 51, 52, 53, 54, 55, 56, 57, 48, 49, 50, 51, 52], [], 0⟩,
  ⟨10, 1, 2, 7, 0, 0, [], [], false, false, [], [], 0⟩,
  ⟨10, 1, 2, 7, 0, 0, [], [], false, false, [], [⟨[97], 4, false, [120]⟩, ⟨[98], 2, false, []⟩], 0⟩,
  ⟨11, 1, 2, 7, 8, 0, [], [], false, false, [], [], 7⟩]
def rowsMMem (N : Nat) : List (List Value × TypeId) := [(recsCells [⟨[97], 4, false, [120]⟩, ⟨[98], 2, false, []⟩], 43),
  ([.int .i64 1, .int .u64 1, .int .u64 0, .int .u64 0, .int .u64 0, .int .u64 0, .string ⟨#[]⟩, .string ⟨#[]⟩, .bool false, .bool false, .string ⟨#[]⟩, .slice none 0 0, .int .i64 0,
    .int .i64 2, .int .u64 1, .int .u64 2, .int .u64 0, .int .u64 3, .int .u64 0, .string ⟨#[107]⟩, .string ⟨#[]⟩, .bool false, .bool false, .string ⟨#[118]⟩, .slice none 0 0, .int .i64 0,
    .int .i64 2, .int .u64 1, .int .u64 2, .int .u64 0, .int .u64 1099511627776, .int .u64 0, .string ⟨#[49, 50, 51, 52, 53, 54, 55, 56, 57, 48, 49, 50, 51, 52, 53, 54]⟩, .string ⟨#[]⟩, .bool true, .bool false, .string ⟨#[]⟩, .slice none 0 0, .int .i64 0,
    .int .i64 3, .int .u64 1, .int .u64 2, .int .u64 0, .int .u64 0, .int .u64 0, .string ⟨#[]⟩, .string ⟨#[]⟩, .bool false, .bool false, .string ⟨#[]⟩, .slice none 0 0, .int .i64 0,
    .int .i64 3, .int .u64 1, .int .u64 2, .int .u64 0, .int .u64 9, .int .u64 9, .string ⟨#[]⟩, .string ⟨#[]⟩, .bool false, .bool false, .string ⟨#[]⟩, .slice none 0 0, .int .i64 0,
    .int .i64 4, .int .u64 1, .int .u64 2, .int .u64 7, .int .u64 0, .int .u64 0, .string ⟨#[107]⟩, .string ⟨#[]⟩, .bool false, .bool false, .string ⟨#[]⟩, .slice none 0 0, .int .i64 0,
    .int .i64 5, .int .u64 1, .int .u64 2, .int .u64 7, .int .u64 0, .int .u64 0, .string ⟨#[]⟩, .string ⟨#[]⟩, .bool false, .bool false, .string ⟨#[]⟩, .slice none 0 0, .int .i64 0,
    .int .i64 5, .int .u64 1, .int .u64 2, .int .u64 7, .int .u64 0, .int .u64 0, .string ⟨#[122]⟩, .string ⟨#[97]⟩, .bool false, .bool false, .string ⟨#[]⟩, .slice none 0 0, .int .i64 0,
    .int .i64 6, .int .u64 1, .int .u64 2, .int .u64 7, .int .u64 0, .int .u64 0, .string ⟨#[]⟩, .string ⟨#[]⟩, .bool false, .bool false, .string ⟨#[]⟩, .slice none 0 0, .int .i64 0,
    .int .i64 7, .int .u64 1, .int .u64 2, .int .u64 0, .int .u64 0, .int .u64 0, .string ⟨#[]⟩, .string ⟨#[]⟩, .bool false, .bool false, .string ⟨#[]⟩, .slice none 0 0, .int .i64 0,
    .int .i64 8, .int .u64 1, .int .u64 2, .int .u64 0, .int .u64 5, .int .u64 0, .string ⟨#[]⟩, .string ⟨#[]⟩, .bool false, .bool false, .string ⟨#[]⟩, .slice none 0 0, .int .i64 0,
    .int .i64 9, .int .u64 1, .int .u64 2, .int .u64 7, .int .u64 0, .int .u64 0, .string ⟨#[]⟩, .string ⟨#[]⟩, .bool false, .bool false, .string ⟨#[]⟩, .slice none 0 0, .int .i64 0,
    .int .i64 9, .int .u64 1, .int .u64 2, .int .u64 7, .int .u64 0, .int .u64 0, .string ⟨#[]⟩, .string ⟨#[]⟩, .bool false, .bool true, .string ⟨#[49, 50, 51, 52, 53, 54, 55, 56, 57, 48, 49, 50, 51, 52, 53, 54, 55, 56, 57, 48, 49, 50, 51, 52]⟩, .slice none 0 0, .int .i64 0,
    .int .i64 10, .int .u64 1, .int .u64 2, .int .u64 7, .int .u64 0, .int .u64 0, .string ⟨#[]⟩, .string ⟨#[]⟩, .bool false, .bool false, .string ⟨#[]⟩, .slice none 0 0, .int .i64 0,
    .int .i64 10, .int .u64 1, .int .u64 2, .int .u64 7, .int .u64 0, .int .u64 0, .string ⟨#[]⟩, .string ⟨#[]⟩, .bool false, .bool false, .string ⟨#[]⟩, .slice (some ⟨N + 0, 0, none⟩) 2 2, .int .i64 0,
    .int .i64 11, .int .u64 1, .int .u64 2, .int .u64 7, .int .u64 8, .int .u64 0, .string ⟨#[]⟩, .string ⟨#[]⟩, .bool false, .bool false, .string ⟨#[]⟩, .slice none 0 0, .int .i64 7], 26)]
set_option maxRecDepth 10000 in
set_option maxHeartbeats 1000000 in
theorem rowsM_at (w : World) : MsgsAt (many w (rowsMMem w.heap.size)) (w.heap.size + 1) rowsM := by
  have hE := many_blk w (rowsMMem w.heap.size) 1 _ _ rfl
  refine ⟨hE.lt, fun i m hi => ?_⟩
  match i, hi with
  | 0, hi => cases hi; exact ⟨none, 0, 0, msgIn_mk hE _ _ _ _ _ rfl, recs_nil _⟩
  | 1, hi => cases hi; exact ⟨none, 0, 0, msgIn_mk hE _ _ _ _ _ rfl, recs_nil _⟩
  | 2, hi => cases hi; exact ⟨none, 0, 0, msgIn_mk hE _ _ _ _ _ rfl, recs_nil _⟩
  | 3, hi => cases hi; exact ⟨none, 0, 0, msgIn_mk hE _ _ _ _ _ rfl, recs_nil _⟩
  | 4, hi => cases hi; exact ⟨none, 0, 0, msgIn_mk hE _ _ _ _ _ rfl, recs_nil _⟩
  | 5, hi => cases hi; exact ⟨none, 0, 0, msgIn_mk hE _ _ _ _ _ rfl, recs_nil _⟩
  | 6, hi => cases hi; exact ⟨none, 0, 0, msgIn_mk hE _ _ _ _ _ rfl, recs_nil _⟩
  | 7, hi => cases hi; exact ⟨none, 0, 0, msgIn_mk hE _ _ _ _ _ rfl, recs_nil _⟩
  | 8, hi => cases hi; exact ⟨none, 0, 0, msgIn_mk hE _ _ _ _ _ rfl, recs_nil _⟩
  | 9, hi => cases hi; exact ⟨none, 0, 0, msgIn_mk hE _ _ _ _ _ rfl, recs_nil _⟩
  | 10, hi => cases hi; exact ⟨none, 0, 0, msgIn_mk hE _ _ _ _ _ rfl, recs_nil _⟩
  | 11, hi => cases hi; exact ⟨none, 0, 0, msgIn_mk hE _ _ _ _ _ rfl, recs_nil _⟩
  | 12, hi => cases hi; exact ⟨none, 0, 0, msgIn_mk hE _ _ _ _ _ rfl, recs_nil _⟩
  | 13, hi => cases hi; exact ⟨none, 0, 0, msgIn_mk hE _ _ _ _ _ rfl, recs_nil _⟩
  | 14, hi => cases hi; exact ⟨some ⟨w.heap.size + 0, 0, none⟩, 2, 2, msgIn_mk hE _ _ _ _ _ rfl, recs_blk _ _ (many_blk w _ 0 _ _ rfl) rfl (by decide)⟩
  | 15, hi => cases hi; exact ⟨none, 0, 0, msgIn_mk hE _ _ _ _ _ rfl, recs_nil _⟩
  | i + 16, hi => simp [rowsM] at hi

def badsM : List Msg := [⟨1, 1, 0, 0, 1, 0, [], [], false, false, [], [], 0⟩,
  ⟨1, 1, 0, 0, 0, 0, [], [], false, false, [], [], 7⟩,
  ⟨2, 1, 1, 0, 1, 0, [97], [], true, false, [120], [], 0⟩,
  ⟨2, 1, 1, 0, 0, 0, [97], [], false, false, [], [], 0⟩,
  ⟨2, 1, 1, 1, 1, 0, [97], [], false, false, [], [], 0⟩,
  ⟨3, 1, 1, 0, 1099511627777, 0, [], [], false, false, [], [], 0⟩,
  ⟨4, 1, 1, 1, 0, 0, [], [], false, false, [], [], 0⟩,
  ⟨4, 1, 1, 0, 0, 0, [97], [], false, false, [], [], 0⟩,
  ⟨5, 1, 1, 0, 0, 0, [], [], false, false, [], [], 0⟩,
  ⟨6, 1, 1, 1, 1099511627777, 0, [], [], false, false, [], [], 0⟩,
  ⟨7, 1, 1, 0, 0, 0, [], [], false, true, [], [], 0⟩,
  ⟨8, 1, 1, 0, 0, 0, [], [], false, false, [], [], 0⟩,
  ⟨9, 1, 1, 1, 0, 0, [], [], false, false, [120], [], 0⟩,
  ⟨10, 1, 1, 1, 0, 0, [], [], false, false, [], [⟨[97], 1, true, []⟩], 0⟩,
  ⟨10, 1, 1, 1, 0, 0, [], [], false, false, [], [⟨[97], 0, false, []⟩], 0⟩,
  ⟨10, 1, 1, 1, 0, 0, [], [], false, false, [], [⟨[98], 1, false, []⟩, ⟨[97], 2, false, []⟩], 0⟩,
  ⟨10, 1, 1, 1, 0, 0, [], [], false, false, [], [⟨[97], 1, false, []⟩, ⟨[97], 2, false, []⟩], 0⟩,
  ⟨11, 1, 1, 1, 0, 0, [], [], false, false, [], [], 1⟩,
  ⟨11, 1, 1, 1, 0, 0, [], [], false, false, [], [], -7⟩,
  ⟨0, 0, 0, 0, 0, 0, [], [], false, false, [], [], 0⟩]
def badsMMem (N : Nat) : List (List Value × TypeId) := [(recsCells [⟨[97], 1, true, []⟩], 43),
  (recsCells [⟨[97], 0, false, []⟩], 43),
  (recsCells [⟨[98], 1, false, []⟩, ⟨[97], 2, false, []⟩], 43),
  (recsCells [⟨[97], 1, false, []⟩, ⟨[97], 2, false, []⟩], 43),
  ([.int .i64 1, .int .u64 1, .int .u64 0, .int .u64 0, .int .u64 1, .int .u64 0, .string ⟨#[]⟩, .string ⟨#[]⟩, .bool false, .bool false, .string ⟨#[]⟩, .slice none 0 0, .int .i64 0,
    .int .i64 1, .int .u64 1, .int .u64 0, .int .u64 0, .int .u64 0, .int .u64 0, .string ⟨#[]⟩, .string ⟨#[]⟩, .bool false, .bool false, .string ⟨#[]⟩, .slice none 0 0, .int .i64 7,
    .int .i64 2, .int .u64 1, .int .u64 1, .int .u64 0, .int .u64 1, .int .u64 0, .string ⟨#[97]⟩, .string ⟨#[]⟩, .bool true, .bool false, .string ⟨#[120]⟩, .slice none 0 0, .int .i64 0,
    .int .i64 2, .int .u64 1, .int .u64 1, .int .u64 0, .int .u64 0, .int .u64 0, .string ⟨#[97]⟩, .string ⟨#[]⟩, .bool false, .bool false, .string ⟨#[]⟩, .slice none 0 0, .int .i64 0,
    .int .i64 2, .int .u64 1, .int .u64 1, .int .u64 1, .int .u64 1, .int .u64 0, .string ⟨#[97]⟩, .string ⟨#[]⟩, .bool false, .bool false, .string ⟨#[]⟩, .slice none 0 0, .int .i64 0,
    .int .i64 3, .int .u64 1, .int .u64 1, .int .u64 0, .int .u64 1099511627777, .int .u64 0, .string ⟨#[]⟩, .string ⟨#[]⟩, .bool false, .bool false, .string ⟨#[]⟩, .slice none 0 0, .int .i64 0,
    .int .i64 4, .int .u64 1, .int .u64 1, .int .u64 1, .int .u64 0, .int .u64 0, .string ⟨#[]⟩, .string ⟨#[]⟩, .bool false, .bool false, .string ⟨#[]⟩, .slice none 0 0, .int .i64 0,
    .int .i64 4, .int .u64 1, .int .u64 1, .int .u64 0, .int .u64 0, .int .u64 0, .string ⟨#[97]⟩, .string ⟨#[]⟩, .bool false, .bool false, .string ⟨#[]⟩, .slice none 0 0, .int .i64 0,
    .int .i64 5, .int .u64 1, .int .u64 1, .int .u64 0, .int .u64 0, .int .u64 0, .string ⟨#[]⟩, .string ⟨#[]⟩, .bool false, .bool false, .string ⟨#[]⟩, .slice none 0 0, .int .i64 0,
    .int .i64 6, .int .u64 1, .int .u64 1, .int .u64 1, .int .u64 1099511627777, .int .u64 0, .string ⟨#[]⟩, .string ⟨#[]⟩, .bool false, .bool false, .string ⟨#[]⟩, .slice none 0 0, .int .i64 0,
    .int .i64 7, .int .u64 1, .int .u64 1, .int .u64 0, .int .u64 0, .int .u64 0, .string ⟨#[]⟩, .string ⟨#[]⟩, .bool false, .bool true, .string ⟨#[]⟩, .slice none 0 0, .int .i64 0,
    .int .i64 8, .int .u64 1, .int .u64 1, .int .u64 0, .int .u64 0, .int .u64 0, .string ⟨#[]⟩, .string ⟨#[]⟩, .bool false, .bool false, .string ⟨#[]⟩, .slice none 0 0, .int .i64 0,
    .int .i64 9, .int .u64 1, .int .u64 1, .int .u64 1, .int .u64 0, .int .u64 0, .string ⟨#[]⟩, .string ⟨#[]⟩, .bool false, .bool false, .string ⟨#[120]⟩, .slice none 0 0, .int .i64 0,
    .int .i64 10, .int .u64 1, .int .u64 1, .int .u64 1, .int .u64 0, .int .u64 0, .string ⟨#[]⟩, .string ⟨#[]⟩, .bool false, .bool false, .string ⟨#[]⟩, .slice (some ⟨N + 0, 0, none⟩) 1 1, .int .i64 0,
    .int .i64 10, .int .u64 1, .int .u64 1, .int .u64 1, .int .u64 0, .int .u64 0, .string ⟨#[]⟩, .string ⟨#[]⟩, .bool false, .bool false, .string ⟨#[]⟩, .slice (some ⟨N + 1, 0, none⟩) 1 1, .int .i64 0,
    .int .i64 10, .int .u64 1, .int .u64 1, .int .u64 1, .int .u64 0, .int .u64 0, .string ⟨#[]⟩, .string ⟨#[]⟩, .bool false, .bool false, .string ⟨#[]⟩, .slice (some ⟨N + 2, 0, none⟩) 2 2, .int .i64 0,
    .int .i64 10, .int .u64 1, .int .u64 1, .int .u64 1, .int .u64 0, .int .u64 0, .string ⟨#[]⟩, .string ⟨#[]⟩, .bool false, .bool false, .string ⟨#[]⟩, .slice (some ⟨N + 3, 0, none⟩) 2 2, .int .i64 0,
    .int .i64 11, .int .u64 1, .int .u64 1, .int .u64 1, .int .u64 0, .int .u64 0, .string ⟨#[]⟩, .string ⟨#[]⟩, .bool false, .bool false, .string ⟨#[]⟩, .slice none 0 0, .int .i64 1,
    .int .i64 11, .int .u64 1, .int .u64 1, .int .u64 1, .int .u64 0, .int .u64 0, .string ⟨#[]⟩, .string ⟨#[]⟩, .bool false, .bool false, .string ⟨#[]⟩, .slice none 0 0, .int .i64 (-7),
    .int .i64 0, .int .u64 0, .int .u64 0, .int .u64 0, .int .u64 0, .int .u64 0, .string ⟨#[]⟩, .string ⟨#[]⟩, .bool false, .bool false, .string ⟨#[]⟩, .slice none 0 0, .int .i64 0], 26)]
set_option maxRecDepth 10000 in
set_option maxHeartbeats 1000000 in
theorem badsM_at (w : World) : MsgsAt (many w (badsMMem w.heap.size)) (w.heap.size + 4) badsM := by
  have hE := many_blk w (badsMMem w.heap.size) 4 _ _ rfl
  refine ⟨hE.lt, fun i m hi => ?_⟩
  match i, hi with
  | 0, hi => cases hi; exact ⟨none, 0, 0, msgIn_mk hE _ _ _ _ _ rfl, recs_nil _⟩
  | 1, hi => cases hi; exact ⟨none, 0, 0, msgIn_mk hE _ _ _ _ _ rfl, recs_nil _⟩
  | 2, hi => cases hi; exact ⟨none, 0, 0, msgIn_mk hE _ _ _ _ _ rfl, recs_nil _⟩
  | 3, hi => cases hi; exact ⟨none, 0, 0, msgIn_mk hE _ _ _ _ _ rfl, recs_nil _⟩
  | 4, hi => cases hi; exact ⟨none, 0, 0, msgIn_mk hE _ _ _ _ _ rfl, recs_nil _⟩
  | 5, hi => cases hi; exact ⟨none, 0, 0, msgIn_mk hE _ _ _ _ _ rfl, recs_nil _⟩
  | 6, hi => cases hi; exact ⟨none, 0, 0, msgIn_mk hE _ _ _ _ _ rfl, recs_nil _⟩
  | 7, hi => cases hi; exact ⟨none, 0, 0, msgIn_mk hE _ _ _ _ _ rfl, recs_nil _⟩
  | 8, hi => cases hi; exact ⟨none, 0, 0, msgIn_mk hE _ _ _ _ _ rfl, recs_nil _⟩
  | 9, hi => cases hi; exact ⟨none, 0, 0, msgIn_mk hE _ _ _ _ _ rfl, recs_nil _⟩
  | 10, hi => cases hi; exact ⟨none, 0, 0, msgIn_mk hE _ _ _ _ _ rfl, recs_nil _⟩
  | 11, hi => cases hi; exact ⟨none, 0, 0, msgIn_mk hE _ _ _ _ _ rfl, recs_nil _⟩
  | 12, hi => cases hi; exact ⟨none, 0, 0, msgIn_mk hE _ _ _ _ _ rfl, recs_nil _⟩
  | 13, hi => cases hi; exact ⟨some ⟨w.heap.size + 0, 0, none⟩, 1, 1, msgIn_mk hE _ _ _ _ _ rfl, recs_blk _ _ (many_blk w _ 0 _ _ rfl) rfl (by decide)⟩
  | 14, hi => cases hi; exact ⟨some ⟨w.heap.size + 1, 0, none⟩, 1, 1, msgIn_mk hE _ _ _ _ _ rfl, recs_blk _ _ (many_blk w _ 1 _ _ rfl) rfl (by decide)⟩
  | 15, hi => cases hi; exact ⟨some ⟨w.heap.size + 2, 0, none⟩, 2, 2, msgIn_mk hE _ _ _ _ _ rfl, recs_blk _ _ (many_blk w _ 2 _ _ rfl) rfl (by decide)⟩
  | 16, hi => cases hi; exact ⟨some ⟨w.heap.size + 3, 0, none⟩, 2, 2, msgIn_mk hE _ _ _ _ _ rfl, recs_blk _ _ (many_blk w _ 3 _ _ rfl) rfl (by decide)⟩
  | 17, hi => cases hi; exact ⟨none, 0, 0, msgIn_mk hE _ _ _ _ _ rfl, recs_nil _⟩
  | 18, hi => cases hi; exact ⟨none, 0, 0, msgIn_mk hE _ _ _ _ _ rfl, recs_nil _⟩
  | 19, hi => cases hi; exact ⟨none, 0, 0, msgIn_mk hE _ _ _ _ _ rfl, recs_nil _⟩
  | i + 20, hi => simp [badsM] at hi

/-! ### A region in the text's order, step by step, where each step is known -/
section
variable {P : Program} {ops : Array Oper}
theorem wpOps_of_wpSeq {Q : Exit → Act → World → Prop} : ∀ (rest : List Oper) (k : Nat) (a : Act) (w : World), ops.toList.drop k = rest → wpSeq P ops Q rest a w → wpOps P ops Q (List.range' k rest.length) a w
  | [], k, a, w, _, h => h
  | o :: rest, k, a, w, hd, h => by
    have hk : ops[k]? = some o := by
      have : (ops.toList.drop k)[0]? = some o := by rw [hd]; rfl
      rw [List.getElem?_drop] at this
      simpa using this
    have hd' : ops.toList.drop (k + 1) = rest := by rw [← List.drop_drop, hd]; rfl
    rw [List.length_cons, List.range'_succ, wpOps_cons]
    refine wpOp_mono (fun a' w' h' => wpOps_of_wpSeq rest (k + 1) a' w' hd' h') ?_
    unfold wpOp
    simp only [hk]
    unfold wpSeq at h
    split
    · rename_i hw; simp only [hw, if_true] at h; exact .inl h
    · rename_i hw; simp only [hw, Bool.false_eq_true, if_false] at h; exact h
theorem wp_region_seq {l : List Oper} {Q : Exit → Act → World → Prop} {id : Nat} {a : Act} {w : World} (h : wpSeq P l.toArray Q l a w) : (Code.region id l.toArray false).wp P Q a w := by
  refine wp_region ?_
  have := wpOps_of_wpSeq (ops := l.toArray) (P := P) (Q := Q) l 0 a w (by simp) h
  rw [← List.range_eq_range'] at this
  simpa using this
theorem seq_val {Q : Exit → Act → World → Prop} {o : Oper} {rest : List Oper} {a : Act} {w w' : World} (v : Value) (hw : Region.wanted o (yielded ops a.tmps) = true) (hv : (execOp a.eval o).run P w = .ok (.value v) w') (h : wpSeq P ops Q rest (a.put o.dst v) w') : wpSeq P ops Q (o :: rest) a w := by
  unfold wpSeq
  rw [if_pos hw]
  unfold Oper.wp
  rw [hv]
  exact h
end

/-- What DmsgKnown asks of a message that may be. -/
def rowOk (m : Msg) : Bool := checkM m == 0 && checkM { m with te := 0 } == 2 && checkM { m with te := 1099511627777 } == 2 && checkM { m with kind := -m.kind } == 2 && (m.kind == 1 || checkM { m with di := 0 } == 2)
theorem rowOk_is {m : Msg} (h : rowOk m = true) : checkM m = 0 ∧ checkM { m with te := 0 } = 2 ∧ checkM { m with te := 1099511627777 } = 2 ∧ checkM { m with kind := -m.kind } = 2 ∧ (m.kind ≠ 1 → checkM { m with di := 0 } = 2) := by
  unfold rowOk at h
  simp only [Bool.and_eq_true, Bool.or_eq_true, beq_iff_eq] at h
  exact ⟨h.1.1.1.1, h.1.1.1.2, h.1.1.2, h.1.2, fun hk => h.2.resolve_left hk⟩
theorem rows_fine : ∀ m ∈ rowsM, rowOk m = true := List.all_eq_true.1 (by kernel_rfl)
theorem bads_fine : ∀ m ∈ badsM, checkM m = 2 := by
  have h : (badsM.all fun m => checkM m == 2) = true := by kernel_rfl
  intro m hm
  have := List.all_eq_true.1 h m hm
  simpa using this
def okB (m : Msg) : Bool := decide (-100 ≤ m.kind) && decide (m.kind ≤ 100) && decide (m.te < U64) && decide (m.di < U64) && decide (m.id < U64) && decide (m.lsn < U64) && decide (m.low < U64) && decide (m.key.length ≤ 100) && decide (m.hi.length ≤ 100) && decide (m.val.length ≤ 100) && (m.recs.all fun r => decide (r.key.length ≤ 100) && decide (r.val.length ≤ 100) && decide (r.lsn < U64)) && decide (-100 ≤ m.err) && decide (m.err ≤ 100)
theorem okB_ok {m : Msg} (h : okB m = true) : m.ok ∧ -100 ≤ m.kind ∧ m.kind ≤ 100 := by
  unfold okB at h
  simp only [Bool.and_eq_true, decide_eq_true_eq, List.all_eq_true] at h
  obtain ⟨⟨⟨⟨⟨⟨⟨⟨⟨⟨⟨⟨h1, h2⟩, h3⟩, h4⟩, h5⟩, h6⟩, h7⟩, h8⟩, h9⟩, h10⟩, h11⟩, h12⟩, h13⟩ := h
  exact ⟨⟨by omega, h3, h4, h5, h6, h7, by omega, by omega, by omega, fun r hr => by have := h11 r hr; exact ⟨by omega, by omega, this.2⟩, by omega⟩, h1, h2⟩
theorem rows_ok : ∀ m ∈ rowsM, okB m = true := List.all_eq_true.1 (by kernel_rfl)
theorem bads_ok : ∀ m ∈ badsM, okB m = true := List.all_eq_true.1 (by kernel_rfl)

def raws : List (List UInt8) := [sealI [], sealI [1, 3, 0, 0, 0, 0, 0, 0, 2, 0, 0, 0, 0], sealI [1, 3, 0, 0, 0, 0, 0, 0, 0, 0, 0, 0, 0, 0], sealI [129, 0, 3, 0, 0, 0, 0, 0, 0, 0, 0, 0, 0, 0], [1, 3, 0, 0, 0, 0, 0, 0, 0, 0, 0, 0, 0], sealI [1, 3, 0, 0, 0, 0, 0, 0, 0, 0, 0, 255, 255, 255, 255, 127]]
theorem raws_fine : ∀ l ∈ raws, readM l = none := by
  have h : (raws.all fun l => (readM l).isNone) = true := by kernel_rfl
  intro l hl
  have := List.all_eq_true.1 h l hl
  simpa using this
theorem raws_len : ∀ l ∈ raws, l.length ≤ 100 := by
  have h : (raws.all fun l => decide (l.length ≤ 100)) = true := by kernel_rfl
  intro l hl
  have := List.all_eq_true.1 h l hl
  simpa using this
/-- Texts stand in a block. -/
def StrsAt (w : World) (g : Nat) (ls : List (List UInt8)) : Prop := g < w.heap.size ∧ ∀ i l, ls[i]? = some l → w.cell? ⟨g, i, none⟩ = some (.string ⟨l.toArray⟩)
theorem StrsAt.on {w w' : World} {g : Nat} {ls : List (List UInt8)} (h : StrsAt w g ls) (hb : Below w.heap.size w w') : StrsAt w' g ls :=
  ⟨Nat.lt_of_lt_of_le h.1 hb.size, fun i l hi => (hb.cell (p := ⟨g, i, none⟩) h.1).trans (h.2 i l hi)⟩
theorem strs_blk {w : World} {g : Nat} {T : TypeId} (ls : List (List UInt8)) (h : Blk w g (ls.map fun l => .string ⟨l.toArray⟩) T) : StrsAt w g ls :=
  ⟨h.lt, fun i l hi => by rw [h.cell, List.getElem?_map, hi]; rfl⟩

/-- The records of the last message: their keys are two letters. -/
def keyOf (i : Nat) : List UInt8 := [UInt8.ofNat (97 + i / 26), UInt8.ofNat (97 + i % 26)]
def manyRecs (k : Nat) : List Rec := (List.range k).map fun i => ⟨keyOf i, 1, false, []⟩
theorem manyRecs_succ (k : Nat) : manyRecs (k + 1) = manyRecs k ++ [⟨keyOf k, 1, false, []⟩] := by
  unfold manyRecs
  rw [List.range_succ, List.map_append]; rfl
def manyM (rs : List Rec) : Msg := ⟨10, 1, 1, 1, 0, 0, [], [], false, false, [], rs, 0⟩
theorem many_check : checkM (manyM (manyRecs 500)) = 0 := by kernel_rfl
theorem many_long : checkM (manyM (manyRecs 500 ++ [⟨[122, 122], 1, false, []⟩])) = 3 := by kernel_rfl
theorem many_oks (k : Nat) : ∀ r ∈ manyRecs k, r.ok := by
  intro r hr
  unfold manyRecs at hr
  obtain ⟨i, _, rfl⟩ := List.mem_map.1 hr
  exact ⟨by simp [keyOf], by simp, by show 1 < U64; decide⟩
end Go.Proofs.Ytnijijcbdajodaa
