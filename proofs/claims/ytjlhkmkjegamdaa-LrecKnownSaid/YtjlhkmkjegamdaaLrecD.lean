/-
  The walks of package lrec's must and read. Condition: the text is shorter than 2^47.
-/
import Derived.Test.YtjlhkmkjegamdaaLrecE
import Derived.Laws.ResultCell
namespace Go.Proofs.Ytjlhkmkjegamdaa
set_option linter.unusedVariables false
set_option linter.unusedSimpArgs false
open Go.RowKit

/-- The operations that a reader tells. -/
def readOps : Nat → Nat → Wire.Rd → Option (List Rec × Wire.Rd)
  | 0, _, r => some ([], r)
  | k + 1, lsn, r =>
    if 1 < (Wire.rNum (Wire.rText r).2).1 then none
    else (readOps k ((lsn + 1) % U64) (Wire.rText (Wire.rNum (Wire.rText r).2).2).2).map fun p =>
      (⟨(Wire.rText r).1, lsn, (Wire.rNum (Wire.rText r).2).1 == 1, (Wire.rText (Wire.rNum (Wire.rText r).2).2).1⟩ :: p.1, p.2)
/-- The entry that a text is. -/
def readText (text : List UInt8) : Option Entry :=
  let a := Wire.rNum (some text)
  let b := Wire.rNum a.2
  let c := Wire.rNum b.2
  if 6 < c.1 then none
  else match readOps c.1 b.1 c.2 with
    | none => none
    | some (rs, r) => if r = some [] ∧ checkRes a.1 b.1 rs = 0 then some ⟨a.1, b.1, rs⟩ else none
/-- The entry with which bytes begin. -/
def readAll (s : List UInt8) : Option (Entry × Nat) :=
  let a := Wire.rText (some s)
  if a.2.isSome && (openI a.1).2 then (readText (openI a.1).1).map fun e => (e, (Wire.putText a.1).length) else none

/-- What reading is given up by. -/
def gaveUp : List PanicEntry := [{ v := .iface 56 (.agg #[]), recovered := false }]

set_option maxHeartbeats 400000 in
theorem must_true (w : World) : Calls Try.prog 51 #[.bool true] w fun e w' => e = .returned (.tuple #[]) ∧ w = w' := by
  go_enter Try.func51, Try.ntmps51
  go_wp2_with fail
  go_end0
  exact ⟨rfl, rfl⟩
set_option maxHeartbeats 400000 in
theorem must_false (w : World) : Calls Try.prog 51 #[.bool false] w fun e w' => e = .panicked gaveUp ∧ w = w' := by
  go_enter Try.func51, Try.ntmps51
  go_wp2_with fail
  exact ⟨rfl, rfl, rfl⟩

theorem rText_len {l t : List UInt8} {q : Wire.Rd} (h : Wire.rText (some l) = (t, q)) : t.length ≤ l.length := by
  cases q with
  | none => have := Wire.rText_bad (r := some l) (by rw [h]); rw [h] at this; simp only at this; rw [this]; simp
  | some m =>
    have h1 := (Wire.rText_some h).1
    simp only [Option.some.injEq] at h1
    rw [h1]; unfold Wire.putText; simp only [List.length_append]; omega
theorem rText_short {r : Wire.Rd} (h : Wire.Rd.short r) : Wire.Rd.short (Wire.rText r).2 := by
  intro l hl
  have h1 := rNum_short h
  unfold Wire.rText at hl
  cases hn : Wire.rNum r with
  | mk n q =>
    rw [hn] at hl h1
    cases q with
    | none => simp at hl
    | some m =>
      simp only at hl
      have hm := h1 m rfl
      split at hl
      · simp at hl
      · simp only [Option.some.injEq] at hl
        subst hl
        simp; omega
theorem rText_len1 {r : Wire.Rd} (h : Wire.Rd.short r) : (Wire.rText r).1.length ≤ 140737488355328 := by
  cases r with
  | none => simp [Wire.rText, Wire.rNum]
  | some l =>
    cases hq : Wire.rText (some l) with
    | mk t q =>
      have := rText_len hq
      have := h l rfl
      simp only
      omega
theorem open_len (l : List UInt8) : (openI l).1.length ≤ l.length := by
  unfold openI; split <;> simp

/-- What reading ends with. -/
def ReadEnds (w : World) (o : Option (Entry × Nat)) (e : Ending) (w' : World) : Prop :=
  Below w.heap.size w w' ∧ match o with
    | none => e = .panicked gaveUp
    | some (x, t) => ∃ a n c, e = .returned (.tuple #[entryV x.ts x.first a n c, .int .i64 t]) ∧ RecsAt w' a n c x.ops ∧ ∀ g o, a = some ⟨g, o, none⟩ → w.heap.size ≤ g

def recsCells (rs : List Rec) : List Value := rs.flatMap recCells
/-- What stands behind k operations. -/
structure ReadTo (B E Q a b c : Nat) (rc : Wire.Rd) (k : Nat) (rs : List Rec) (v : Value) (r : Wire.Rd) (wr : World) : Prop where
  lt : E < B ∧ Q < B ∧ E ≠ Q ∧ B ≤ wr.heap.size
  entry : Blk wr E [.int .u64 a, .int .u64 b, v] 27
  own : wr.ownsRow B 24 4 v k (recsCells rs)
  len : rs.length = k
  rd : RdAt wr Q r
  short : Wire.Rd.short r
  oks : ∀ x ∈ rs, x.ok
  all : readOps c b rc = (readOps (c - k) ((b + k) % U64) r).map fun p => (rs ++ p.1, p.2)
theorem ReadTo.start {B E Q a b c : Nat} {rc : Wire.Rd} {w : World} (hE : Blk w E (entryCells a b none 0 0) 27) (hr : RdAt w Q rc) (h1 : E < w.heap.size) (h2 : Q < w.heap.size) (hs : Wire.Rd.short rc) (hb : b < U64) (hne : E ≠ Q := by omega) (hB : B = w.heap.size := by rfl) :
    ReadTo B E Q a b c rc 0 [] (.slice none 0 0) rc w := by
  subst hB
  refine ⟨⟨h1, h2, hne, Nat.le_refl _⟩, hE, World.ownsRow_nil _ _ _ _, rfl, hr, hs, (by simp), ?_⟩
  rw [Nat.sub_zero, Nat.add_zero, Nat.mod_eq_of_lt hb]
  cases readOps c b rc <;> simp
theorem ReadTo.first {B E Q a b c : Nat} {rc : Wire.Rd} {k : Nat} {rs : List Rec} {v : Value} {r : Wire.Rd} {wr : World} (h : ReadTo B E Q a b c rc k rs v r wr) : wr.cell? ⟨E, 1, none⟩ = some (.int .u64 b) := by
  rw [h.entry.cell]; rfl
/-- The entry and its operations stay where only the reader and new memory are written. -/
theorem ReadTo.kept {B E Q a b c : Nat} {rc : Wire.Rd} {k : Nat} {rs : List Rec} {v : Value} {r : Wire.Rd} {wr w' : World} {S : List Nat} (h : ReadTo B E Q a b c rc k rs v r wr) (hm : Mod S wr w') (hS : ∀ s ∈ S, s = Q ∨ wr.heap.size ≤ s) :
    Blk w' E [.int .u64 a, .int .u64 b, v] 27 ∧ w'.ownsRow B 24 4 v k (recsCells rs) := by
  obtain ⟨h1, h2, h3, h4⟩ := h.lt
  refine ⟨h.entry.mod hm (fun hin => ?_), ownsRow_mod h.own hm (fun s hs e => ?_)⟩
  · rcases hS E hin with e | e <;> omega
  · have := h.own.lt s e
    rcases hS s hs with e | e <;> omega
/-- A new record with a key and an LSN, beside a reader that went on. -/
def NewRec (wr : World) (Q : Nat) (key : List UInt8) (lsn : Nat) (r : Wire.Rd) (s10 : Value) (wx : World) : Prop :=
  ∃ X, s10 = .pointer (some ⟨X, 0, none⟩) ∧ wr.heap.size ≤ X ∧ Blk wx X [.string ⟨key.toArray⟩, .int .u64 lsn, .bool false, .string ⟨[].toArray⟩] 24 ∧ RdAt wx Q r ∧ Mod [Q] wr wx
theorem rText_keep (b : Nat) (r : Wire.Rd) (w : World) (hR : RdAt w b r) (hl : Wire.Rd.short r) (E i : Nat) (u : Value) (h1 : w.cell? ⟨E, i, none⟩ = some u) (hne : E ≠ b ∧ E < w.heap.size) :
    Calls Try.prog 49 #[.pointer (some ⟨b, 0, none⟩)] w fun e w' => e = .returned (.string ⟨(Wire.rText r).1.toArray⟩) ∧ RdAt w' b (Wire.rText r).2 ∧ Mod [b] w w' ∧ w'.cell? ⟨E, i, none⟩ = some u :=
  (rText_any b r w hR hl).mono fun e w' ⟨h2, h3, h4⟩ => ⟨h2, h3, h4, (h4.cell hne.2 (by simpa using hne.1)).trans h1⟩

theorem rText_keepX (b : Nat) (r : Wire.Rd) (w : World) (hR : RdAt w b r) (hl : Wire.Rd.short r) (E i : Nat) (u : Value) (h1 : w.cell? ⟨E, i, none⟩ = some u) (hne : E ≠ b ∧ E < w.heap.size) (X : Nat) (c0 c1 c2 c3 : Value) (T : TypeId) (hX : Blk w X [c0, c1, c2, c3] T) (hXb : X ≠ b) :
    Calls Try.prog 49 #[.pointer (some ⟨b, 0, none⟩)] w fun e w' => e = .returned (.string ⟨(Wire.rText r).1.toArray⟩) ∧ RdAt w' b (Wire.rText r).2 ∧ Mod [b] w w' ∧ w'.cell? ⟨E, i, none⟩ = some u ∧
      w'.cell? ⟨X, 0, none⟩ = some c0 ∧ w'.cell? ⟨X, 1, none⟩ = some c1 ∧ w'.cell? ⟨X, 2, none⟩ = some c2 ∧ w'.cell? ⟨X, 3, none⟩ = some c3 ∧
      w'.frozen? ⟨X, 0, none⟩ = false ∧ w'.frozen? ⟨X, 1, none⟩ = false ∧ w'.frozen? ⟨X, 2, none⟩ = false ∧ w'.frozen? ⟨X, 3, none⟩ = false ∧ Blk w' X [c0, c1, c2, c3] T :=
  (rText_keep b r w hR hl E i u h1 hne).mono fun e w' ⟨h2, h3, h4, h5⟩ => by
    have hB := hX.mod h4 (by simpa using hXb)
    refine ⟨h2, h3, h4, h5, ?_, ?_, ?_, ?_, hB.free _, hB.free _, hB.free _, hB.free _, hB⟩ <;> (rw [hB.cell]; rfl)

theorem newRec_a {wr w' : World} {Q : Nat} {r : Wire.Rd} (hr : RdAt w' Q r) (hm : Mod [Q] wr.drew w') (key : List UInt8) (lsn : Nat) (z : Int) (hz : z = lsn) :
    NewRec wr Q key lsn r (.pointer (some ⟨w'.heap.size, 0, none⟩)) (w'.alloc (.cells #[.string ⟨key.toArray⟩, .int .u64 z, .bool false, .string ⟨#[]⟩] 24)) := by
  subst hz
  exact ⟨_, rfl, hm.size, Blk.new _ _ _, hr.alloc _, (show Mod [Q] wr w' from ⟨hm.os, hm.tape, hm.output, hm.size, hm.block⟩).alloc _⟩
theorem newRec_b {wr w' : World} {Q : Nat} {r : Wire.Rd} {o : Obj} {c0 c1 c2 c3 : Value} (hr : RdAt w' Q r) (hm : Mod [Q] (wr.alloc o).drew w') (hX : Blk w' wr.heap.size [c0, c1, c2, c3] 24) (hne : Q ≠ wr.heap.size) (key : List UInt8) (lsn : Nat) (z : Int) (hz : z = lsn) :
    NewRec wr Q key lsn r (.pointer (some ⟨wr.heap.size, 0, none⟩)) ((((w'.setCell ⟨wr.heap.size, 0, none⟩ (.string ⟨key.toArray⟩)).setCell ⟨wr.heap.size, 1, none⟩ (.int .u64 z)).setCell ⟨wr.heap.size, 2, none⟩ (.bool false)).setCell ⟨wr.heap.size, 3, none⟩ (.string ⟨#[]⟩)) := by
  subst hz
  have h1 := (((hX.set 0 (.string ⟨key.toArray⟩)).set 1 (.int .u64 lsn)).set 2 (.bool false)).set 3 (.string ⟨#[]⟩)
  have hm0 : Mod [Q] wr w' := ((Mod.refl [Q] wr).alloc o).trans (show Mod [Q] (wr.alloc o) w' from ⟨hm.os, hm.tape, hm.output, hm.size, hm.block⟩)
  refine ⟨wr.heap.size, rfl, Nat.le_refl _, h1, ?_, ?_⟩
  · exact Blk.other (Blk.other (Blk.other (Blk.other hr _ _ hne) _ _ hne) _ _ hne) _ _ hne
  · exact (((hm0.setCell _ _ (.inr (Nat.le_refl _))).setCell _ _ (.inr (Nat.le_refl _))).setCell _ _ (.inr (Nat.le_refl _))).setCell _ _ (.inr (Nat.le_refl _))

theorem info_rec : (Try.prog.info? 24).map (fun i => (i.zero, i.size, i.bytes)) = some (some (.agg #[.string ⟨#[]⟩, .int .u64 0, .bool false, .string ⟨#[]⟩]), 4, 48) := by kernel_rfl
/-- 'append(l, x)' of one record. -/
theorem append_rec {w : World} {B : Nat} {v : Value} {k : Nat} {rs : List Rec} (h : w.ownsRow B 24 4 v k (recsCells rs)) (hk : k ≤ 1000) (hB : B ≤ w.heap.size) (x : Rec) (ty : TypeId) (c : Array Value) (hc : c = #[.string ⟨x.key.toArray⟩, .int .u64 x.lsn, .bool x.del, .string ⟨x.val.toArray⟩]) (n : Nat) (hn : n = w.heap.size) :
    ∃ v' w', (Builtin.append_ #[25, 25] ty #[v, .slice (some ⟨n, 0, none⟩) 1 1]).run Try.prog (w.alloc (.cells c 24)) = .ok v' w' ∧
      w'.ownsRow B 24 4 v' (k + 1) (recsCells (rs ++ [x])) ∧ Mod v.ownBlock.toList w w' := by
  subst hc hn
  obtain ⟨i, hi, hz0, hz1, hz2⟩ := info_parts info_rec
  obtain ⟨v', w', hrun, hown, hg, _⟩ := run_append_own (P := Try.prog) (w := w.alloc (.cells #[.string ⟨x.key.toArray⟩, .int .u64 x.lsn, .bool x.del, .string ⟨x.val.toArray⟩] 24)) B 25 ty 24 i _ 4 48 Try.underlying25 hi hz0 hz1 hz2 rfl (by decide) v k (recsCells rs) (h.alloc _)
    ⟨w.heap.size, 0, none⟩ 1 1 (recCells x) rfl (fun j u hj => by
      have hp : (⟨w.heap.size, 0, none⟩ : Addr).add j = ⟨w.heap.size, j, none⟩ := by unfold Addr.add; split <;> simp_all
      rw [hp, World.cell?_alloc_new]
      simpa [recCells] using hj) (by
      intro u hu
      simp only [recCells, List.mem_cons, List.not_mem_nil, or_false] at hu
      rcases hu with rfl | rfl | rfl | rfl <;> rfl) (by unfold maxLen; omega) (by omega) (by simp; omega)
  refine ⟨v', w', hrun, ?_, ?_⟩
  · have e : recsCells (rs ++ [x]) = recsCells rs ++ recCells x := by simp [recsCells]
    rw [e]; exact hown
  · exact ((Mod.refl _ _).alloc _).grown hg (fun b hb => .inl (by rw [hb]; simp))

theorem recs_get (rs : List Rec) (i : Nat) (h : i < rs.length) (j : Nat) (hj : j < 4) : (recsCells rs)[i * 4 + j]? = (recCells rs[i])[j]? := by
  induction rs generalizing i with
  | nil => simp at h
  | cons x xs ih =>
    have e : recsCells (x :: xs) = recCells x ++ recsCells xs := rfl
    rw [e]
    cases i with
    | zero => rw [Nat.zero_mul, Nat.zero_add, List.getElem?_append_left (by simp [recCells]; exact hj)]; rfl
    | succ i =>
      rw [List.getElem?_append_right (by simp [recCells]; omega)]
      have h2 : (i + 1) * 4 + j - (recCells x).length = i * 4 + j := by simp [recCells]; omega
      rw [h2, ih i (by simpa using h)]
      rfl
theorem ownsRow_shape {W : World} {base : Nat} {e : TypeId} {size : Nat} {v : Value} {k : Nat} {xs : List Value} (h : W.ownsRow base e size v k xs) :
    v = .slice none 0 0 ∧ k = 0 ∨ ∃ g cap cur, v = .slice (some ⟨g, 0, none⟩) k cap ∧ base ≤ g ∧ g < W.heap.size ∧ k ≤ cap ∧ W.heap[g]? = some (.cells cur e (0, 0)) := by
  obtain ⟨h1, h2⟩ := h
  rcases h2 with ⟨h2, h3⟩ | ⟨g, cap, cur, rfl, hg, hh, r⟩
  · exact .inl ⟨h2, h3⟩
  · refine .inr ⟨g, cap, cur, rfl, hg, ?_, ?_, hh⟩
    · have := (Array.getElem?_eq_some_iff.mp hh).1; exact this
    · omega
theorem ReadTo.recs {B E Q a b c : Nat} {rc : Wire.Rd} {k : Nat} {rs : List Rec} {v : Value} {r : Wire.Rd} {wr : World} (h : ReadTo B E Q a b c rc k rs v r wr) (hk : k ≤ 1000) :
    ∃ p n cp, v = .slice p n cp ∧ RecsAt wr p n cp rs ∧ ∀ g o, p = some ⟨g, o, none⟩ → B ≤ g := by
  have hl := h.len
  rcases ownsRow_shape h.own with ⟨rfl, rfl⟩ | ⟨g, cap, cur, rfl, hg, hh, hc, _⟩
  · exact ⟨none, 0, 0, rfl, ⟨hl, by omega, by omega, by omega⟩, fun g o e => by cases e⟩
  · refine ⟨_, k, cap, rfl, ⟨hl, hc, by omega, fun hn => ⟨g, 0, rfl, hh, fun i hi => ?_⟩⟩, fun g o e => by cases e; exact hg⟩
    have hc := h.own.cellAt
    have e0 := recs_get rs i hi 0 (by omega)
    have e1 := recs_get rs i hi 1 (by omega)
    have e2 := recs_get rs i hi 2 (by omega)
    have e3 := recs_get rs i hi 3 (by omega)
    refine ⟨?_, ?_, ?_, ?_⟩
    · rw [Nat.zero_add, hc _ (by omega)]; exact e0
    · rw [Nat.zero_add, hc _ (by omega)]; exact e1
    · rw [Nat.zero_add, hc _ (by omega)]; exact e2
    · rw [Nat.zero_add, hc _ (by omega)]; exact e3

theorem RecsAt.other {w : World} {p : Option Addr} {n c : Nat} {rs : List Rec} (h : RecsAt w p n c rs) (a : Addr) (v : Value) (hne : ∀ g o, p = some ⟨g, o, none⟩ → g ≠ a.block) : RecsAt (w.setCell a v) p n c rs :=
  ⟨h.len, h.cap, h.max, fun hn => by
    obtain ⟨g, o, rfl, hg, hc⟩ := h.at_ hn
    have hm : Mod [a.block] w (w.setCell a v) := (Mod.refl _ _).setCell _ _ (.inl (by simp))
    have hn : g ∉ [a.block] := by simpa using hne g o rfl
    refine ⟨g, o, rfl, Nat.lt_of_lt_of_le hg hm.size, fun i hi => ?_⟩
    rw [hm.cell (b := g) (i := o + i * 4) hg hn, hm.cell (b := g) (i := o + i * 4 + 1) hg hn, hm.cell (b := g) (i := o + i * 4 + 2) hg hn, hm.cell (b := g) (i := o + i * 4 + 3) hg hn]
    exact hc i hi⟩

theorem run_load_entry {w : World} {b ts first n c : Nat} {a : Option Addr} (h : Blk w b (entryCells ts first a n c) 27) : (loadVar 27 ⟨b, 0, none⟩).run Try.prog w = .ok (entryV ts first a n c) w :=
  run_loadVar_row w b 27 27 _ (0, 0) _ h Try.underlying27 rfl (by kernel_rfl)
theorem results_entry {fn : Func} {p u : Tmp} (h : fn.results = #[.cell p 27, .tmp u]) (tmps : Array Value) {w : World} {b ts first n c : Nat} {a : Option Addr} (hp : tmps.getD p undef = .pointer (some ⟨b, 0, none⟩)) (v : Value) (hu : tmps.getD u undef = v)
    (hE : Blk w b (entryCells ts first a n c) 27) : (results fn tmps).run Try.prog w = .ok (.tuple #[entryV ts first a n c, v]) w := by
  rw [results_cell_tmp h, hp, hu]
  simp [asAddr, Result.andThen, run_load_entry hE]
end Go.Proofs.Ytjlhkmkjegamdaa
