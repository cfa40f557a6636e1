/-
  The walks of package dmsg's must and small, and what its reading needs. Condition: the text is shorter than 2^47.
-/
import Derived.Test.YtnijijcbdajodaaMsgK
import Derived.Test.YtnijijcbdajodaaWireR
import Derived.Laws.ResultCell
namespace Go.Proofs.Ytnijijcbdajodaa
set_option linter.unusedVariables false
set_option linter.unusedSimpArgs false
open Go.RowKit

/-- What reading is given up by. -/
def gaveUp : List PanicEntry := [{ v := .iface 62 (.agg #[]), recovered := false }]

set_option maxHeartbeats 400000 in
theorem must_true (w : World) : Calls Try.prog 74 #[.bool true] w fun e w' => e = .returned (.tuple #[]) ∧ w = w' := by
  go_enter Try.func74, Try.ntmps74
  go_wp2_with fail
  go_end0
  exact ⟨rfl, rfl⟩
set_option maxHeartbeats 400000 in
theorem must_false (w : World) : Calls Try.prog 74 #[.bool false] w fun e w' => e = .panicked gaveUp ∧ w = w' := by
  go_enter Try.func74, Try.ntmps74
  go_wp2_with fail
  exact ⟨rfl, rfl, rfl⟩

set_option maxHeartbeats 400000 in
theorem small_yes (b below : Nat) (r : Wire.Rd) (w : World) (hR : RdAt w b r) (hl : Wire.Rd.short r) (h : (Wire.rNum r).1 < below) :
    Calls Try.prog 76 #[.pointer (some ⟨b, 0, none⟩), .int .u64 below] w fun e w' => e = .returned (.int .u64 (Wire.rNum r).1) ∧ RdAt w' b (Wire.rNum r).2 ∧ Mod [b] w w' := by
  have hd : decide ((Wire.rNum r).1 < below) = true := by simpa using h
  go_enter Try.func76, Try.ntmps76
  go_wp2_with fail
  refine (rNum_any b r w hR hl).mono ?_
  rintro e w1 ⟨rfl, hr1, hm1⟩
  go_wp2_with fail
  refine (must_true _).mono ?_
  rintro e w2 ⟨rfl, rfl⟩
  go_wp2_with fail
  go_ret
  exact ⟨rfl, hr1, hm1⟩
set_option maxHeartbeats 400000 in
theorem small_no (b below : Nat) (r : Wire.Rd) (w : World) (hR : RdAt w b r) (hl : Wire.Rd.short r) (h : ¬ (Wire.rNum r).1 < below) :
    Calls Try.prog 76 #[.pointer (some ⟨b, 0, none⟩), .int .u64 below] w fun e w' => e = .panicked gaveUp ∧ Mod [b] w w' := by
  have hd : decide ((Wire.rNum r).1 < below) = false := by simpa using h
  go_enter Try.func76, Try.ntmps76
  go_wp2_with fail
  refine (rNum_any b r w hR hl).mono ?_
  rintro e w1 ⟨rfl, hr1, hm1⟩
  go_wp2_with fail
  refine (must_false _).mono ?_
  rintro e w2 ⟨rfl, rfl⟩
  exact ⟨rfl, rfl, hm1⟩

theorem rText_len {l t : List UInt8} {q : Wire.Rd} (h : Wire.rText (some l) = (t, q)) : t.length ≤ l.length := by
  cases q with
  | none => have := Wire.rText_bad (r := some l) (by rw [h]); rw [h] at this; simp only at this; rw [this]; simp
  | some m =>
    have h1 := (Wire.rText_some h).1
    simp only [Option.some.injEq] at h1
    rw [h1]; unfold Wire.putText; simp only [List.length_append]; omega
theorem rText_short {r : Wire.Rd} (h : Wire.Rd.short r) : Wire.Rd.short (Wire.rText r).2 := by
  intro l hl
  have h1 := rNum_short h
  unfold Wire.rText at hl
  cases hn : Wire.rNum r with
  | mk n q =>
    rw [hn] at hl h1
    cases q with
    | none => simp at hl
    | some m =>
      simp only at hl
      have hm := h1 m rfl
      split at hl
      · simp at hl
      · simp only [Option.some.injEq] at hl
        subst hl
        simp; omega
theorem rText_len1 {r : Wire.Rd} (h : Wire.Rd.short r) : (Wire.rText r).1.length ≤ 140737488355328 := by
  cases r with
  | none => simp [Wire.rText, Wire.rNum]
  | some l =>
    cases hq : Wire.rText (some l) with
    | mk t q =>
      have := rText_len hq
      have := h l rfl
      simp only
      omega
theorem open_len (l : List UInt8) : (openI l).1.length ≤ l.length := by
  unfold openI; split <;> simp

def recsCells (rs : List Rec) : List Value := rs.flatMap recCells
theorem info_rec : (Try.prog.info? 43).map (fun i => (i.zero, i.size, i.bytes)) = some (some (.agg #[.string ⟨#[]⟩, .int .u64 0, .bool false, .string ⟨#[]⟩]), 4, 48) := by kernel_rfl
/-- 'append(l, x)' of one record. -/
theorem append_rec {w : World} {B : Nat} {v : Value} {k : Nat} {rs : List Rec} (h : w.ownsRow B 43 4 v k (recsCells rs)) (hk : k ≤ 1000) (hB : B ≤ w.heap.size) (x : Rec) (ty : TypeId) (c : Array Value) (hc : c = #[.string ⟨x.key.toArray⟩, .int .u64 x.lsn, .bool x.del, .string ⟨x.val.toArray⟩]) (n : Nat) (hn : n = w.heap.size) :
    ∃ v' w', (Builtin.append_ #[23, 23] ty #[v, .slice (some ⟨n, 0, none⟩) 1 1]).run Try.prog (w.alloc (.cells c 43)) = .ok v' w' ∧
      w'.ownsRow B 43 4 v' (k + 1) (recsCells (rs ++ [x])) ∧ Mod v.ownBlock.toList w w' := by
  subst hc hn
  obtain ⟨i, hi, hz0, hz1, hz2⟩ := info_parts info_rec
  obtain ⟨v', w', hrun, hown, hg, _⟩ := run_append_own (P := Try.prog) (w := w.alloc (.cells #[.string ⟨x.key.toArray⟩, .int .u64 x.lsn, .bool x.del, .string ⟨x.val.toArray⟩] 43)) B 23 ty 43 i _ 4 48 Try.underlying23 hi hz0 hz1 hz2 rfl (by decide) v k (recsCells rs) (h.alloc _)
    ⟨w.heap.size, 0, none⟩ 1 1 (recCells x) rfl (fun j u hj => by
      have hp : (⟨w.heap.size, 0, none⟩ : Addr).add j = ⟨w.heap.size, j, none⟩ := by unfold Addr.add; split <;> simp_all
      rw [hp, World.cell?_alloc_new]
      simpa [recCells] using hj) (by
      intro u hu
      simp only [recCells, List.mem_cons, List.not_mem_nil, or_false] at hu
      rcases hu with rfl | rfl | rfl | rfl <;> rfl) (by unfold maxLen; omega) (by omega) (by simp; omega)
  refine ⟨v', w', hrun, ?_, ?_⟩
  · have e : recsCells (rs ++ [x]) = recsCells rs ++ recCells x := by simp [recsCells]
    rw [e]; exact hown
  · exact ((Mod.refl _ _).alloc _).grown hg (fun b hb => .inl (by rw [hb]; simp))

theorem recs_get (rs : List Rec) (i : Nat) (h : i < rs.length) (j : Nat) (hj : j < 4) : (recsCells rs)[i * 4 + j]? = (recCells rs[i])[j]? := by
  induction rs generalizing i with
  | nil => simp at h
  | cons x xs ih =>
    have e : recsCells (x :: xs) = recCells x ++ recsCells xs := rfl
    rw [e]
    cases i with
    | zero => rw [Nat.zero_mul, Nat.zero_add, List.getElem?_append_left (by simp [recCells]; exact hj)]; rfl
    | succ i =>
      rw [List.getElem?_append_right (by simp [recCells]; omega)]
      have h2 : (i + 1) * 4 + j - (recCells x).length = i * 4 + j := by simp [recCells]; omega
      rw [h2, ih i (by simpa using h)]
      rfl
theorem ownsRow_shape {W : World} {base : Nat} {e : TypeId} {size : Nat} {v : Value} {k : Nat} {xs : List Value} (h : W.ownsRow base e size v k xs) :
    v = .slice none 0 0 ∧ k = 0 ∨ ∃ g cap cur, v = .slice (some ⟨g, 0, none⟩) k cap ∧ base ≤ g ∧ g < W.heap.size ∧ k ≤ cap ∧ W.heap[g]? = some (.cells cur e (0, 0)) := by
  obtain ⟨h1, h2⟩ := h
  rcases h2 with ⟨h2, h3⟩ | ⟨g, cap, cur, rfl, hg, hh, r⟩
  · exact .inl ⟨h2, h3⟩
  · refine .inr ⟨g, cap, cur, rfl, hg, ?_, ?_, hh⟩
    · have := (Array.getElem?_eq_some_iff.mp hh).1; exact this
    · omega
theorem RecsAt.other {w : World} {p : Option Addr} {n c : Nat} {rs : List Rec} (h : RecsAt w p n c rs) (a : Addr) (v : Value) (hne : ∀ g o, p = some ⟨g, o, none⟩ → g ≠ a.block) : RecsAt (w.setCell a v) p n c rs :=
  ⟨h.len, h.cap, h.max, fun hn => by
    obtain ⟨g, o, rfl, hg, hc⟩ := h.at_ hn
    have hm : Mod [a.block] w (w.setCell a v) := (Mod.refl _ _).setCell _ _ (.inl (by simp))
    have hn : g ∉ [a.block] := by simpa using hne g o rfl
    refine ⟨g, o, rfl, Nat.lt_of_lt_of_le hg hm.size, fun i hi => ?_⟩
    rw [hm.cell (b := g) (i := o + i * 4) hg hn, hm.cell (b := g) (i := o + i * 4 + 1) hg hn, hm.cell (b := g) (i := o + i * 4 + 2) hg hn, hm.cell (b := g) (i := o + i * 4 + 3) hg hn]
    exact hc i hi⟩

/-- A message's cells, its records as they stand there. -/
def msgCellsV (m : Msg) (v : Value) : List Value :=
  [.int .i64 m.kind, .int .u64 m.te, .int .u64 m.di, .int .u64 m.id, .int .u64 m.lsn, .int .u64 m.low, .string ⟨m.key.toArray⟩, .string ⟨m.hi.toArray⟩, .bool m.del, .bool m.found, .string ⟨m.val.toArray⟩, v, .int .i64 m.err]
/-- What stands behind k records. -/
structure RecTo (B M Q c : Nat) (m : Msg) (r0 : Wire.Rd) (k : Nat) (rs : List Rec) (v : Value) (r : Wire.Rd) (wr : World) : Prop where
  lt : M < B ∧ Q < B ∧ M ≠ Q ∧ B ≤ wr.heap.size
  msg : Blk wr M (msgCellsV m v) 26
  own : wr.ownsRow B 43 4 v k (recsCells rs)
  len : rs.length = k
  rd : RdAt wr Q r
  short : Wire.Rd.short r
  oks : ∀ x ∈ rs, x.ok
  all : readRecs c r0 = (rs ++ (readRecs (c - k) r).1, (readRecs (c - k) r).2)
theorem RecTo.start {M Q c : Nat} {m : Msg} {r0 : Wire.Rd} {w : World} (hM : Blk w M (msgCellsV m (.slice none 0 0)) 26) (hr : RdAt w Q r0) (hs : Wire.Rd.short r0) (hne : M ≠ Q) :
    RecTo w.heap.size M Q c m r0 0 [] (.slice none 0 0) r0 w :=
  ⟨⟨hM.lt, hr.lt, hne, Nat.le_refl _⟩, hM, World.ownsRow_nil _ _ _ _, rfl, hr, hs, (by simp), by rw [Nat.sub_zero]; rfl⟩
theorem RecTo.kept {B M Q c : Nat} {m : Msg} {r0 : Wire.Rd} {k : Nat} {rs : List Rec} {v : Value} {r : Wire.Rd} {wr w' : World} {S : List Nat} (h : RecTo B M Q c m r0 k rs v r wr) (hm : Mod S wr w') (hS : ∀ s ∈ S, s = Q ∨ wr.heap.size ≤ s) :
    Blk w' M (msgCellsV m v) 26 ∧ w'.ownsRow B 43 4 v k (recsCells rs) := by
  obtain ⟨h1, h2, h3, h4⟩ := h.lt
  refine ⟨h.msg.mod hm (fun hin => ?_), ownsRow_mod h.own hm (fun s hs e => ?_)⟩
  · rcases hS M hin with e | e <;> omega
  · have := h.own.lt s e
    rcases hS s hs with e | e <;> omega
theorem RecTo.recs {B M Q c : Nat} {m : Msg} {r0 : Wire.Rd} {k : Nat} {rs : List Rec} {v : Value} {r : Wire.Rd} {wr : World} (h : RecTo B M Q c m r0 k rs v r wr) (hk : k ≤ 1000) :
    ∃ p n cp, v = .slice p n cp ∧ RecsAt wr p n cp rs ∧ ∀ g o, p = some ⟨g, o, none⟩ → B ≤ g := by
  have hl := h.len
  rcases ownsRow_shape h.own with ⟨rfl, rfl⟩ | ⟨g, cap, cur, rfl, hg, hh, hc, _⟩
  · exact ⟨none, 0, 0, rfl, ⟨hl, by omega, by omega, by omega⟩, fun g o e => by cases e⟩
  · refine ⟨_, k, cap, rfl, ⟨hl, hc, by omega, fun hn => ⟨g, 0, rfl, hh, fun i hi => ?_⟩⟩, fun g o e => by cases e; exact hg⟩
    have hc := h.own.cellAt
    have e0 := recs_get rs i hi 0 (by omega)
    have e1 := recs_get rs i hi 1 (by omega)
    have e2 := recs_get rs i hi 2 (by omega)
    have e3 := recs_get rs i hi 3 (by omega)
    refine ⟨?_, ?_, ?_, ?_⟩
    · rw [Nat.zero_add, hc _ (by omega)]; exact e0
    · rw [Nat.zero_add, hc _ (by omega)]; exact e1
    · rw [Nat.zero_add, hc _ (by omega)]; exact e2
    · rw [Nat.zero_add, hc _ (by omega)]; exact e3

/-- What reading ends with. -/
def ReadEnds (w : World) (o : Option Msg) (e : Ending) (w' : World) : Prop :=
  Below w.heap.size w w' ∧ match o with
    | none => e = .panicked gaveUp
    | some m => ∃ a n c, e = .returned (msgV m a n c) ∧ RecsAt w' a n c m.recs ∧ m.ok ∧ ∀ g o, a = some ⟨g, o, none⟩ → w.heap.size ≤ g
end Go.Proofs.Ytnijijcbdajodaa
