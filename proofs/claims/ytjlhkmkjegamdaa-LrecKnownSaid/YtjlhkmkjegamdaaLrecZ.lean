/-
  The walk of package lrec's Decode. Condition: the text is shorter than 2^47.
-/
import Derived.Test.YtjlhkmkjegamdaaLrecX
namespace Go.Proofs.Ytjlhkmkjegamdaa
set_option linter.unusedVariables false
set_option linter.unusedSimpArgs false
open Go.RowKit

/-- What decoding ends with. -/
def DecodeEnds (w : World) (o : Option (Entry × Nat)) (e : Ending) (w' : World) : Prop :=
  Below w.heap.size w w' ∧ match o with
    | none => e = .returned (.tuple #[entryV 0 0 none 0 0, .int .i64 0, .int .i64 4])
    | some (x, t) => ∃ a n c, e = .returned (.tuple #[entryV x.ts x.first a n c, .int .i64 t, .int .i64 0]) ∧ RecsAt w' a n c x.ops

theorem below_drew {B : Nat} {a w : World} (h : Below B a w) : Below B a w.drew := ⟨h.os, h.tape, h.output, h.size, h.block⟩
theorem recsAt_drew {w : World} {a : Option Addr} {n c : Nat} {rs : List Rec} (h : RecsAt w a n c rs) : RecsAt w.drew a n c rs := ⟨h.len, h.cap, h.max, h.at_⟩
theorem results_cells3 {fn : Func} {p q r : Tmp} (h : fn.results = #[.cell p 27, .cell q 3, .cell r 28]) (tmps : Array Value) {w : World} {E T X ts first n c : Nat} {a : Option Addr} {t x : Int} (hp : tmps.getD p undef = .pointer (some ⟨E, 0, none⟩)) (hq : tmps.getD q undef = .pointer (some ⟨T, 0, none⟩)) (hr : tmps.getD r undef = .pointer (some ⟨X, 0, none⟩))
    (hE : Blk w E (entryCells ts first a n c) 27) (hT : Blk w T [.int .i64 t] 3) (hX : Blk w X [.int .i64 x] 28) : (results fn tmps).run Try.prog w = .ok (.tuple #[entryV ts first a n c, .int .i64 t, .int .i64 x]) w := by
  have e3 : w.cell? ⟨T, 0, none⟩ = some (.int .i64 t) := by rw [hT.cell]; rfl
  have e4 : w.cell? ⟨X, 0, none⟩ = some (.int .i64 x) := by rw [hX.cell]; rfl
  have hp' : tmps[p]?.getD undef = .pointer (some ⟨E, 0, none⟩) := by simpa using hp
  have hq' : tmps[q]?.getD undef = .pointer (some ⟨T, 0, none⟩) := by simpa using hq
  have hr' : tmps[r]?.getD undef = .pointer (some ⟨X, 0, none⟩) := by simpa using hr
  have e0 : w.cell? ⟨E, 0, none⟩ = some (.int .u64 ts) := by rw [hE.cell]; rfl
  have e1 : w.cell? ⟨E, 1, none⟩ = some (.int .u64 first) := by rw [hE.cell]; rfl
  have e2 : w.cell? ⟨E, 2, none⟩ = some (.slice a n c) := by rw [hE.cell]; rfl
  simp [results, h, hp', hq', hr', go_sem, e0, e1, e2, e3, e4, entryV]
set_option maxHeartbeats 1000000 in
theorem decode_any (s : List UInt8) (w : World) (hs : s.length ≤ 140737488355000) :
    Calls Try.prog 16 #[.string ⟨s.toArray⟩] w (DecodeEnds w (readAll s)) := by
  have hmf : ∀ (fn : Fn) (first cap : Array Value) (w : World), (Instr.makeFunc fn first cap).run Try.prog w = .ok (.func fn first cap) w := fun _ _ _ _ => rfl
  go_enter_defers Try.func16, Try.ntmps16
  go_upto_region 1 with fail
  have hE : Blk (((w.alloc (.cells #[.int .u64 0, .int .u64 0, .slice none 0 0] 27)).alloc (.cells #[.int .i64 0] 3)).alloc (.cells #[.int .i64 0] 28)) w.heap.size (entryCells 0 0 none 0 0) 27 := ((Blk.new _ _ _).alloc _).alloc _
  have hT : Blk (((w.alloc (.cells #[.int .u64 0, .int .u64 0, .slice none 0 0] 27)).alloc (.cells #[.int .i64 0] 3)).alloc (.cells #[.int .i64 0] 28)) (w.heap.size + 1) [.int .i64 0] 3 := by
    have h := (Blk.new (w.alloc (.cells #[.int .u64 0, .int .u64 0, .slice none 0 0] 27)) [.int .i64 0] 3).alloc (.cells #[.int .i64 0] 28)
    simpa using h
  have hX : Blk (((w.alloc (.cells #[.int .u64 0, .int .u64 0, .slice none 0 0] 27)).alloc (.cells #[.int .i64 0] 3)).alloc (.cells #[.int .i64 0] 28)) (w.heap.size + 1 + 1) [.int .i64 0] 28 := by
    have h := Blk.new ((w.alloc (.cells #[.int .u64 0, .int .u64 0, .slice none 0 0] 27)).alloc (.cells #[.int .i64 0] 3)) [.int .i64 0] 28
    simpa using h
  have hb := (((Below.refl w.heap.size w).alloc (Nat.le_refl _) (.cells #[.int .u64 0, .int .u64 0, .slice none 0 0] 27)).alloc (by simp) (.cells #[.int .i64 0] 3)).alloc (by simp; omega) (.cells #[.int .i64 0] 28)
  generalize ((w.alloc (.cells #[.int .u64 0, .int .u64 0, .slice none 0 0] 27)).alloc (.cells #[.int .i64 0] 3)).alloc (.cells #[.int .i64 0] 28) = w0 at *
  have h1 : w.heap.size ≠ w.heap.size + 1 := by omega
  have h2 : w.heap.size ≠ w.heap.size + 1 + 1 := by omega
  have h3 : w.heap.size + 1 ≠ w.heap.size + 1 + 1 := by omega
  have hlT : w.heap.size ≤ w.heap.size + 1 := by omega
  have hlX : w.heap.size ≤ w.heap.size + 1 + 1 := by omega
  generalize w.heap.size + 1 + 1 = X at *
  generalize w.heap.size + 1 = T at *
  go_wp2_with fail
  refine (read_any s _ hs).mono ?_
  rintro e w1 ⟨hb1, hm⟩
  have hE1 := hE.on hb1
  have hT1 := hT.on hb1
  have hX1 := hX.on hb1
  have hb01 := hb.on hb1
  have hltE := hE.lt
  have hltT := hT.lt
  have hltX := hX.lt
  clear hE hT hX hb hb1
  cases hro : readAll s with
  | none =>
    rw [hro] at hm
    simp only at hm
    subst hm
    refine leaves_cons (f := 37) (args := #[.pointer (some ⟨w.heap.size, 0, none⟩), .pointer (some ⟨T, 0, none⟩), .pointer (some ⟨X, 0, none⟩)]) (by simp) (by simp [go_sem]) ?_
    refine (decoded_gave w.heap.size T X _ _ _ w1 hE1 hT1 hX1 h1 h2 h3).mono ?_
    rintro e u' w2 ⟨rfl, rfl, hE2, hT2, hX2, hm2⟩
    refine ⟨_, results_cells3 rfl _ rfl rfl rfl hE2 hT2 hX2, Mod.fresh hb01 hm2 (by simp; omega), ?_⟩
    rfl
  | some xt =>
    obtain ⟨x, t⟩ := xt
    rw [hro] at hm
    obtain ⟨a, n, c, rfl, hra, hfar⟩ := hm
    have e0 : w1.cell? ⟨w.heap.size, 0, none⟩ = some (.int .u64 0) := by rw [hE1.cell]; rfl
    have e1 : w1.cell? ⟨w.heap.size, 1, none⟩ = some (.int .u64 0) := by rw [hE1.cell]; rfl
    have e2 : w1.cell? ⟨w.heap.size, 2, none⟩ = some (.slice none 0 0) := by rw [hE1.cell]; rfl
    have e3 : w1.cell? ⟨T, 0, none⟩ = some (.int .i64 0) := by rw [hT1.cell]; rfl
    have e4 : w1.cell? ⟨X, 0, none⟩ = some (.int .i64 0) := by rw [hX1.cell]; rfl
    have z0 := hE1.free 0
    have z1 := hE1.free 1
    have z2 := hE1.free 2
    have z3 := hT1.free 0
    have z4 := hX1.free 0
    unfold entryV
    have hE2 := (((hE1.set 0 (.int .u64 x.ts)).set 1 (.int .u64 x.first)).set 2 (.slice a n c)).other ⟨T, 0, none⟩ (.int .i64 t) h1
    have hT2 := (((hT1.other ⟨w.heap.size, 0, none⟩ (.int .u64 x.ts) (Ne.symm h1)).other ⟨w.heap.size, 1, none⟩ (.int .u64 x.first) (Ne.symm h1)).other ⟨w.heap.size, 2, none⟩ (.slice a n c) (Ne.symm h1)).set 0 (.int .i64 t)
    have hX2 := (((hX1.other ⟨w.heap.size, 0, none⟩ (.int .u64 x.ts) (Ne.symm h2)).other ⟨w.heap.size, 1, none⟩ (.int .u64 x.first) (Ne.symm h2)).other ⟨w.heap.size, 2, none⟩ (.slice a n c) (Ne.symm h2)).other ⟨T, 0, none⟩ (.int .i64 t) (Ne.symm h3)
    have hb2 := (((hb01.setCell (p := ⟨w.heap.size, 0, none⟩) (Nat.le_refl _) (.int .u64 x.ts)).setCell (p := ⟨w.heap.size, 1, none⟩) (Nat.le_refl _) (.int .u64 x.first)).setCell (p := ⟨w.heap.size, 2, none⟩) (Nat.le_refl _) (.slice a n c)).setCell (p := ⟨T, 0, none⟩) hlT (.int .i64 t)
    have hr2 := (((hra.other ⟨w.heap.size, 0, none⟩ (.int .u64 x.ts) (fun g o e => by have := hfar g o e; show g ≠ w.heap.size; omega)).other ⟨w.heap.size, 1, none⟩ (.int .u64 x.first) (fun g o e => by have := hfar g o e; show g ≠ w.heap.size; omega)).other ⟨w.heap.size, 2, none⟩ (.slice a n c) (fun g o e => by have := hfar g o e; show g ≠ w.heap.size; omega)).other ⟨T, 0, none⟩ (.int .i64 t) (fun g o e => by have := hfar g o e; show g ≠ T; omega)
    have hold : ∀ g o, a = some ⟨g, o, none⟩ → g ≠ w.heap.size ∧ g ≠ T ∧ g ≠ X := fun g o e => by have := hfar g o e; omega
    go_upto_region 3 with fail
    clear hfar hra hltE hltT hltX hb01 hE1 hT1 hX1 e0 e1 e2 e3 e4 z0 z1 z2 z3 z4
    generalize (((w1.setCell ⟨w.heap.size, 0, none⟩ (.int .u64 x.ts)).setCell ⟨w.heap.size, 1, none⟩ (.int .u64 x.first)).setCell ⟨w.heap.size, 2, none⟩ (.slice a n c)).setCell ⟨T, 0, none⟩ (.int .i64 t) = w2 at *
    have hE3 : Blk w2 w.heap.size (entryCells x.ts x.first a n c) 27 := hE2
    have hT3 : Blk w2 T [.int .i64 t] 3 := hT2
    clear hE2 hT2
    obtain ⟨e0, e1, e2⟩ := entry_load hE3
    have e3 : w2.cell? ⟨T, 0, none⟩ = some (.int .i64 t) := by rw [hT3.cell]; rfl
    have e4 : w2.cell? ⟨X, 0, none⟩ = some (.int .i64 0) := by rw [hX2.cell]; rfl
    have z0 := hE3.free 0
    have z1 := hE3.free 1
    have z2 := hE3.free 2
    have z3 := hT3.free 0
    have z4 := hX2.free 0
    have g1 := Ne.symm h1
    have g2 := Ne.symm h2
    have g3 := Ne.symm h3
    go_region
    go_wp2_with fail
    refine leaves_cons (f := 37) (args := #[.pointer (some ⟨w.heap.size, 0, none⟩), .pointer (some ⟨T, 0, none⟩), .pointer (some ⟨X, 0, none⟩)]) (by simp) (by simp [go_sem]) ?_
    refine (decoded_idle w.heap.size T X _).mono ?_
    rintro e u' w3 ⟨rfl, rfl, rfl⟩
    have hE4 := ((((hE3.set 0 (.int .u64 x.ts)).set 1 (.int .u64 x.first)).set 2 (.slice a n c)).other ⟨T, 0, none⟩ (.int .i64 t) h1).other ⟨X, 0, none⟩ (.int .i64 0) h2
    have hT4 := ((((hT3.other ⟨w.heap.size, 0, none⟩ (.int .u64 x.ts) g1).other ⟨w.heap.size, 1, none⟩ (.int .u64 x.first) g1).other ⟨w.heap.size, 2, none⟩ (.slice a n c) g1).set 0 (.int .i64 t)).other ⟨X, 0, none⟩ (.int .i64 0) h3
    have hX4 := ((((hX2.other ⟨w.heap.size, 0, none⟩ (.int .u64 x.ts) g2).other ⟨w.heap.size, 1, none⟩ (.int .u64 x.first) g2).other ⟨w.heap.size, 2, none⟩ (.slice a n c) g2).other ⟨T, 0, none⟩ (.int .i64 t) g3).set 0 (.int .i64 0)
    have hb4 := ((((hb2.setCell (p := ⟨w.heap.size, 0, none⟩) (Nat.le_refl _) (.int .u64 x.ts)).setCell (p := ⟨w.heap.size, 1, none⟩) (Nat.le_refl _) (.int .u64 x.first)).setCell (p := ⟨w.heap.size, 2, none⟩) (Nat.le_refl _) (.slice a n c)).setCell (p := ⟨T, 0, none⟩) hlT (.int .i64 t)).setCell (p := ⟨X, 0, none⟩) hlX (.int .i64 0)
    have hr4 := ((((hr2.other ⟨w.heap.size, 0, none⟩ (.int .u64 x.ts) (fun g o e => (hold g o e).1)).other ⟨w.heap.size, 1, none⟩ (.int .u64 x.first) (fun g o e => (hold g o e).1)).other ⟨w.heap.size, 2, none⟩ (.slice a n c) (fun g o e => (hold g o e).1)).other ⟨T, 0, none⟩ (.int .i64 t) (fun g o e => (hold g o e).2.1)).other ⟨X, 0, none⟩ (.int .i64 0) (fun g o e => (hold g o e).2.2)
    rw [hro]
    refine ⟨_, results_cells3 rfl _ rfl rfl rfl hE4.drew hT4.drew hX4.drew, ?_, a, n, c, rfl, ?_⟩
    · exact below_drew hb4
    · exact recsAt_drew hr4
end Go.Proofs.Ytjlhkmkjegamdaa
