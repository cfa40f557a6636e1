/-
  The document's reader of layer 6: what stands behind some operations. No condition.
-/
import Derived.Test.YtjlhkmkjegamdaaRef6P
namespace Go.Proofs.Ytjlhkmkjegamdaa
set_option linter.unusedVariables false
set_option linter.unusedSimpArgs false
open Go.RowKit

/-- What stands behind k operations. -/
structure QTo (B E Q a b c : Nat) (rc : Wire.Rd) (k : Nat) (rs : List Rec) (v : Value) (r : Wire.Rd) (wr : World) : Prop where
  lt : E < B ∧ Q < B ∧ E ≠ Q ∧ B ≤ wr.heap.size
  entry : Blk wr E [.int .u64 a, .int .u64 b, v] 27
  own : wr.ownsRow B 24 4 v k (recsCells rs)
  len : rs.length = k
  rd : QdAt wr Q r
  short : Wire.Rd.short r
  oks : ∀ x ∈ rs, x.ok
  all : refOps b c 7 0 rc = rs ++ refOps b c (7 - k) k r
theorem QTo.start {B E Q a b c : Nat} {rc : Wire.Rd} {w : World} (hE : Blk w E (entryCells a b none 0 0) 27) (hr : QdAt w Q rc) (h1 : E < w.heap.size) (h2 : Q < w.heap.size) (hs : Wire.Rd.short rc) (hb : b < U64) (hne : E ≠ Q := by omega) (hB : B = w.heap.size := by rfl) :
    QTo B E Q a b c rc 0 [] (.slice none 0 0) rc w := by
  subst hB
  refine ⟨⟨h1, h2, hne, Nat.le_refl _⟩, hE, World.ownsRow_nil _ _ _ _, rfl, hr, hs, (by simp), ?_⟩
  simp
theorem QTo.first {B E Q a b c : Nat} {rc : Wire.Rd} {k : Nat} {rs : List Rec} {v : Value} {r : Wire.Rd} {wr : World} (h : QTo B E Q a b c rc k rs v r wr) : wr.cell? ⟨E, 1, none⟩ = some (.int .u64 b) := by
  rw [h.entry.cell]; rfl
/-- The entry and its operations stay where only the reader and new memory are written. -/
theorem QTo.kept {B E Q a b c : Nat} {rc : Wire.Rd} {k : Nat} {rs : List Rec} {v : Value} {r : Wire.Rd} {wr w' : World} {S : List Nat} (h : QTo B E Q a b c rc k rs v r wr) (hm : Mod S wr w') (hS : ∀ s ∈ S, s = Q ∨ wr.heap.size ≤ s) :
    Blk w' E [.int .u64 a, .int .u64 b, v] 27 ∧ w'.ownsRow B 24 4 v k (recsCells rs) := by
  obtain ⟨h1, h2, h3, h4⟩ := h.lt
  refine ⟨h.entry.mod hm (fun hin => ?_), ownsRow_mod h.own hm (fun s hs e => ?_)⟩
  · rcases hS E hin with e | e <;> omega
  · have := h.own.lt s e
    rcases hS s hs with e | e <;> omega
/-- A new record with a key and an LSN, beside a reader that went on. -/
def QNewRec (wr : World) (Q : Nat) (key : List UInt8) (lsn : Nat) (r : Wire.Rd) (s10 : Value) (wx : World) : Prop :=
  ∃ X, s10 = .pointer (some ⟨X, 0, none⟩) ∧ wr.heap.size ≤ X ∧ Blk wx X [.string ⟨key.toArray⟩, .int .u64 lsn, .bool false, .string ⟨[].toArray⟩] 24 ∧ QdAt wx Q r ∧ Mod [Q] wr wx
theorem qText_keep (b : Nat) (r : Wire.Rd) (w : World) (hR : QdAt w b r) (hl : Wire.Rd.short r) (E i : Nat) (u : Value) (h1 : w.cell? ⟨E, i, none⟩ = some u) (hne : E ≠ b ∧ E < w.heap.size) :
    Calls Try.prog 40 #[.pointer (some ⟨b, 0, none⟩)] w fun e w' => e = .returned (.string ⟨(Wire.rText r).1.toArray⟩) ∧ QdAt w' b (Wire.rText r).2 ∧ Mod [b] w w' ∧ w'.cell? ⟨E, i, none⟩ = some u :=
  (qText_any b r w hR hl).mono fun e w' ⟨h2, h3, h4⟩ => ⟨h2, h3, h4, (h4.cell hne.2 (by simpa using hne.1)).trans h1⟩

theorem qText_keepX (b : Nat) (r : Wire.Rd) (w : World) (hR : QdAt w b r) (hl : Wire.Rd.short r) (E i : Nat) (u : Value) (h1 : w.cell? ⟨E, i, none⟩ = some u) (hne : E ≠ b ∧ E < w.heap.size) (X : Nat) (c0 c1 c2 c3 : Value) (T : TypeId) (hX : Blk w X [c0, c1, c2, c3] T) (hXb : X ≠ b) :
    Calls Try.prog 40 #[.pointer (some ⟨b, 0, none⟩)] w fun e w' => e = .returned (.string ⟨(Wire.rText r).1.toArray⟩) ∧ QdAt w' b (Wire.rText r).2 ∧ Mod [b] w w' ∧ w'.cell? ⟨E, i, none⟩ = some u ∧
      w'.cell? ⟨X, 0, none⟩ = some c0 ∧ w'.cell? ⟨X, 1, none⟩ = some c1 ∧ w'.cell? ⟨X, 2, none⟩ = some c2 ∧ w'.cell? ⟨X, 3, none⟩ = some c3 ∧
      w'.frozen? ⟨X, 0, none⟩ = false ∧ w'.frozen? ⟨X, 1, none⟩ = false ∧ w'.frozen? ⟨X, 2, none⟩ = false ∧ w'.frozen? ⟨X, 3, none⟩ = false ∧ Blk w' X [c0, c1, c2, c3] T :=
  (qText_keep b r w hR hl E i u h1 hne).mono fun e w' ⟨h2, h3, h4, h5⟩ => by
    have hB := hX.mod h4 (by simpa using hXb)
    refine ⟨h2, h3, h4, h5, ?_, ?_, ?_, ?_, hB.free _, hB.free _, hB.free _, hB.free _, hB⟩ <;> (rw [hB.cell]; rfl)

theorem qnewRec_a {wr w' : World} {Q : Nat} {r : Wire.Rd} (hr : QdAt w' Q r) (hm : Mod [Q] wr.drew w') (key : List UInt8) (lsn : Nat) (z : Int) (hz : z = lsn) :
    QNewRec wr Q key lsn r (.pointer (some ⟨w'.heap.size, 0, none⟩)) (w'.alloc (.cells #[.string ⟨key.toArray⟩, .int .u64 z, .bool false, .string ⟨#[]⟩] 24)) := by
  subst hz
  exact ⟨_, rfl, hm.size, Blk.new _ _ _, hr.alloc _, (show Mod [Q] wr w' from ⟨hm.os, hm.tape, hm.output, hm.size, hm.block⟩).alloc _⟩
theorem qnewRec_b {wr w' : World} {Q : Nat} {r : Wire.Rd} {o : Obj} {c0 c1 c2 c3 : Value} (hr : QdAt w' Q r) (hm : Mod [Q] (wr.alloc o).drew w') (hX : Blk w' wr.heap.size [c0, c1, c2, c3] 24) (hne : Q ≠ wr.heap.size) (key : List UInt8) (lsn : Nat) (z : Int) (hz : z = lsn) :
    QNewRec wr Q key lsn r (.pointer (some ⟨wr.heap.size, 0, none⟩)) ((((w'.setCell ⟨wr.heap.size, 0, none⟩ (.string ⟨key.toArray⟩)).setCell ⟨wr.heap.size, 1, none⟩ (.int .u64 z)).setCell ⟨wr.heap.size, 2, none⟩ (.bool false)).setCell ⟨wr.heap.size, 3, none⟩ (.string ⟨#[]⟩)) := by
  subst hz
  have h1 := (((hX.set 0 (.string ⟨key.toArray⟩)).set 1 (.int .u64 lsn)).set 2 (.bool false)).set 3 (.string ⟨#[]⟩)
  have hm0 : Mod [Q] wr w' := ((Mod.refl [Q] wr).alloc o).trans (show Mod [Q] (wr.alloc o) w' from ⟨hm.os, hm.tape, hm.output, hm.size, hm.block⟩)
  refine ⟨wr.heap.size, rfl, Nat.le_refl _, h1, ?_, ?_⟩
  · exact Blk.other (Blk.other (Blk.other (Blk.other hr _ _ hne) _ _ hne) _ _ hne) _ _ hne
  · exact (((hm0.setCell _ _ (.inr (Nat.le_refl _))).setCell _ _ (.inr (Nat.le_refl _))).setCell _ _ (.inr (Nat.le_refl _))).setCell _ _ (.inr (Nat.le_refl _))

theorem QTo.recs {B E Q a b c : Nat} {rc : Wire.Rd} {k : Nat} {rs : List Rec} {v : Value} {r : Wire.Rd} {wr : World} (h : QTo B E Q a b c rc k rs v r wr) (hk : k ≤ 1000) :
    ∃ p n cp, v = .slice p n cp ∧ RecsAt wr p n cp rs ∧ ∀ g o, p = some ⟨g, o, none⟩ → B ≤ g := by
  have hl := h.len
  rcases ownsRow_shape h.own with ⟨rfl, rfl⟩ | ⟨g, cap, cur, rfl, hg, hh, hc, _⟩
  · exact ⟨none, 0, 0, rfl, ⟨hl, by omega, by omega, by omega⟩, fun g o e => by cases e⟩
  · refine ⟨_, k, cap, rfl, ⟨hl, hc, by omega, fun hn => ⟨g, 0, rfl, hh, fun i hi => ?_⟩⟩, fun g o e => by cases e; exact hg⟩
    have hc := h.own.cellAt
    have e0 := recs_get rs i hi 0 (by omega)
    have e1 := recs_get rs i hi 1 (by omega)
    have e2 := recs_get rs i hi 2 (by omega)
    have e3 := recs_get rs i hi 3 (by omega)
    refine ⟨?_, ?_, ?_, ?_⟩
    · rw [Nat.zero_add, hc _ (by omega)]; exact e0
    · rw [Nat.zero_add, hc _ (by omega)]; exact e1
    · rw [Nat.zero_add, hc _ (by omega)]; exact e2
    · rw [Nat.zero_add, hc _ (by omega)]; exact e3
end Go.Proofs.Ytjlhkmkjegamdaa
