/-
  Rows of memory: a block whose first cells are known; what stores, new blocks and draws leave of it. No program. No condition.
-/
import Derived.WalkKit
import Derived.WalkSpells
import Derived.WalkLawsBesides
import Derived.Lib.Hide
namespace Go.Proofs.Ytlmojhhmfidmaaa
open Go.RowKit

theorem _root_.Go.RowKit.Below.on {a b c : World} (h : Below a.heap.size a b) (k : Below b.heap.size b c) : Below a.heap.size a c := h.trans (k.mono h.size)
theorem below_one {w w1 : World} (hb : Below w.heap.size w w1) (o : Obj) : Below w.heap.size w (w1.alloc o) := hb.alloc hb.size o
theorem setCell_twice (w : World) (a : Addr) (u v : Value) : (w.setCell a u).setCell a v = w.setCell a v := by
  have h : ((w.setCell a u).setCell a v).heap = (w.setCell a v).heap := by
    apply Array.ext_getElem?
    intro i
    simp only [World.setCell, Array.getElem?_modify]
    split
    · cases w.heap[i]? with
      | none => rfl
      | some o =>
        cases o <;> simp
        split <;> simp
    · rfl
  show ({ w with heap := ((w.setCell a u).setCell a v).heap } : World) = _
  rw [h]; rfl
theorem ret_int {k : IntKind} {a b : Int} (h : a = b) : Ending.returned (.int k a) = .returned (.int k b) := by rw [h]
theorem extract_list (l : List UInt8) (a b : Nat) : (ByteArray.mk l.toArray).extract a b = ⟨((l.drop a).take (b - a)).toArray⟩ := by
  simp [ByteArray.extract_mk]

/-- Block b is a row of cells of type E, the first of which are xs, not frozen. -/
def RowAt (w : World) (b : Nat) (E : TypeId) (xs : List Value) : Prop :=
  ∃ C lo hi, w.heap[b]? = some (.cells C E (lo, hi)) ∧ (lo = hi ∨ xs.length ≤ lo) ∧ C.toList.take xs.length = xs

theorem RowAt.lt {w : World} {b : Nat} {E : TypeId} {xs : List Value} (h : RowAt w b E xs) : b < w.heap.size := by
  obtain ⟨C, lo, hi, hh, _⟩ := h
  exact (Array.getElem?_eq_some_iff.1 hh).1
theorem RowAt.cell {w : World} {b : Nat} {E : TypeId} {xs : List Value} (h : RowAt w b E xs) {i : Nat} (hi : i < xs.length) : w.cell? ⟨b, i, none⟩ = some xs[i] := by
  obtain ⟨C, lo, hi', hh, _, hx⟩ := h
  have h1 : C.toList[i]? = some xs[i] := by
    have : (C.toList.take xs.length)[i]? = xs[i]? := by rw [hx]
    rw [List.getElem?_take_of_lt hi] at this
    rw [this, List.getElem?_eq_getElem hi]
  simp only [World.cell?, hh]
  simpa using h1
theorem RowAt.frozen {w : World} {b : Nat} {E : TypeId} {xs : List Value} (h : RowAt w b E xs) {i : Nat} (hi : i < xs.length) : w.frozen? ⟨b, i, none⟩ = false := by
  obtain ⟨C, lo, hi', hh, hf, _⟩ := h
  simp only [World.frozen?, hh]
  rcases hf with rfl | hf <;> simp <;> omega
theorem RowAt.of_block {w w' : World} {b : Nat} {E : TypeId} {xs : List Value} (h : RowAt w b E xs) (hb : w'.heap[b]? = w.heap[b]?) : RowAt w' b E xs := by
  obtain ⟨C, lo, hi', hh, r⟩ := h
  exact ⟨C, lo, hi', by rw [hb]; exact hh, r⟩
theorem RowAt.drew {w : World} {b : Nat} {E : TypeId} {xs : List Value} (h : RowAt w b E xs) : RowAt w.drew b E xs := h
theorem RowAt.alloc {w : World} {b : Nat} {E : TypeId} {xs : List Value} (h : RowAt w b E xs) (o : Obj) : RowAt (w.alloc o) b E xs :=
  h.of_block (Below.heap_alloc w o b h.lt)
theorem RowAt.below {w w' : World} {b B : Nat} {E : TypeId} {xs : List Value} (h : RowAt w b E xs) (hb : Below B w w') (hB : b < B) : RowAt w' b E xs :=
  h.of_block (hb.block b hB)
theorem RowAt.on {w w' : World} {b : Nat} {E : TypeId} {xs : List Value} (h : RowAt w b E xs) (hb : Below w.heap.size w w') : RowAt w' b E xs := h.below hb h.lt
theorem RowAt.other {w : World} {b : Nat} {E : TypeId} {xs : List Value} (h : RowAt w b E xs) (a : Addr) (v : Value) (hne : b ≠ a.block) : RowAt (w.setCell a v) b E xs :=
  h.of_block (Below.heap_setCell w a v b hne)
theorem RowAt.set {w : World} {b : Nat} {E : TypeId} {xs : List Value} (h : RowAt w b E xs) (i : Nat) (v : Value) : RowAt (w.setCell ⟨b, i, none⟩ v) b E (xs.set i v) := by
  obtain ⟨C, lo, hi', hh, hf, hx⟩ := h
  refine ⟨C.setIfInBounds i v, lo, hi', ?_, by rw [List.length_set]; exact hf, ?_⟩
  · simp only [World.setCell, Array.getElem?_modify, hh]
    simp
  · rw [List.length_set, Array.toList_setIfInBounds, List.take_set, hx]
theorem RowAt.new (w : World) (C : Array Value) (E : TypeId) : RowAt (w.alloc (.cells C E)) w.heap.size E C.toList := by
  refine ⟨C, 0, 0, ?_, .inl rfl, by rw [List.take_of_length_le (Nat.le_refl _)]⟩
  show (w.heap.push _)[w.heap.size]? = _
  simp

/-- The cell of a byte. -/
def bv (c : UInt8) : Value := .int .u8 (c.toNat : Int)

theorem map_bv_length (l : List UInt8) : (l.map bv).length = l.length := by simp
theorem RowAt.byte {w : World} {b : Nat} {E : TypeId} {l : List UInt8} (h : RowAt w b E (l.map bv)) {i : Nat} (hi : i < l.length) : w.cell? ⟨b, i, none⟩ = some (.int .u8 (l[i].toNat : Int)) := by
  rw [h.cell (by simpa using hi)]; simp [bv]
theorem RowAt.byteFree {w : World} {b : Nat} {E : TypeId} {l : List UInt8} (h : RowAt w b E (l.map bv)) {i : Nat} (hi : i < l.length) : w.frozen? ⟨b, i, none⟩ = false := h.frozen (by simpa using hi)
theorem RowAt.setByte {w : World} {b : Nat} {E : TypeId} {l : List UInt8} (h : RowAt w b E (l.map bv)) (i : Nat) (c : UInt8) : RowAt (w.setCell ⟨b, i, none⟩ (.int .u8 (c.toNat : Int))) b E ((l.set i c).map bv) := by
  rw [List.map_set]; exact h.set i (bv c)

/-- '[]byte(s)': a new row of the bytes. -/
theorem conv_bytes {P : Program} (w : World) (src dst E : TypeId) (l : List UInt8) (hs : P.underlying src = some .string) (hd : P.underlying dst = some (.slice E)) (he : P.underlying E = some (.int .u8)) :
    ∃ cap w', (convert src dst (.string ⟨l.toArray⟩)).run P w = .ok (.slice (some ⟨w.heap.size, 0, none⟩) l.length cap) w' ∧ RowAt w' w.heap.size E (l.map bv) ∧ Below w.heap.size w w' ∧ w'.heap.size = w.heap.size + 1 ∧ l.length ≤ cap := by
  have h := run_bytes_of_string (P := P) w src dst E ⟨l.toArray⟩ hs hd he
  have e : (ByteArray.mk l.toArray).size = l.length := by simp [ByteArray.size]
  rw [e] at h
  have hc := grownCap_ge w l.length 0 E
  generalize grownCap w l.length 0 E = cap at *
  refine ⟨cap, _, h, ?_, ?_, ?_, hc⟩
  · have hsz : l.length ≤ (bytesRow ⟨l.toArray⟩ cap).size := by simp [bytesRow]
    refine ⟨bytesRow ⟨l.toArray⟩ cap, (bytesRow ⟨l.toArray⟩ cap).size, (bytesRow ⟨l.toArray⟩ cap).size + 1, ?_, .inr ?_, ?_⟩
    · show (w.heap.push _)[w.heap.size]? = _
      simp
    · simpa using hsz
    · have e2 : (bytesRow ⟨l.toArray⟩ cap).toList = l.map bv ++ List.replicate (cap - (ByteArray.mk l.toArray).size) (.int .u8 0) := by
        simp [bytesRow]; intro _ _; rfl
      rw [e2, List.take_left]
  · exact (Below.refl _ _).drew.alloc (Nat.le_refl _) _
  · simp
/-- 'string(b)': the row's bytes. -/
theorem conv_string {P : Program} {w : World} {b : Nat} {E : TypeId} {l : List UInt8} (h : RowAt w b E (l.map bv)) (src dst : TypeId) (cap : Nat)
    (hs : P.underlying src = some (.slice E)) (he : P.underlying E = some (.int .u8)) (hd : P.underlying dst = some .string) :
    (convert src dst (.slice (some ⟨b, 0, none⟩) l.length cap)).run P w = .ok (.string ⟨l.toArray⟩) w :=
  run_convert_bytes_back w src dst E ⟨b, 0, none⟩ cap l hs he hd (fun j hj => by
    have hp : (⟨b, 0, none⟩ : Addr).add j = ⟨b, j, none⟩ := by unfold Addr.add; split <;> simp_all
    rw [hp]; exact h.byte hj)
end Go.Proofs.Ytlmojhhmfidmaaa
