/-
  Rows of memory: a block whose first cells are known; what stores, new blocks and draws leave of it. No program. No condition.
-/
import Derived.WalkKit
import Derived.WalkSpells
import Derived.WalkLawsBesides
import Derived.Lib.Hide
import Derived.Lib.BufferWrite
namespace Go.Proofs.Ytffianjbljgnaaa
set_option linter.unusedVariables false
set_option linter.unusedSimpArgs false
open Go.RowKit

theorem _root_.Go.RowKit.Below.on {a b c : World} (h : Below a.heap.size a b) (k : Below b.heap.size b c) : Below a.heap.size a c := h.trans (k.mono h.size)
theorem below_one {w w1 : World} (hb : Below w.heap.size w w1) (o : Obj) : Below w.heap.size w (w1.alloc o) := hb.alloc hb.size o
theorem setCell_twice (w : World) (a : Addr) (u v : Value) : (w.setCell a u).setCell a v = w.setCell a v := by
  have h : ((w.setCell a u).setCell a v).heap = (w.setCell a v).heap := by
    apply Array.ext_getElem?
    intro i
    simp only [World.setCell, Array.getElem?_modify]
    split
    · cases w.heap[i]? with
      | none => rfl
      | some o =>
        cases o <;> simp
        split <;> simp
    · rfl
  show ({ w with heap := ((w.setCell a u).setCell a v).heap } : World) = _
  rw [h]; rfl
theorem ret_int {k : IntKind} {a b : Int} (h : a = b) : Ending.returned (.int k a) = .returned (.int k b) := by rw [h]
theorem extract_list (l : List UInt8) (a b : Nat) : (ByteArray.mk l.toArray).extract a b = ⟨((l.drop a).take (b - a)).toArray⟩ := by
  simp [ByteArray.extract_mk]

/-- Block b is a row of cells of type E, the first of which are xs, not frozen. -/
def RowAt (w : World) (b : Nat) (E : TypeId) (xs : List Value) : Prop :=
  ∃ C lo hi, w.heap[b]? = some (.cells C E (lo, hi)) ∧ (lo = hi ∨ xs.length ≤ lo) ∧ C.toList.take xs.length = xs

theorem RowAt.lt {w : World} {b : Nat} {E : TypeId} {xs : List Value} (h : RowAt w b E xs) : b < w.heap.size := by
  obtain ⟨C, lo, hi, hh, _⟩ := h
  exact (Array.getElem?_eq_some_iff.1 hh).1
theorem RowAt.cell {w : World} {b : Nat} {E : TypeId} {xs : List Value} (h : RowAt w b E xs) {i : Nat} (hi : i < xs.length) : w.cell? ⟨b, i, none⟩ = some xs[i] := by
  obtain ⟨C, lo, hi', hh, _, hx⟩ := h
  have h1 : C.toList[i]? = some xs[i] := by
    have : (C.toList.take xs.length)[i]? = xs[i]? := by rw [hx]
    rw [List.getElem?_take_of_lt hi] at this
    rw [this, List.getElem?_eq_getElem hi]
  simp only [World.cell?, hh]
  simpa using h1
theorem RowAt.frozen {w : World} {b : Nat} {E : TypeId} {xs : List Value} (h : RowAt w b E xs) {i : Nat} (hi : i < xs.length) : w.frozen? ⟨b, i, none⟩ = false := by
  obtain ⟨C, lo, hi', hh, hf, _⟩ := h
  simp only [World.frozen?, hh]
  rcases hf with rfl | hf <;> simp <;> omega
theorem RowAt.of_block {w w' : World} {b : Nat} {E : TypeId} {xs : List Value} (h : RowAt w b E xs) (hb : w'.heap[b]? = w.heap[b]?) : RowAt w' b E xs := by
  obtain ⟨C, lo, hi', hh, r⟩ := h
  exact ⟨C, lo, hi', by rw [hb]; exact hh, r⟩
theorem RowAt.drew {w : World} {b : Nat} {E : TypeId} {xs : List Value} (h : RowAt w b E xs) : RowAt w.drew b E xs := h
theorem RowAt.alloc {w : World} {b : Nat} {E : TypeId} {xs : List Value} (h : RowAt w b E xs) (o : Obj) : RowAt (w.alloc o) b E xs :=
  h.of_block (Below.heap_alloc w o b h.lt)
theorem RowAt.below {w w' : World} {b B : Nat} {E : TypeId} {xs : List Value} (h : RowAt w b E xs) (hb : Below B w w') (hB : b < B) : RowAt w' b E xs :=
  h.of_block (hb.block b hB)
theorem RowAt.on {w w' : World} {b : Nat} {E : TypeId} {xs : List Value} (h : RowAt w b E xs) (hb : Below w.heap.size w w') : RowAt w' b E xs := h.below hb h.lt
theorem RowAt.other {w : World} {b : Nat} {E : TypeId} {xs : List Value} (h : RowAt w b E xs) (a : Addr) (v : Value) (hne : b ≠ a.block) : RowAt (w.setCell a v) b E xs :=
  h.of_block (Below.heap_setCell w a v b hne)
theorem RowAt.set {w : World} {b : Nat} {E : TypeId} {xs : List Value} (h : RowAt w b E xs) (i : Nat) (v : Value) : RowAt (w.setCell ⟨b, i, none⟩ v) b E (xs.set i v) := by
  obtain ⟨C, lo, hi', hh, hf, hx⟩ := h
  refine ⟨C.setIfInBounds i v, lo, hi', ?_, by rw [List.length_set]; exact hf, ?_⟩
  · simp only [World.setCell, Array.getElem?_modify, hh]
    simp
  · rw [List.length_set, Array.toList_setIfInBounds, List.take_set, hx]
theorem RowAt.new (w : World) (C : Array Value) (E : TypeId) : RowAt (w.alloc (.cells C E)) w.heap.size E C.toList := by
  refine ⟨C, 0, 0, ?_, .inl rfl, by rw [List.take_of_length_le (Nat.le_refl _)]⟩
  show (w.heap.push _)[w.heap.size]? = _
  simp

/-- The cell of a byte. -/
def bv (c : UInt8) : Value := .int .u8 (c.toNat : Int)

theorem map_bv_length (l : List UInt8) : (l.map bv).length = l.length := by simp
theorem RowAt.byte {w : World} {b : Nat} {E : TypeId} {l : List UInt8} (h : RowAt w b E (l.map bv)) {i : Nat} (hi : i < l.length) : w.cell? ⟨b, i, none⟩ = some (.int .u8 (l[i].toNat : Int)) := by
  rw [h.cell (by simpa using hi)]; simp [bv]
theorem RowAt.byteFree {w : World} {b : Nat} {E : TypeId} {l : List UInt8} (h : RowAt w b E (l.map bv)) {i : Nat} (hi : i < l.length) : w.frozen? ⟨b, i, none⟩ = false := h.frozen (by simpa using hi)
theorem RowAt.setByte {w : World} {b : Nat} {E : TypeId} {l : List UInt8} (h : RowAt w b E (l.map bv)) (i : Nat) (c : UInt8) : RowAt (w.setCell ⟨b, i, none⟩ (.int .u8 (c.toNat : Int))) b E ((l.set i c).map bv) := by
  rw [List.map_set]; exact h.set i (bv c)

/-- '[]byte(s)': a new row of the bytes. -/
theorem conv_bytes {P : Program} (w : World) (src dst E : TypeId) (l : List UInt8) (hs : P.underlying src = some .string) (hd : P.underlying dst = some (.slice E)) (he : P.underlying E = some (.int .u8)) :
    ∃ cap w', (convert src dst (.string ⟨l.toArray⟩)).run P w = .ok (.slice (some ⟨w.heap.size, 0, none⟩) l.length cap) w' ∧ RowAt w' w.heap.size E (l.map bv) ∧ Below w.heap.size w w' ∧ w'.heap.size = w.heap.size + 1 ∧ l.length ≤ cap := by
  have h := run_bytes_of_string (P := P) w src dst E ⟨l.toArray⟩ hs hd he
  have e : (ByteArray.mk l.toArray).size = l.length := by simp [ByteArray.size]
  rw [e] at h
  have hc := grownCap_ge w l.length 0 E
  generalize grownCap w l.length 0 E = cap at *
  refine ⟨cap, _, h, ?_, ?_, ?_, hc⟩
  · have hsz : l.length ≤ (bytesRow ⟨l.toArray⟩ cap).size := by simp [bytesRow]
    refine ⟨bytesRow ⟨l.toArray⟩ cap, (bytesRow ⟨l.toArray⟩ cap).size, (bytesRow ⟨l.toArray⟩ cap).size + 1, ?_, .inr ?_, ?_⟩
    · show (w.heap.push _)[w.heap.size]? = _
      simp
    · simpa using hsz
    · have e2 : (bytesRow ⟨l.toArray⟩ cap).toList = l.map bv ++ List.replicate (cap - (ByteArray.mk l.toArray).size) (.int .u8 0) := by
        simp [bytesRow]; intro _ _; rfl
      rw [e2, List.take_left]
  · exact (Below.refl _ _).drew.alloc (Nat.le_refl _) _
  · simp
/-- 'string(b)': the row's bytes. -/
theorem conv_string {P : Program} {w : World} {b : Nat} {E : TypeId} {l : List UInt8} (h : RowAt w b E (l.map bv)) (src dst : TypeId) (cap : Nat)
    (hs : P.underlying src = some (.slice E)) (he : P.underlying E = some (.int .u8)) (hd : P.underlying dst = some .string) :
    (convert src dst (.slice (some ⟨b, 0, none⟩) l.length cap)).run P w = .ok (.string ⟨l.toArray⟩) w :=
  run_convert_bytes_back w src dst E ⟨b, 0, none⟩ cap l hs he hd (fun j hj => by
    have hp : (⟨b, 0, none⟩ : Addr).add j = ⟨b, j, none⟩ := by unfold Addr.add; split <;> simp_all
    rw [hp]; exact h.byte hj)

/-! ### What may have changed -/
/-- Of what was there, only the blocks of S may have changed. -/
structure Mod (S : List Nat) (w w' : World) : Prop where
  os : w'.os = w.os
  tape : w'.tape = w.tape
  output : w'.output = w.output
  size : w.heap.size ≤ w'.heap.size
  block : ∀ k, k < w.heap.size → k ∉ S → w'.heap[k]? = w.heap[k]?
theorem Mod.refl (S : List Nat) (w : World) : Mod S w w := ⟨rfl, rfl, rfl, Nat.le_refl _, fun _ _ _ => rfl⟩
theorem Mod.on {S S' : List Nat} {a b c : World} (h : Mod S a b) (k : Mod S' b c) (hS : ∀ x ∈ S', x ∈ S ∨ a.heap.size ≤ x) : Mod S a c :=
  ⟨k.os.trans h.os, k.tape.trans h.tape, k.output.trans h.output, Nat.le_trans h.size k.size, fun i hi hn =>
    (k.block i (Nat.lt_of_lt_of_le hi h.size) (fun hm => (hS i hm).elim hn (fun e => by omega))).trans (h.block i hi hn)⟩
theorem Mod.trans {S : List Nat} {a b c : World} (h : Mod S a b) (k : Mod S b c) : Mod S a c := h.on k (fun _ hx => .inl hx)
theorem Mod.mono {S S' : List Nat} {a b : World} (h : Mod S a b) (hS : ∀ x ∈ S, x ∈ S' ∨ a.heap.size ≤ x) : Mod S' a b :=
  ⟨h.os, h.tape, h.output, h.size, fun i hi hn => h.block i hi (fun hm => (hS i hm).elim hn (fun e => by omega))⟩
theorem Mod.of_below {S : List Nat} {w w' : World} (h : Below w.heap.size w w') : Mod S w w' := ⟨h.os, h.tape, h.output, h.size, fun k hk _ => h.block k hk⟩
theorem Mod.thenBelow {S : List Nat} {a b c : World} (h : Mod S a b) (k : Below b.heap.size b c) : Mod S a c := h.trans (Mod.of_below k)
theorem Mod.below {S : List Nat} {w w' : World} {B : Nat} (h : Mod S w w') (hS : ∀ x ∈ S, B ≤ x) (hB : B ≤ w.heap.size) : Below B w w' :=
  ⟨h.os, h.tape, h.output, h.size, fun k hk => h.block k (Nat.lt_of_lt_of_le hk hB) (fun hm => by have := hS k hm; omega)⟩
/-- What is written was new. -/
theorem Mod.fresh {S : List Nat} {a b c : World} (h : Below a.heap.size a b) (k : Mod S b c) (hS : ∀ x ∈ S, a.heap.size ≤ x) : Below a.heap.size a c :=
  h.trans (k.below hS h.size)
theorem Mod.drew {S : List Nat} {a b : World} (h : Mod S a b) : Mod S a b.drew := ⟨h.os, h.tape, h.output, h.size, h.block⟩
theorem Mod.alloc {S : List Nat} {a b : World} (h : Mod S a b) (o : Obj) : Mod S a (b.alloc o) := h.thenBelow ((Below.refl _ _).alloc (Nat.le_refl _) o)
theorem Mod.setCell {S : List Nat} {a b : World} (h : Mod S a b) (p : Addr) (v : Value) (hp : p.block ∈ S ∨ a.heap.size ≤ p.block) : Mod S a (b.setCell p v) :=
  h.on (S' := [p.block]) ⟨rfl, rfl, rfl, by simp [World.setCell], fun k _ hn => Below.heap_setCell _ _ _ _ (by simpa using hn)⟩ (fun x hx => by
    rw [List.mem_singleton] at hx; subst hx; exact hp)
theorem Mod.grown {S : List Nat} {a b c : World} {row : Option Nat} (h : Mod S a b) (hg : b.grownBy c row) (hr : ∀ k, row = some k → k ∈ S ∨ a.heap.size ≤ k) : Mod S a c :=
  h.on (S' := row.toList) ⟨hg.os, hg.tape, hg.output, hg.size, fun k hk hn => hg.block k hk (fun e => hn (by rw [← e]; simp))⟩ (fun x hx => hr x (by simpa using hx))
theorem Mod.cell {S : List Nat} {w w' : World} (h : Mod S w w') {b i : Nat} (hb : b < w.heap.size) (hn : b ∉ S) : w'.cell? ⟨b, i, none⟩ = w.cell? ⟨b, i, none⟩ := World.cell?_of_block (h.block b hb hn)
theorem Mod.frozen {S : List Nat} {w w' : World} (h : Mod S w w') {b i : Nat} (hb : b < w.heap.size) (hn : b ∉ S) : w'.frozen? ⟨b, i, none⟩ = w.frozen? ⟨b, i, none⟩ := World.frozen?_of_block (h.block b hb hn)
theorem RowAt.mod {S : List Nat} {w w' : World} {b : Nat} {E : TypeId} {xs : List Value} (h : RowAt w b E xs) (hm : Mod S w w') (hn : b ∉ S) : RowAt w' b E xs := h.of_block (hm.block b h.lt hn)

/-- A block that is known whole, and free. -/
def Blk (w : World) (b : Nat) (C : List Value) (T : TypeId) : Prop := w.heap[b]? = some (.cells C.toArray T (0, 0))
theorem Blk.lt {w : World} {b : Nat} {C : List Value} {T : TypeId} (h : Blk w b C T) : b < w.heap.size := (Array.getElem?_eq_some_iff.1 h).1
theorem Blk.cell {w : World} {b : Nat} {C : List Value} {T : TypeId} (h : Blk w b C T) (i : Nat) : w.cell? ⟨b, i, none⟩ = C[i]? := by
  unfold Blk at h
  simp [World.cell?, h]
theorem Blk.free {w : World} {b : Nat} {C : List Value} {T : TypeId} (h : Blk w b C T) (i : Nat) : w.frozen? ⟨b, i, none⟩ = false := by
  unfold Blk at h
  simp [World.frozen?, h]
theorem Blk.set {w : World} {b : Nat} {C : List Value} {T : TypeId} (h : Blk w b C T) (i : Nat) (v : Value) : Blk (w.setCell ⟨b, i, none⟩ v) b (C.set i v) T := by
  unfold Blk at *
  simp only [World.setCell, Array.getElem?_modify, h]
  simp
theorem Blk.of_block {w w' : World} {b : Nat} {C : List Value} {T : TypeId} (h : Blk w b C T) (hb : w'.heap[b]? = w.heap[b]?) : Blk w' b C T := by
  unfold Blk at *; rw [hb]; exact h
theorem Blk.other {w : World} {b : Nat} {C : List Value} {T : TypeId} (h : Blk w b C T) (a : Addr) (v : Value) (hne : b ≠ a.block) : Blk (w.setCell a v) b C T := h.of_block (Below.heap_setCell w a v b hne)
theorem Blk.mod {S : List Nat} {w w' : World} {b : Nat} {C : List Value} {T : TypeId} (h : Blk w b C T) (hm : Mod S w w') (hn : b ∉ S) : Blk w' b C T := h.of_block (hm.block b h.lt hn)
theorem Blk.on {w w' : World} {b : Nat} {C : List Value} {T : TypeId} (h : Blk w b C T) (hb : Below w.heap.size w w') : Blk w' b C T := h.of_block (hb.block b h.lt)
theorem Blk.alloc {w : World} {b : Nat} {C : List Value} {T : TypeId} (h : Blk w b C T) (o : Obj) : Blk (w.alloc o) b C T := h.of_block (Below.heap_alloc w o b h.lt)
theorem Blk.drew {w : World} {b : Nat} {C : List Value} {T : TypeId} (h : Blk w b C T) : Blk w.drew b C T := h
theorem Blk.new (w : World) (C : List Value) (T : TypeId) : Blk (w.alloc (.cells C.toArray T)) w.heap.size C T := by
  unfold Blk
  show (w.heap.push _)[w.heap.size]? = _
  simp
theorem Blk.row {w : World} {b : Nat} {C : List Value} {T : TypeId} (h : Blk w b C T) : RowAt w b T C := ⟨C.toArray, 0, 0, h, .inl rfl, by simp⟩

/-- 'make([]E, n)', E's zero value one cell. -/
theorem make_row {P : Program} (w : World) (t E : TypeId) (i : TypeInfo) (z : Value) (n : Nat) (ht : P.underlying t = some (.slice E)) (hi : P.info? E = some i) (hz : i.zero = some z) (hc : z.cells = #[z]) (hsz : i.size = 1)
    (kl kc : IntKind) (hbytes : i.bytes * n ≤ 281474976710656) (h63 : n ≤ 9223372036854775807) :
    ∃ w', (Instr.makeSlice t (.int kl (n : Int)) (.int kc (n : Int))).run P w = .ok (.slice (some ⟨w.heap.size, 0, none⟩) n n) w' ∧ Blk w' w.heap.size (List.replicate n z) E ∧ Below w.heap.size w w' ∧ w'.heap.size = w.heap.size + 1 := by
  have h := run_make (P := P) w t E i z ht hi hz kl kc n n (by omega) (by omega) (by have : ((i.bytes * n : Nat) : Int) ≤ 281474976710656 := by omega
                                                                                     simpa using this) (by omega)
  refine ⟨_, by simpa using h, ?_, (Below.refl _ _).alloc (Nat.le_refl _) _, by simp⟩
  have e : madeCells z.cells (n * i.size) = (List.replicate n z).toArray := by
    rw [hc, hsz, Nat.mul_one]
    apply Array.ext'
    rw [toList_madeCells_one]
  have e2 : madeCells z.cells (Int.toNat (n : Int) * i.size) = (List.replicate n z).toArray := by simpa using e
  simp only [Int.toNat_natCast] at *
  rw [e]
  exact Blk.new _ _ _

theorem setRow_size (w : World) (g : Nat) (cs : Array Value) : (w.setRow g cs).heap.size = w.heap.size := by simp [World.setRow]
theorem setRow_mod (w : World) (g : Nat) (cs : Array Value) : Mod [g] w (w.setRow g cs) :=
  ⟨rfl, rfl, rfl, by rw [setRow_size]; exact Nat.le_refl _, fun k _ hn => setRow_other w g k cs (by simpa using hn)⟩
theorem setRow_blk {w : World} {g : Nat} {C : List Value} {T : TypeId} (h : Blk w g C T) (D : List Value) : Blk (w.setRow g D.toArray) g D T := setRow_heap w g _ _ _ _ h

/-- 'copy(b[o:], s)' of a string that fits. -/
theorem copy_str {P : Program} {w : World} {g : Nat} {C : List Value} {T : TypeId} (h : Blk w g C T) (dT sT ty E : TypeId) (o dLen dCap : Nat) (s : List UInt8)
    (hu : P.underlying dT = some (.slice E)) (hs : (P.info? E).map (·.size) = some 1) (hle : s.length ≤ dLen) (hfit : o + s.length ≤ C.length) :
    ∃ w', (Builtin.copy_ #[dT, sT] ty #[.slice (some ⟨g, o, none⟩) dLen dCap, .string ⟨s.toArray⟩]).run P w = .ok (.int .i64 s.length) w' ∧ Blk w' g (C.take o ++ s.map bv ++ C.drop (o + s.length)) T ∧ Mod [g] w w' ∧ w'.heap.size = w.heap.size := by
  have e : (ByteArray.mk s.toArray).size = s.length := by simp [ByteArray.size]
  have hr := Lib.run_copy_row_string (P := P) w dT sT ty E g o dLen dCap ⟨s.toArray⟩ C.toArray T hu hs h (by rw [e]; exact hle) (by rw [e]; simpa using hfit)
  rw [e] at hr
  refine ⟨_, hr, setRow_blk h _, setRow_mod _ _ _, setRow_size _ _ _⟩
/-- 'copy(b[o:], r[..])' of a row. -/
theorem copy_row {P : Program} {w : World} {g : Nat} {C : List Value} {T : TypeId} (h : Blk w g C T) (dT sT ty E : TypeId) (o dLen dCap : Nat) (a : Addr) (sLen sCap : Nat) (cs : List Value)
    (hu : P.underlying dT = some (.slice E)) (hs : (P.info? E).map (·.size) = some 1) (hn : cs.length = Nat.min sLen dLen) (hsrc : ∀ j v, cs[j]? = some v → w.cell? (a.add j) = some v)
    (hfit : o + cs.length ≤ C.length) (h1 : ∀ v ∈ cs, v.oneCell' = true) :
    ∃ w', (Builtin.copy_ #[dT, sT] ty #[.slice (some ⟨g, o, none⟩) dLen dCap, .slice (some a) sLen sCap]).run P w = .ok (.int .i64 cs.length) w' ∧ Blk w' g (C.take o ++ cs ++ C.drop (o + cs.length)) T ∧ Mod [g] w w' ∧ w'.heap.size = w.heap.size :=
  ⟨_, run_copy_row (P := P) w dT sT ty E g o dLen dCap a sLen sCap C.toArray T cs hu hs h hn hsrc (by simpa using hfit) h1, setRow_blk h _, setRow_mod _ _ _, setRow_size _ _ _⟩

theorem ownsRow_mod {w w' : World} {base : Nat} {e : TypeId} {size : Nat} {v : Value} {n : Nat} {xs : List Value} {S : List Nat} (h : w.ownsRow base e size v n xs) (hm : Mod S w w') (hS : ∀ s ∈ S, v.ownBlock ≠ some s) : w'.ownsRow base e size v n xs := by
  obtain ⟨h1, h2⟩ := h
  refine ⟨h1, ?_⟩
  rcases h2 with h2 | ⟨g, cap, cur, rfl, hg, hh, r⟩
  · exact Or.inl h2
  · refine Or.inr ⟨g, cap, cur, rfl, hg, ?_, r⟩
    rw [hm.block g (Array.getElem?_eq_some_iff.1 hh).1 (fun hin => hS g hin rfl)]; exact hh

/-- 'append(s, x...)' at the operation, whose run is known. -/
theorem wpList_append_run {P : Program} {w : World} {ops : Array Oper} {rest : List Oper} {o : Oper} {a : Act} {Q : Exit → Act → World → Prop} (hgd : o.guard = none) (s x : Operand) (t : TypeId)
    (ho : o.op = .call { callee := .builtin .append, args := #[s, x], argTypes := #[t, t] }) (v xv v' : Value) (w' : World) (hs : a.eval s = v) (hx : a.eval x = xv)
    (hrun : (Builtin.append_ #[t, t] o.type #[v, xv]).run P w = .ok v' w') (h : wpList P ops Q rest (a.put o.dst v') w') : wpList P ops Q (o :: rest) a w := by
  refine wpList_plain hgd fun K hK => ?_
  unfold Oper.wp
  simp [execOp, ho, resolve, invoke, builtin, hs, hx, hrun, Result.andThen]
  exact hK _ _ h

/-- A slice of integers that came in: nil, or a row. -/
def IsRow (k : IntKind) (w : World) (a : Option Addr) (len cap : Nat) (zs : List Int) : Prop :=
  (a = none ∧ len = 0 ∧ cap = 0 ∧ zs = []) ∨
  ∃ x, a = some x ∧ len ≤ cap ∧ cap ≤ maxLen ∧ zs.length = cap ∧ (∀ i, i < zs.length → w.cell? (x.add i) = some (.int k (zs.getD i 0))) ∧ ∀ n ∈ zs, (Lit.int k n).wf = true
end Go.Proofs.Ytffianjbljgnaaa
