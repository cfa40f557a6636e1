/-
  The law's own histories. No condition but sizes that a machine has. (Printed by gen_lookh.py.)
-/
import Derived.Test.YtecknikehieioaaGreatLookX
import Derived.Test.YtecknikehieioaaGreatLookR
namespace Go.Proofs.YtecknikehieioaaGreat
set_option linter.unusedVariables false
set_option linter.unusedSimpArgs false
open Go.RowKit Go.Maps

theorem mds_one (l : List Md) : ∀ u ∈ mdsCells l, u.oneCell' = true := by
  intro u hu
  unfold mdsCells at hu
  obtain ⟨r, _, hr⟩ := List.mem_flatMap.1 hu
  simp only [mdCells, List.mem_cons, List.not_mem_nil, or_false] at hr
  rcases hr with rfl | rfl | rfl | rfl | rfl | rfl | rfl | rfl | rfl | rfl | rfl | rfl | rfl | rfl | rfl | rfl <;> rfl
theorem bytes_made : (Tryz.prog.info? 40).map (fun i => (i.zero, i.size, i.bytes)) = some (some (.agg #[.int .u64 0, .int .i64 0, .int .i64 0, .int .u64 0, .string ⟨#[]⟩, .string ⟨#[]⟩, .string ⟨#[]⟩, .bool false, .int .u64 0, .int .i64 0, .int .i64 0, .bool false, .string ⟨#[]⟩, .slice none 0 0, .int .i64 0, .int .i64 0]), 16, 176) := by kernel_rfl
theorem ents_one (l : List Ent) : ∀ u ∈ entsCells l, u.oneCell' = true := by
  intro u hu
  unfold entsCells at hu
  obtain ⟨r, _, hr⟩ := List.mem_flatMap.1 hu
  simp only [entCells, List.mem_cons, List.not_mem_nil, or_false] at hr
  rcases hr with rfl | rfl | rfl <;> rfl
def letter (b k : Nat) : Txt := [UInt8.ofNat (b + k)]
theorem letter_cells (b k : Nat) (h : b + k < 256) : (letter b k).map bv = [.int .u8 ((b : Int) + (k : Int))] := by
  show [bv (UInt8.ofNat (b + k))] = _
  unfold bv
  rw [UInt8.toNat_ofNat_of_lt' h]
  push_cast
  rfl
def wrCells (x : Wr) : List Value := [.int .u8 (x.key : Nat), .int .u8 (x.val : Nat), .bool x.del, .bool x.lost]
def wrsCells (l : List Wr) : List Value := l.flatMap wrCells
theorem wrs_length (l : List Wr) : (wrsCells l).length = l.length * 4 := by
  induction l with
  | nil => rfl
  | cons e t ih => show (wrCells e ++ wrsCells t).length = _; rw [List.length_append, ih, List.length_cons]; show 4 + _ = _; omega
theorem wrs_get (l : List Wr) (i : Nat) (x : Wr) (h : l[i]? = some x) (k : Nat) (hk : k < 4) (v : Value) (hv : (wrCells x)[k]? = some v) : (wrsCells l)[i * 4 + k]? = some v := by
  induction l generalizing i with
  | nil => simp at h
  | cons e t ih =>
    show (wrCells e ++ wrsCells t)[i * 4 + k]? = _
    cases i with
    | zero =>
      simp only [List.getElem?_cons_zero, Option.some.injEq] at h
      subst h
      rw [Nat.zero_mul, Nat.zero_add, List.getElem?_append_left (by show k < 4; exact hk)]
      exact hv
    | succ i =>
      simp only [List.getElem?_cons_succ] at h
      rw [List.getElem?_append_right (by show 4 ≤ _; omega), show (i + 1) * 4 + k - (wrCells e).length = i * 4 + k from by show _ - 4 = _; omega]
      exact ih i h
theorem wrs_row {w : World} {a : Option Addr} {n c : Nat} {l : List Wr} (h : RowsAt w a n c 4 (wrsCells l)) (hl : n = l.length) {i : Nat} (hi : i < n) :
    ∃ (x : Wr) (g o : Nat), l[i]? = some x ∧ a = some ⟨g, o, none⟩ ∧ g < w.heap.size ∧ w.cell? ⟨g, o + i * 4, none⟩ = some (.int .u8 (x.key : Nat)) ∧ w.cell? ⟨g, o + i * 4 + 1, none⟩ = some (.int .u8 (x.val : Nat)) ∧ w.cell? ⟨g, o + i * 4 + 2, none⟩ = some (.bool x.del) ∧ w.cell? ⟨g, o + i * 4 + 3, none⟩ = some (.bool x.lost) := by
  obtain ⟨g, o, e, hg, hc⟩ := h.at_ (by omega)
  have hx : l[i]? = some l[i] := List.getElem?_eq_getElem (by omega)
  have key : ∀ k v, k < 4 → (wrCells l[i])[k]? = some v → w.cell? ⟨g, o + i * 4 + k, none⟩ = some v := fun k v hk hv => by
    rw [Nat.add_assoc]
    exact hc _ _ (wrs_get l i _ hx k hk v hv)
  exact ⟨l[i], g, o, hx, e, hg, key 0 _ (by omega) rfl, key 1 _ (by omega) rfl, key 2 _ (by omega) rfl, key 3 _ (by omega) rfl⟩
/-- A call without pairs. -/
structure PlainM (q : MZ) : Prop where
  pa : q.1.pa = none ∧ q.1.pn = 0 ∧ q.1.pc = 0 ∧ q.2 = []
  ts : q.1.ts < 18446744073709551616
  key : q.1.key.length ≤ maxLen
theorem PlainM.is {q : MZ} (h : PlainM q) (w : World) : MdIs w q := by
  obtain ⟨h1, h2, h3, h4⟩ := h.pa
  exact ⟨by rw [h2, h4]; rfl, by rw [h1, h2, h3, h4]; exact RowsAt.nil _ _, h.ts, h.key⟩
/-- A history that is being gathered: the row of calls (v4), of entries (v5). -/
structure HistAt (B : Nat) (w : World) (v4 v5 : Value) (X : List MZ) (Z : List EZ) : Prop where
  made : w.ownsRow B 40 16 v4 X.length (mdsCells (X.map (·.1)))
  ents : w.ownsRow B 43 3 v5 Z.length (entsCells (Z.map (·.1)))
  plain : ∀ q ∈ X, PlainM q
  eachZ : ∀ q ∈ Z, EntIs w q.1 q.2
  coldZ : ∀ q ∈ Z, ∀ g o, q.1.a = some ⟨g, o, none⟩ → B ≤ g ∧ g < w.heap.size ∧ v4.ownBlock ≠ some g ∧ v5.ownBlock ≠ some g
  ne : ∀ x, v4.ownBlock = some x → v5.ownBlock ≠ some x
  big : B ≤ w.heap.size
section
variable {B : Nat} {w w' : World} {v4 v5 : Value} {X : List MZ} {Z : List EZ}
theorem HistAt.on (h : HistAt B w v4 v5 X Z) (hb : Below w.heap.size w w') : HistAt B w' v4 v5 X Z :=
  ⟨ownsRow_mod h.made (Mod.of_below hb (S := [])) (by simp), ownsRow_mod h.ents (Mod.of_below hb (S := [])) (by simp), h.plain, fun q hq => (h.eachZ q hq).on hb, fun q hq g o e => by
    obtain ⟨h1, h2, h3⟩ := h.coldZ q hq g o e
    exact ⟨h1, Nat.lt_of_lt_of_le h2 hb.size, h3⟩, h.ne, Nat.le_trans h.big hb.size⟩
theorem HistAt.putM (h : HistAt B w v4 v5 X Z) (hX : X.length ≤ 100000) (q : MZ) (hq : PlainM q) (ty : TypeId) :
    ∃ v' w', (Builtin.append_ #[22, 22] ty #[v4, .slice (some ⟨w.heap.size, 0, none⟩) 1 1]).run Tryz.prog (w.alloc (.cells (mdsCells [q.1]).toArray 40)) = .ok v' w' ∧
      HistAt B w' v' v5 (X ++ [q]) Z ∧ Mod v4.ownBlock.toList w w' := by
  have hbn := (Below.refl w.heap.size w).alloc (Nat.le_refl _) (.cells (mdsCells [q.1]).toArray 40)
  have hN : Blk (w.alloc (.cells (mdsCells [q.1]).toArray 40)) w.heap.size (mdsCells [q.1]) 40 := Blk.new w _ _
  obtain ⟨v', w', hrun, hown', hmod, hblk⟩ := own_append 22 40 ty _ 16 176 Tryz.underlying22 bytes_made rfl (by decide) (by decide) (h.made.alloc (.cells (mdsCells [q.1]).toArray 40))
    (by omega) (by have := h.big; simp; omega) ⟨w.heap.size, 0, none⟩ 1 1 (mdsCells [q.1]) (by omega) (by omega) rfl
    (fun k u hk => by rw [addr_add', Nat.zero_add, hN.cell]; exact hk) (mds_one _)
  have hm : Mod v4.ownBlock.toList w w' := (Mod.of_below hbn).trans hmod
  have hbl : ∀ x, v'.ownBlock = some x → v4.ownBlock = some x ∨ w.heap.size ≤ x := fun x hx => by
    rcases hblk x hx with h1 | h1
    · exact .inl h1
    · right; simp at h1; omega
  refine ⟨v', w', hrun, ⟨?_, ownsRow_mod h.ents hm (fun s hs e => h.ne s (by simpa using hs) e), ?_, ?_, ?_, ?_, Nat.le_trans h.big hm.size⟩, hm⟩
  · rw [List.length_append, List.map_append, mds_append]; exact hown'
  · intro p hp
    rcases List.mem_append.1 hp with hp | hp
    · exact h.plain p hp
    · simp only [List.mem_cons, List.not_mem_nil, or_false] at hp; subst hp; exact hq
  · intro p hp
    exact (h.eachZ p hp).mod hm (fun g o e hx => (h.coldZ p hp g o e).2.2.1 (by simpa using hx))
  · intro p hp g o e
    obtain ⟨h1, h2, h3, h4⟩ := h.coldZ p hp g o e
    refine ⟨h1, Nat.lt_of_lt_of_le h2 hm.size, fun hx => ?_, h4⟩
    rcases hbl g hx with h5 | h5
    · exact h3 h5
    · omega
  · intro x hx hx5
    rcases hbl x hx with h5 | h5
    · exact h.ne x h5 hx5
    · have := (h.ents.lt x hx5).2; omega
theorem HistAt.putE (h : HistAt B w v4 v5 X Z) (hZ : Z.length ≤ 100000) (q : EZ) (hq : EntIs w q.1 q.2) (hc : ∀ g o, q.1.a = some ⟨g, o, none⟩ → B ≤ g ∧ g < w.heap.size ∧ v4.ownBlock ≠ some g ∧ v5.ownBlock ≠ some g) (ty : TypeId) :
    ∃ v' w', (Builtin.append_ #[23, 23] ty #[v5, .slice (some ⟨w.heap.size, 0, none⟩) 1 1]).run Tryz.prog (w.alloc (.cells (entCells q.1).toArray 43)) = .ok v' w' ∧
      HistAt B w' v4 v' X (Z ++ [q]) ∧ Mod v5.ownBlock.toList w w' := by
  have hbn := (Below.refl w.heap.size w).alloc (Nat.le_refl _) (.cells (entCells q.1).toArray 43)
  have hN : Blk (w.alloc (.cells (entCells q.1).toArray 43)) w.heap.size (entCells q.1) 43 := Blk.new w _ _
  obtain ⟨v', w', hrun, hown', hmod, hblk⟩ := own_append 23 43 ty _ 3 40 Tryz.underlying23 info_entry rfl (by decide) (by decide) (h.ents.alloc (.cells (entCells q.1).toArray 43))
    (by omega) (by have := h.big; simp; omega) ⟨w.heap.size, 0, none⟩ 1 1 (entsCells [q.1]) (by omega) (by omega) rfl
    (fun k u hk => by rw [addr_add', Nat.zero_add, hN.cell]; simpa [entsCells] using hk) (ents_one _)
  have hm : Mod v5.ownBlock.toList w w' := (Mod.of_below hbn).trans hmod
  have hbl : ∀ x, v'.ownBlock = some x → v5.ownBlock = some x ∨ w.heap.size ≤ x := fun x hx => by
    rcases hblk x hx with h1 | h1
    · exact .inl h1
    · right; simp at h1; omega
  have hall : ∀ p ∈ Z ++ [q], EntIs w p.1 p.2 ∧ ∀ g o, p.1.a = some ⟨g, o, none⟩ → B ≤ g ∧ g < w.heap.size ∧ v4.ownBlock ≠ some g ∧ v5.ownBlock ≠ some g := by
    intro p hp
    rcases List.mem_append.1 hp with hp | hp
    · exact ⟨h.eachZ p hp, h.coldZ p hp⟩
    · simp only [List.mem_cons, List.not_mem_nil, or_false] at hp; subst hp; exact ⟨hq, hc⟩
  refine ⟨v', w', hrun, ⟨ownsRow_mod h.made hm (fun s hs e => h.ne s e (by simpa using hs)), ?_, h.plain, ?_, ?_, ?_, Nat.le_trans h.big hm.size⟩, hm⟩
  · rw [List.length_append, List.map_append, ents_append]; exact hown'
  · intro p hp
    exact (hall p hp).1.mod hm (fun g o e hx => ((hall p hp).2 g o e).2.2.2 (by simpa using hx))
  · intro p hp g o e
    obtain ⟨h1, h2, h3, h4⟩ := (hall p hp).2 g o e
    refine ⟨h1, Nat.lt_of_lt_of_le h2 hm.size, h3, fun hx => ?_⟩
    rcases hbl g hx with h5 | h5
    · exact h4 h5
    · omega
  · intro x hx hx5
    rcases hbl x hx5 with h5 | h5
    · exact h.ne x hx h5
    · have := (h.made.lt x hx).2; omega
theorem HistAt.start (w : World) : HistAt w.heap.size w (.slice none 0 0) (.slice none 0 0) [] [] :=
  ⟨⟨rfl, .inl ⟨rfl, rfl⟩⟩, ⟨rfl, .inl ⟨rfl, rfl⟩⟩, (fun q hq => by cases hq), (fun q hq => by cases hq), (fun q hq => by cases hq), (fun x hx => by cases hx), Nat.le_refl _⟩
end
def HistEnd (l : List Wr) (w : World) (e : Ending) (w' : World) : Prop :=
  ∃ (a1 : Option Addr) (n1 c1 : Nat) (a2 : Option Addr) (n2 c2 : Nat) (Z : List MZ) (ez : List EZ), e = .returned (.tuple #[.slice a1 n1 c1, .slice a2 n2 c2]) ∧ HistAt w.heap.size w' (.slice a1 n1 c1) (.slice a2 n2 c2) Z ez ∧ n1 = Z.length ∧ n2 = ez.length ∧ HW (l.take 40) Z (ez.map (·.2)) ∧ Below w.heap.size w w'

set_option maxRecDepth 100000 in
set_option maxHeartbeats 16000000 in
theorem history_any (w : World) (a : Option Addr) (n c : Nat) (l : List Wr) (h : RowsAt w a n c 4 (wrsCells l)) (hl : n = l.length) (hb : ∀ x ∈ l, x.key < 256 ∧ x.val < 256) :
    Calls Tryz.prog 16 #[.slice a n c] w (HistEnd l w) := by
  have HH := Lib.hid h
  have HL := Lib.hid hl
  have HBd := Lib.hid hb
  have hmax : n ≤ 9223372036854775807 := h.max
  have HC := Lib.hid (fun ts n kind key val w' => call28_any ts n kind key val w')
  clear h hl hb
  go_enter Tryz.func16, Tryz.ntmps16
  go_wp2_with fail
  go_loopw [4, 5, 6, 7, 8, 9, 10, 11, 12] (fun s4 s5 s6 s7 _ _ _ _ _ wr => ∃ (i : Nat) (Z : List MZ) (ez : List EZ), i ≤ n ∧ i ≤ 40 ∧ s7 = .int .i64 i ∧ s6 = .int .u64 ((ez.length + 1 : Nat) : Int) ∧ HistAt w.heap.size wr s4 s5 Z ez ∧ HW (l.take i) Z (ez.map (·.2)) ∧ Below w.heap.size w wr) (fun _ _ _ s7 _ _ _ _ _ _ => 40 - (intOf s7).toNat)
  case atStart => exact ⟨0, [], [], by omega, by omega, rfl, rfl, HistAt.start w, HW.nil, Below.refl _ _⟩
  case round =>
    obtain ⟨i, Z, ez, hi, hi40, rfl, rfl, hH, hW, hbw⟩ := hrel
    by_cases hlt : i < n ∧ i < 40
    · have hil : (i : Int) < (n : Int) := by omega
      have hi4 : (i : Int) < 40 := by omega
      obtain ⟨x, g, o, hx, rfl, hg, d0, d1, d2, d3⟩ := wrs_row (HH.out.on hbw) HL.out hlt.1
      have HX := Lib.hid hx
      have HXb := Lib.hid (HBd.out x (List.mem_of_getElem? hx))
      have HWi := Lib.hid hW
      have HHi := Lib.hid hH
      have HBw := Lib.hid hbw
      have hlen := hW.len
      rw [List.length_take, List.length_map] at hlen
      have HZl := Lib.hid (show Z.length = 3 * i ∧ ez.length ≤ i from by have := HL.out; omega)
      obtain ⟨E1, hec⟩ : ∃ k, ez.length + 1 = k := ⟨_, rfl⟩
      have HEc := Lib.hid hec
      rw [hec]
      have hec40 : E1 ≤ 41 := by have := HZl.out.2; omega
      clear hx hW hH hbw hlen hec

      obtain ⟨xk, xv, xd, xl⟩ := x
      simp only at d0 d1 d2 d3 HXb
      obtain ⟨T, hT⟩ : ∃ k, i + 1 = k := ⟨_, rfl⟩
      have hTi : (i : Int) + 1 = (T : Int) := by omega
      have hwi : IntKind.u64.wrap (i : Int) = (i : Int) := IntWalk.u64_in _ (by omega)
      have hwT : IntKind.u64.wrap (T : Int) = (T : Int) := IntWalk.u64_in _ (by omega)
      have HT := Lib.hid hT
      have hT41 : T ≤ 41 := by omega
      obtain ⟨ya, hya⟩ : ∃ k, xk % 5 = k := ⟨_, rfl⟩
      obtain ⟨va, hva⟩ : ∃ k, xv % 10 = k := ⟨_, rfl⟩
      have hya5 : ya < 5 := by omega
      have hva10 : va < 10 := by omega
      have hmk : Int.tmod (xk : Int) 5 = (ya : Int) := by rw [show (5 : Int) = ((5 : Nat) : Int) from rfl, ← Int.ofNat_tmod, hya]
      have hmv : Int.tmod (xv : Int) 10 = (va : Int) := by rw [show (10 : Int) = ((10 : Nat) : Int) from rfl, ← Int.ofNat_tmod, hva]
      have hwk : IntKind.u8.wrap (97 + (ya : Int)) = 97 + (ya : Int) := IntWalk.u8_in _ (by omega)
      have hwv : IntKind.u8.wrap (48 + (va : Int)) = 48 + (va : Int) := IntWalk.u8_in _ (by omega)
      have hwya : IntKind.u8.wrap (ya : Int) = (ya : Int) := IntWalk.u8_in _ (by omega)
      have hwva : IntKind.u8.wrap (va : Int) = (va : Int) := IntWalk.u8_in _ (by omega)
      have HYa := Lib.hid hya
      have HVa := Lib.hid hva
      have HWo := Lib.hid (fun w' (hb : Below wr.heap.size wr w') => (show w'.cell? ⟨g, o + i * 4, none⟩ = some (.int .u8 (xk : Nat)) ∧ w'.cell? ⟨g, o + i * 4 + 1, none⟩ = some (.int .u8 (xv : Nat)) ∧ w'.cell? ⟨g, o + i * 4 + 2, none⟩ = some (.bool xd) ∧ w'.cell? ⟨g, o + i * 4 + 3, none⟩ = some (.bool xl) from
        ⟨(hb.cell (p := ⟨g, o + i * 4, none⟩) hg).trans d0, (hb.cell (p := ⟨g, o + i * 4 + 1, none⟩) hg).trans d1, (hb.cell (p := ⟨g, o + i * 4 + 2, none⟩) hg).trans d2, (hb.cell (p := ⟨g, o + i * 4 + 3, none⟩) hg).trans d3⟩))
      have hbt := (Below.refl wr.heap.size wr).alloc (Nat.le_refl _) (.cells #[.int .u8 (97 + (ya : Int))] 5)
      have hrt : RowAt (wr.alloc (.cells #[.int .u8 (97 + (ya : Int))] 5)) wr.heap.size 5 ((letter 97 ya).map bv) := by
        rw [letter_cells 97 ya (by omega)]
        exact (Blk.new wr [.int .u8 (97 + (ya : Int))] 5).row
      have hrun : (convert 50 9 (.slice (some ⟨wr.heap.size, 0, none⟩) 1 1)).run Tryz.prog (wr.alloc (.cells #[.int .u8 (97 + (ya : Int))] 5)) = .ok (.string ⟨(letter 97 ya).toArray⟩) (wr.alloc (.cells #[.int .u8 (97 + (ya : Int))] 5)) := conv_string (l := letter 97 ya) hrt _ _ 1 Tryz.underlying50 Tryz.underlying5 Tryz.underlying9
      clear hT hya hva d1 d2 d3 hg hrt
      go_upto_region 9 with fail
      clear hrun d0
      generalize wr.alloc (.cells #[.int .u8 (97 + (ya : Int))] 5) = w2 at *
      obtain ⟨kt, hkt⟩ : ∃ k, letter 97 ya = k := ⟨_, rfl⟩
      have HKt := Lib.hid hkt
      simp only [hkt]
      clear hkt
      obtain ⟨d0, d1, d2, d3⟩ := HWo.out w2 hbt
      have hbt2 := (Below.refl w2.heap.size w2).alloc (Nat.le_refl _) (.cells #[.int .u8 (48 + (va : Int))] 5)
      have hrt : RowAt (w2.alloc (.cells #[.int .u8 (48 + (va : Int))] 5)) w2.heap.size 5 ((letter 48 va).map bv) := by
        rw [letter_cells 48 va (by omega)]
        exact (Blk.new w2 [.int .u8 (48 + (va : Int))] 5).row
      have hrun : (convert 50 9 (.slice (some ⟨w2.heap.size, 0, none⟩) 1 1)).run Tryz.prog (w2.alloc (.cells #[.int .u8 (48 + (va : Int))] 5)) = .ok (.string ⟨(letter 48 va).toArray⟩) (w2.alloc (.cells #[.int .u8 (48 + (va : Int))] 5)) := conv_string (l := letter 48 va) hrt _ _ 1 Tryz.underlying50 Tryz.underlying5 Tryz.underlying9
      clear hrt d0 d2 d3
      go_upto_region 11 with fail
      clear hrun d1
      have HB3 := Lib.hid (hbt.trans (hbt2.mono hbt.size))
      generalize w2.alloc (.cells #[.int .u8 (48 + (va : Int))] 5) = w3 at *
      obtain ⟨d0, d1, d2, d3⟩ := HWo.out w3 HB3.out
      clear hbt hbt2 d0 d1 d3
      obtain ⟨kd, hkd⟩ : ∃ k : Int, (if xd = true then 4 else 3) = k := ⟨_, rfl⟩
      obtain ⟨vt, hvt⟩ : ∃ k : Txt, (if xd = true then [] else letter 48 va) = k := ⟨_, rfl⟩
      have HKd := Lib.hid hkd
      have HVt := Lib.hid hvt
      clear hkd hvt

      go_upto_if 48 with fail
      go_cut [10, 11] (fun s10 s11 wx => s10 = .int .i64 kd ∧ s11 = .string ⟨vt.toArray⟩ ∧ w3 = wx)
      case first =>
        cases xd with
        | true =>
          have e1 := HKd.out
          have e2 := HVt.out
          rw [if_pos rfl] at e1 e2
          have E1 := Lib.hid e1
          have E2 := Lib.hid e2
          clear e1 e2
          go_wp2_with fail
          go_meet
          exact ⟨by rw [← E1.out], by rw [← E2.out]; try rfl, rfl⟩
        | false =>
          have e1 := HKd.out
          have e2 := HVt.out
          rw [if_neg (by decide)] at e1 e2
          have E1 := Lib.hid e1
          have E2 := Lib.hid e2
          clear e1 e2
          go_wp2_with fail
          go_meet
          exact ⟨by rw [← E1.out], by rw [← E2.out], rfl⟩
      obtain ⟨rfl, rfl, rfl⟩ := hcut
      clear d2
      have HH3 := Lib.hid (HHi.out.on HB3.out)
      have hmd4 : (4 : Int) * (i : Int) ≤ 160 ∧ 0 ≤ (4 : Int) * (i : Int) := by omega
      have HKl := Lib.hid (show kt.length ≤ maxLen from by rw [← HKt.out]; show 1 ≤ maxLen; decide)
      obtain ⟨v', w4, hrun, hH4, hm4⟩ := HH3.out.putM (by have := HZl.out.1; omega) ((⟨T, 0, 0, 0, [], [], [], true, T, 0, 0, false, [], none, 0, 0, 4 * (i : Int), 4 * (i : Int)⟩ : Md), []) ⟨⟨rfl, rfl, rfl, rfl⟩, by show T < 18446744073709551616; omega, by show 0 ≤ maxLen; decide⟩ 22
      have HH4 := Lib.hid hH4
      have HB4 := Lib.hid (show Below w.heap.size w w4 from HBw.out.trans ((HB3.out.mono HBw.out.size).trans (hm4.below (fun y hy => (HHi.out.made.lt y (by simpa using hy)).1) (Nat.le_trans HBw.out.size HB3.out.size))))
      have HM4 := Lib.hid hm4
      clear hH4 hm4
      go_upto_region 15 with (first | ((with_reducible refine wpList_loadM rfl _ rfl _ _ _ HLd.out ?_ ?_); rfl) | ((with_reducible refine wpList_buildM1 rfl _ rfl (⟨T, 0, 0, 0, [], [], [], true, T, 0, 0, false, [], none, 0, 0, 4 * (i : Int), 4 * (i : Int)⟩ : Md) ?_ ?_); rfl) | (at_builtin; (with_reducible refine wpList_append_run rfl _ _ _ rfl _ _ _ _ ?_ ?_ hrun ?_); rfl; rfl))

      clear hrun HHi
      have HH4' := HH4
      go_wp2_with fail
      refine (HC.out T 1 kd kt vt w4).mono ?_
      rintro e w5 ⟨rfl, hb5⟩
      obtain ⟨v2, w6, hrun, hH6, hm6⟩ := (HH4.out.on hb5).putM (by rw [List.length_append]; have := HZl.out.1; simp; omega) ((mk28 T 1 kd kt vt), []) ⟨⟨rfl, rfl, rfl, rfl⟩, by show T < 18446744073709551616; omega, HKl.out⟩ 22
      have HH6 := Lib.hid hH6
      have HB6 := Lib.hid (show Below w.heap.size w w6 from HB4.out.trans ((hb5.mono HB4.out.size).trans (hm6.below (fun y hy => (HH4.out.made.lt y (by simpa using hy)).1) (Nat.le_trans HB4.out.size hb5.size))))
      clear hH6 hm6 hb5
      go_upto_region 16 with (first | ((with_reducible refine wpList_loadM rfl _ rfl _ _ _ HLd.out ?_ ?_); rfl) | ((with_reducible refine wpList_buildM1 rfl _ rfl (mk28 T 1 kd kt vt) ?_ ?_); rfl) | (at_builtin; (with_reducible refine wpList_append_run rfl _ _ _ rfl _ _ _ _ ?_ ?_ hrun ?_); rfl; rfl))
      clear hrun HH4 HH4' HH3 HM4
      go_wp2_with fail
      refine (HC.out T 2 5 [] [] w6).mono ?_
      rintro e w7 ⟨rfl, hb7⟩
      have HH7 := Lib.hid (HH6.out.on hb7)
      have HB7 := Lib.hid (HB6.out.trans (hb7.mono HB6.out.size))
      have hY := Blk.new w7 (mdCells (mk28 T 2 5 [] [])) 40
      have hbY := (Below.refl w7.heap.size w7).alloc (Nat.le_refl _) (.cells (mdCells (mk28 T 2 5 [] [])).toArray 40)
      clear hb7 HH6 HB6
      go_upto_region 17 with ((with_reducible refine wpList_storeM rfl _ _ rfl _ (mk28 T 2 5 [] []) ?_ ?_ ?_); rfl; rfl)
      go_frame
      obtain ⟨cb, hcb⟩ : ∃ x, w7.heap.size = x := ⟨_, rfl⟩
      rw [hcb] at hY
      have HCb := Lib.hid hcb
      simp only [hcb]
      clear hcb
      generalize w7.alloc (.cells (mdCells (mk28 T 2 5 [] [])).toArray 40) = w8 at *
      have f14 := hY.free 14
      have g14 : w8.cell? ⟨cb, 14, none⟩ = some (.int .i64 0) := by rw [hY.cell]; rfl
      have hY2 := hY.set 14 (.int .i64 (4 * (i : Int) + 2))
      have f15 := hY2.free 15
      have g15 : (w8.setCell ⟨cb, 14, none⟩ (.int .i64 (4 * (i : Int) + 2))).cell? ⟨cb, 15, none⟩ = some (.int .i64 0) := by rw [hY2.cell]; rfl
      have hY3 : Blk ((w8.setCell ⟨cb, 14, none⟩ (.int .i64 (4 * (i : Int) + 2))).setCell ⟨cb, 15, none⟩ (.int .i64 (4 * (i : Int) + 3))) cb (mdCells (⟨T, 2, 5, T, [], [], [], true, T, 2, 0, false, [], none, 0, 0, 4 * (i : Int) + 2, 4 * (i : Int) + 3⟩ : Md)) 40 := hY2.set 15 (.int .i64 (4 * (i : Int) + 3))
      have hm9 : Mod [cb] w8 ((w8.setCell ⟨cb, 14, none⟩ (.int .i64 (4 * (i : Int) + 2))).setCell ⟨cb, 15, none⟩ (.int .i64 (4 * (i : Int) + 3))) := ((Mod.refl _ _).setCell _ _ (.inl (by simp))).setCell _ _ (.inl (by simp))
      have HB79 := Lib.hid (show Below w7.heap.size w7 ((w8.setCell ⟨cb, 14, none⟩ (.int .i64 (4 * (i : Int) + 2))).setCell ⟨cb, 15, none⟩ (.int .i64 (4 * (i : Int) + 3))) from hbY.trans (hm9.below (fun y hy => by simp at hy; have := HCb.out; omega) hbY.size))
      have HY9 := Lib.hid hY3
      clear hY hY2 hY3 hm9 hbY
      go_upto_region 19 with fail
      clear f14 g14 f15 g15
      generalize (w8.setCell ⟨cb, 14, none⟩ (.int .i64 (4 * (i : Int) + 2))).setCell ⟨cb, 15, none⟩ (.int .i64 (4 * (i : Int) + 3)) = w9 at *
      have HH9 := Lib.hid (HH7.out.on HB79.out)
      have HB9 := Lib.hid (HB7.out.trans (HB79.out.mono HB7.out.size))

      obtain ⟨_, _, d2, d3⟩ := (show w9.cell? ⟨g, o + i * 4, none⟩ = some (.int .u8 (xk : Nat)) ∧ w9.cell? ⟨g, o + i * 4 + 1, none⟩ = some (.int .u8 (xv : Nat)) ∧ w9.cell? ⟨g, o + i * 4 + 2, none⟩ = some (.bool xd) ∧ w9.cell? ⟨g, o + i * 4 + 3, none⟩ = some (.bool xl) from by
        obtain ⟨x', g', o', hx', e', _, h0, h1, h2, h3⟩ := wrs_row (HH.out.on HB9.out) HL.out hlt.1
        rw [HX.out] at hx'
        cases hx'
        cases e'
        exact ⟨h0, h1, h2, h3⟩)
      obtain ⟨cmd, hcmd⟩ : ∃ m, (if xl = true then (⟨T, 2, 5, T, [], [], [], false, 0, 0, 0, false, [], none, 0, 0, 4 * (i : Int) + 2, 4 * (i : Int) + 3⟩ : Md) else (⟨T, 2, 5, T, [], [], [], true, T, 2, 0, false, [], none, 0, 0, 4 * (i : Int) + 2, 4 * (i : Int) + 3⟩ : Md)) = m := ⟨_, rfl⟩
      have HCmd := Lib.hid hcmd
      have hcbl := HY9.out.lt
      have HE40 := Lib.hid (show ez.length ≤ 41 by have := HEc.out; omega)
      obtain ⟨E2, hE2⟩ : ∃ k, E1 + 1 = k := ⟨_, rfl⟩
      have hE1i : (E1 : Int) + 1 = (E2 : Int) := by omega
      have hwE2 : IntKind.u64.wrap (E2 : Int) = (E2 : Int) := IntWalk.u64_in _ (by omega)
      have HE2 := Lib.hid hE2
      clear hE2
      clear hcmd
      go_upto_if 83 with fail
      go_cut [5, 6] (fun s5 s6 wx => ∃ ez' : List EZ, s6 = .int .u64 ((ez'.length + 1 : Nat) : Int) ∧ HistAt w.heap.size wx v2 s5 (Z ++ [((⟨T, 0, 0, 0, [], [], [], true, T, 0, 0, false, [], none, 0, 0, 4 * (i : Int), 4 * (i : Int)⟩ : Md), [])] ++ [((mk28 T 1 kd kt vt), [])]) ez' ∧ Blk wx cb (mdCells cmd) 40 ∧ Below w.heap.size w wx ∧ ez'.map (·.2) = ez.map (·.2) ++ (if xl = true then [] else [(⟨T, E1, [⟨kt, E1, xd, vt⟩]⟩ : Entry)]) ∧ v2.ownBlock ≠ some cb ∧ ez'.length ≤ ez.length + 1)
      case first =>
        cases xl with
        | true =>
          have hc := HCmd.out
          rw [if_pos rfl] at hc
          have f7 := HY9.out.free 7
          have g7 : w9.cell? ⟨cb, 7, none⟩ = some (.bool true) := by rw [HY9.out.cell]; rfl
          have hY2 := HY9.out.set 7 (.bool false)
          have hth : (w9.setCell ⟨cb, 7, none⟩ (.bool false)).there cb 8 6 := fun j hj => ⟨by
            rw [hY2.cell, List.getElem?_eq_getElem (show 8 + j < 16 by omega)]; rfl, hY2.free _⟩
          have hY3 : Blk ((w9.setCell ⟨cb, 7, none⟩ (.bool false)).setCells cb 8 [.int .u64 0, .int .i64 0, .int .i64 0, .bool false, .string ⟨#[]⟩, .slice none 0 0]) cb (mdCells (⟨T, 2, 5, T, [], [], [], false, 0, 0, 0, false, [], none, 0, 0, 4 * (i : Int) + 2, 4 * (i : Int) + 3⟩ : Md)) 40 := (((((hY2.set 8 (.int .u64 0)).set 9 (.int .i64 0)).set 10 (.int .i64 0)).set 11 (.bool false)).set 12 (.string ⟨#[]⟩)).set 13 (.slice none 0 0)
          have hm : Mod [cb] w9 ((w9.setCell ⟨cb, 7, none⟩ (.bool false)).setCells cb 8 [.int .u64 0, .int .i64 0, .int .i64 0, .bool false, .string ⟨#[]⟩, .slice none 0 0]) := (((((((Mod.refl [cb] w9).setCell ⟨cb, 7, none⟩ (.bool false) (.inl (by simp))).setCell ⟨cb, 8, none⟩ (.int .u64 0) (.inl (by simp))).setCell ⟨cb, 9, none⟩ (.int .i64 0) (.inl (by simp))).setCell ⟨cb, 10, none⟩ (.int .i64 0) (.inl (by simp))).setCell ⟨cb, 11, none⟩ (.bool false) (.inl (by simp))).setCell ⟨cb, 12, none⟩ (.string ⟨#[]⟩) (.inl (by simp))).setCell ⟨cb, 13, none⟩ (.slice none 0 0) (.inl (by simp))
          have hb79 : Below w7.heap.size w7 ((w9.setCell ⟨cb, 7, none⟩ (.bool false)).setCells cb 8 [.int .u64 0, .int .i64 0, .int .i64 0, .bool false, .string ⟨#[]⟩, .slice none 0 0]) := HB79.out.trans (hm.below (fun y hy => by simp at hy; have := HCb.out; omega) HB79.out.size)
          have HE := Lib.hid (show ∃ ez' : List EZ, Value.int .u64 ((E1 : Nat) : Int) = .int .u64 ((ez'.length + 1 : Nat) : Int) ∧ HistAt w.heap.size ((w9.setCell ⟨cb, 7, none⟩ (.bool false)).setCells cb 8 [.int .u64 0, .int .i64 0, .int .i64 0, .bool false, .string ⟨#[]⟩, .slice none 0 0]) v2 u5 (Z ++ [((⟨T, 0, 0, 0, [], [], [], true, T, 0, 0, false, [], none, 0, 0, 4 * (i : Int), 4 * (i : Int)⟩ : Md), [])] ++ [((mk28 T 1 kd kt vt), [])]) ez' ∧ Blk ((w9.setCell ⟨cb, 7, none⟩ (.bool false)).setCells cb 8 [.int .u64 0, .int .i64 0, .int .i64 0, .bool false, .string ⟨#[]⟩, .slice none 0 0]) cb (mdCells cmd) 40 ∧ Below w.heap.size w ((w9.setCell ⟨cb, 7, none⟩ (.bool false)).setCells cb 8 [.int .u64 0, .int .i64 0, .int .i64 0, .bool false, .string ⟨#[]⟩, .slice none 0 0]) ∧ ez'.map (·.2) = ez.map (·.2) ++ (if true = true then [] else [(⟨T, E1, [⟨kt, E1, xd, vt⟩]⟩ : Entry)]) ∧ v2.ownBlock ≠ some cb ∧ ez'.length ≤ ez.length + 1 from
            ⟨ez, by rw [HEc.out], HH7.out.on hb79, by rw [← hc]; exact hY3, HB7.out.trans (hb79.mono HB7.out.size), by simp, fun e => by have := (HH7.out.made.lt cb e).2; have := HCb.out; omega, by omega⟩)
          have HTh := Lib.hid hth
          clear hY2 hY3 hm hb79 hc hth
          go_wp2_with ((with_reducible refine wpList_store_mid rfl 38 _ _ rfl cb 8 #[.int .u64 0, .int .i64 0, .int .i64 0, .bool false, .string ⟨#[]⟩, .slice none 0 0] ?_ ?_ ?_ ?_ ?_ ?_); rfl; rfl; exact HTh.out; kernel_rfl; simp [Value.oneCell'])
          go_meet
          exact HE.out
        | false =>
          have hc := HCmd.out
          rw [if_neg (by decide)] at hc
          have hbR := (Below.refl w9.heap.size w9).alloc (Nat.le_refl _) (.cells #[.string ⟨kt.toArray⟩, .int .u64 (E1 : Nat), .bool xd, .string ⟨vt.toArray⟩] 49)
          have hR : Blk (w9.alloc (.cells #[.string ⟨kt.toArray⟩, .int .u64 (E1 : Nat), .bool xd, .string ⟨vt.toArray⟩] 49)) w9.heap.size (recsCells [⟨kt, E1, xd, vt⟩]) 49 := Blk.new w9 (recsCells [⟨kt, E1, xd, vt⟩]) 49
          have hrows := recsAt_of hR 1 rfl (by omega)
          have hvl : vt.length ≤ maxLen := by
            rw [← HVt.out]
            split
            · show 0 ≤ maxLen; decide
            · show 1 ≤ maxLen; decide
          obtain ⟨v5, w11, hrun, hH, hm⟩ := (HH9.out.on hbR).putE (by have := HE40.out; omega) ((⟨T, E1, some ⟨w9.heap.size, 0, none⟩, 1, 1⟩ : Ent), (⟨T, E1, [⟨kt, E1, xd, vt⟩]⟩ : Entry)) ⟨rfl, rfl, rfl, hrows, by show T < 18446744073709551616; omega, by show E1 < 18446744073709551616; omega, fun r hr => by
            simp only [List.mem_cons, List.not_mem_nil, or_false] at hr
            subst hr
            exact ⟨HKl.out, hvl, by show E1 < 18446744073709551616; omega⟩⟩ (fun g o e => by
              cases e
              exact ⟨HB9.out.size, by simp, fun e => by have := (HH9.out.made.lt _ e).2; omega, fun e => by have := (HH9.out.ents.lt _ e).2; omega⟩) 23
          have hne5 : ∀ y ∈ u5.ownBlock.toList, y ≠ cb := fun y hy e => by
            have := (HH7.out.ents.lt y (by simpa using hy)).2
            have := HCb.out
            omega
          have hY11 : Blk w11 cb (mdCells cmd) 40 := by
            rw [← hc]
            exact (HY9.out.on hbR).mod hm (fun hy => hne5 cb hy rfl)
          have hB11 : Below w.heap.size w w11 := HB9.out.trans ((hbR.mono HB9.out.size).trans (hm.below (fun y hy => (HH9.out.ents.lt y (by simpa using hy)).1) (Nat.le_trans HB9.out.size hbR.size)))
          have HE := Lib.hid (show ∃ ez' : List EZ, Value.int .u64 ((E2 : Nat) : Int) = .int .u64 ((ez'.length + 1 : Nat) : Int) ∧ HistAt w.heap.size w11 v2 v5 (Z ++ [((⟨T, 0, 0, 0, [], [], [], true, T, 0, 0, false, [], none, 0, 0, 4 * (i : Int), 4 * (i : Int)⟩ : Md), [])] ++ [((mk28 T 1 kd kt vt), [])]) ez' ∧ Blk w11 cb (mdCells cmd) 40 ∧ Below w.heap.size w w11 ∧ ez'.map (·.2) = ez.map (·.2) ++ (if false = true then [] else [(⟨T, E1, [⟨kt, E1, xd, vt⟩]⟩ : Entry)]) ∧ v2.ownBlock ≠ some cb ∧ ez'.length ≤ ez.length + 1 from
            ⟨ez ++ [((⟨T, E1, some ⟨w9.heap.size, 0, none⟩, 1, 1⟩ : Ent), (⟨T, E1, [⟨kt, E1, xd, vt⟩]⟩ : Entry))], by rw [List.length_append, ← HE2.out, ← HEc.out]; rfl, hH, hY11, hB11, by simp, fun e => by have := (HH7.out.made.lt cb e).2; have := HCb.out; omega, by simp⟩)
          have hrun2 : (Builtin.append_ #[23, 23] 23 #[u5, .slice (some ⟨w9.heap.size + 1, 0, none⟩) 1 1]).run Tryz.prog ((w9.alloc (.cells #[.string ⟨kt.toArray⟩, .int .u64 (E1 : Nat), .bool xd, .string ⟨vt.toArray⟩] 49)).alloc (.cells #[.int .u64 (T : Nat), .int .u64 (E1 : Nat), .slice (some ⟨w9.heap.size, 0, none⟩) 1 1] 43)) = .ok v5 w11 := by
            have h := hrun
            rw [World.size_alloc] at h
            exact h
          clear hR hrows hvl hH hm hne5 hY11 hB11 hc hbR hrun
          go_wp2_with (at_builtin; (with_reducible refine wpList_append_run rfl _ _ _ rfl _ _ _ _ ?_ ?_ hrun2 ?_); rfl; rfl)
          go_meet
          exact HE.out

      rename World => w12
      obtain ⟨ez', rfl, hH, hY, hb12, hez, hne, hl'⟩ := hcut
      have HLd := Lib.hid (show MdCellsAt w12 cb 0 cmd from by
        refine ⟨?_, ?_, ?_, ?_, ?_, ?_, ?_, ?_, ?_, ?_, ?_, ?_, ?_, ?_, ?_, ?_⟩ <;> (rw [hY.cell]; rfl))
      have hpl : PlainM (cmd, []) := by
        rw [← HCmd.out]
        cases xl <;> exact ⟨⟨rfl, rfl, rfl, rfl⟩, by show T < 18446744073709551616; omega, by show 0 ≤ maxLen; decide⟩
      obtain ⟨v3, w13, hrun, hH13, hm13⟩ := hH.putM (by rw [List.length_append, List.length_append]; have := HZl.out.1; simp; omega) (cmd, []) hpl 22
      have HB13 := Lib.hid (show Below w.heap.size w w13 from hb12.trans (hm13.below (fun y hy => (hH.made.lt y (by simpa using hy)).1) hb12.size))
      have HH13 := Lib.hid hH13
      have HW13 := Lib.hid (show HW (l.take (i + 1)) (Z ++ [((⟨T, 0, 0, 0, [], [], [], true, T, 0, 0, false, [], none, 0, 0, 4 * (i : Int), 4 * (i : Int)⟩ : Md), [])] ++ [((mk28 T 1 kd kt vt), [])] ++ [(cmd, [])]) (ez'.map (·.2)) from by
        have h := HWi.out.snoc ⟨xk, xv, xd, xl⟩
        have hli : (l.take i).length = i := by rw [List.length_take]; have := HL.out; omega
        rw [hli] at h
        have e1 : Z ++ [((⟨T, 0, 0, 0, [], [], [], true, T, 0, 0, false, [], none, 0, 0, 4 * (i : Int), 4 * (i : Int)⟩ : Md), [])] ++ [((mk28 T 1 kd kt vt), [])] ++ [(cmd, [])] = Z ++ grpH i ⟨xk, xv, xd, xl⟩ := by
          rw [List.append_assoc, List.append_assoc]
          congr 1
          unfold grpH beginH writeH comH mk28
          rw [← HCmd.out, ← HKd.out, ← HVt.out, ← HKt.out, ← HYa.out, ← HVa.out, ← HT.out]
          cases xl <;> cases xd <;> rfl
        have e2 : ez'.map (·.2) = ez.map (·.2) ++ entH i (ez.map (·.2)).length ⟨xk, xv, xd, xl⟩ := by
          rw [hez]
          congr 1
          unfold entH recH
          rw [List.length_map, HEc.out, ← HKt.out, ← HVt.out, ← HYa.out, ← HVa.out, ← HT.out]
          cases xl <;> cases xd <;> rfl
        rw [take_next l i _ HX.out, e1, e2]
        exact h)
      have HL' := Lib.hid hl'
      clear hH hY hb12 hez hne hl' hpl hH13 hm13 d2 d3
      go_wp2_with (first | ((with_reducible refine wpList_loadM rfl _ rfl _ _ _ HLd.out ?_ ?_); rfl) | ((with_reducible refine wpList_buildM1 rfl _ rfl cmd ?_ ?_); rfl) | (at_builtin; (with_reducible refine wpList_append_run rfl _ _ _ rfl _ _ _ _ ?_ ?_ hrun ?_); rfl; rfl))
      go_roundw
      case rel => exact ⟨i + 1, _, ez', by omega, by omega, by go_num, by first | rfl | go_num, HH13.out, HW13.out, HB13.out⟩
      case measure => simp [intOf]; omega
    · have HE := Lib.hid (show ∃ (a1 : Option Addr) (n1 c1 : Nat) (a2 : Option Addr) (n2 c2 : Nat), u4 = .slice a1 n1 c1 ∧ u5 = .slice a2 n2 c2 ∧ HistEnd l w (.returned (.tuple #[u4, u5])) wr from by
        obtain ⟨a1, c1, rfl⟩ := own_slice hH.made
        obtain ⟨a2, c2, rfl⟩ := own_slice hH.ents
        have e : l.take i = l.take 40 := by
          have hn' := HL.out
          rcases Nat.lt_or_ge i n with h3 | h3
          · rw [show i = 40 by omega]
          · rw [List.take_of_length_le (by omega), List.take_of_length_le (by omega)]
        rw [e] at hW
        exact ⟨a1, _, c1, a2, _, c2, rfl, rfl, a1, _, c1, a2, _, c2, Z, ez, rfl, hH, rfl, rfl, hW, hbw⟩)
      clear hH hW hbw
      by_cases h1 : i < n
      · have hil : (i : Int) < (n : Int) := by omega
        have hml : ¬ (i : Int) < 40 := by omega
        go_wp2_with fail
        refine bodyPost_ret (results_tmp2 rfl _ _ _) rfl ?_
        obtain ⟨_, _, _, _, _, _, _, _, he⟩ := HE.out
        exact he
      · have hil : ¬ (i : Int) < (n : Int) := by omega
        go_wp2_with fail
        refine bodyPost_ret (results_tmp2 rfl _ _ _) rfl ?_
        obtain ⟨_, _, _, _, _, _, _, _, he⟩ := HE.out
        exact he

end Go.Proofs.YtecknikehieioaaGreat
