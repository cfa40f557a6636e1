/-
  The message of many records that DmsgKnown makes, record by record. No condition.
-/
import Derived.Test.YtnijijcbdajodaaMsgs14
import Derived.Test.YtnijijcbdajodaaMsgI
namespace Go.Proofs.Ytnijijcbdajodaa
set_option linter.unusedVariables false
set_option linter.unusedSimpArgs false
open Go.RowKit

/-- The message stands in the first block behind w0, its records behind it. -/
structure ManyTo (w0 : World) (rs : List Rec) (v : Value) (w : World) : Prop where
  bel : Below w0.heap.size w0 w
  lt : w0.heap.size + 1 ≤ w.heap.size
  msg : Blk w w0.heap.size (msgCellsV (manyM []) v) 26
  own : w.ownsRow (w0.heap.size + 1) 43 4 v rs.length (recsCells rs)
theorem ManyTo.start (w0 : World) : ManyTo w0 [] (.slice none 0 0) (w0.alloc (.cells (msgCellsV (manyM []) (.slice none 0 0)).toArray 26)) :=
  ⟨(Below.refl _ _).alloc (Nat.le_refl _) _, by simp, Blk.new _ _ _, World.ownsRow_nil _ _ _ _⟩
theorem ManyTo.on {w0 w w' : World} {rs : List Rec} {v : Value} (h : ManyTo w0 rs v w) (hb : Below w.heap.size w w') : ManyTo w0 rs v w' :=
  ⟨h.bel.on hb, Nat.le_trans h.lt hb.size, h.msg.on hb, ownsRow_mod h.own (Mod.of_below (S := []) hb) (by simp)⟩
theorem ManyTo.recs {w0 w : World} {rs : List Rec} {v : Value} (h : ManyTo w0 rs v w) (hk : rs.length ≤ 1000) : ∃ p n cp, v = .slice p n cp ∧ RecsAt w p n cp rs := by
  rcases ownsRow_shape h.own with ⟨rfl, h0⟩ | ⟨g, cap, cur, rfl, hg, hh, hc, _⟩
  · exact ⟨none, 0, 0, rfl, ⟨h0, by omega, by omega, by omega⟩⟩
  · refine ⟨_, rs.length, cap, rfl, ⟨rfl, hc, by omega, fun hn => ⟨g, 0, rfl, hh, fun i hi => ?_⟩⟩⟩
    have hc := h.own.cellAt
    have e0 := recs_get rs i hi 0 (by omega)
    have e1 := recs_get rs i hi 1 (by omega)
    have e2 := recs_get rs i hi 2 (by omega)
    have e3 := recs_get rs i hi 3 (by omega)
    refine ⟨?_, ?_, ?_, ?_⟩
    · rw [Nat.zero_add, hc _ (by omega)]; exact e0
    · rw [Nat.zero_add, hc _ (by omega)]; exact e1
    · rw [Nat.zero_add, hc _ (by omega)]; exact e2
    · rw [Nat.zero_add, hc _ (by omega)]; exact e3
theorem ManyTo.step {w0 w : World} {rs : List Rec} {v : Value} (h : ManyTo w0 rs v w) (hk : rs.length ≤ 1000) (x : Rec) (ty : TypeId) (c : Array Value) (hc : c = #[.string ⟨x.key.toArray⟩, .int .u64 x.lsn, .bool x.del, .string ⟨x.val.toArray⟩]) (n : Nat) (hn : n = w.heap.size) :
    ∃ g cap w', (Builtin.append_ #[23, 23] ty #[v, .slice (some ⟨n, 0, none⟩) 1 1]).run Try.prog (w.alloc (.cells c 43)) = .ok (.slice (some ⟨g, 0, none⟩) (rs.length + 1) cap) w' ∧
      w'.cell? ⟨w0.heap.size, 11, none⟩ = some v ∧ w'.frozen? ⟨w0.heap.size, 11, none⟩ = false ∧
      ManyTo w0 (rs ++ [x]) (.slice (some ⟨g, 0, none⟩) (rs.length + 1) cap) (w'.setCell ⟨w0.heap.size, 11, none⟩ (.slice (some ⟨g, 0, none⟩) (rs.length + 1) cap)) := by
  obtain ⟨v', w', hrun, hown, hm⟩ := append_rec h.own (by omega) h.lt x ty c hc n hn
  obtain ⟨g, cap, rfl⟩ := ownsRow_succ hown
  have hv : ∀ y ∈ v.ownBlock.toList, w0.heap.size + 1 ≤ y := by
    intro y hy
    cases hb : v.ownBlock with
    | none => rw [hb] at hy; simp at hy
    | some z =>
      rw [hb] at hy
      simp only [Option.toList_some, List.mem_singleton] at hy
      subst hy
      exact (h.own.lt _ hb).1
  have hM : Blk w' w0.heap.size (msgCellsV (manyM []) v) 26 := h.msg.mod hm (fun hin => by have := hv _ hin; omega)
  refine ⟨g, cap, w', hrun, by rw [hM.cell]; rfl, hM.free 11, ?_, ?_, hM.set 11 _, ?_⟩
  · exact (Mod.fresh h.bel hm (fun y hy => by have := hv _ hy; omega)).setCell (by simp) _
  · rw [World.size_setCell]; exact Nat.le_trans h.lt hm.size
  · have := ownsRow_setCell_below hown (a := ⟨w0.heap.size, 11, none⟩) (by show w0.heap.size < w0.heap.size + 1; omega) (.slice (some ⟨g, 0, none⟩) (rs.length + 1) cap)
    simpa using this
theorem manyRecs_length (k : Nat) : (manyRecs k).length = k := by simp [manyRecs]
/-- Two letters, as a text. -/
theorem key_conv (w : World) (i : Nat) (hi : i < 500) :
    (convert 38 9 (.slice (some ⟨w.heap.size, 0, none⟩) 2 2)).run Try.prog (w.alloc (.cells #[.int .u8 (97 + (i : Int) / 26), .int .u8 (97 + (i : Int) % 26)] 5)) = .ok (.string ⟨(keyOf i).toArray⟩) (w.alloc (.cells #[.int .u8 (97 + (i : Int) / 26), .int .u8 (97 + (i : Int) % 26)] 5)) := by
  have h := RowAt.new w #[.int .u8 (97 + (i : Int) / 26), .int .u8 (97 + (i : Int) % 26)] 5
  have e1 : (UInt8.ofNat (97 + i / 26)).toNat = 97 + i / 26 := by rw [UInt8.toNat_ofNat']; omega
  have e2 : (UInt8.ofNat (97 + i % 26)).toNat = 97 + i % 26 := by rw [UInt8.toNat_ofNat']; omega
  have e : (#[.int .u8 (97 + (i : Int) / 26), .int .u8 (97 + (i : Int) % 26)] : Array Value).toList = (keyOf i).map bv := by
    unfold keyOf bv
    simp only [List.map_cons, List.map_nil, e1, e2]
    simp
  rw [e] at h
  exact conv_string h 38 9 2 Try.underlying38 Try.underlying5 Try.underlying9
theorem manyM_ok (rs : List Rec) (h : ∀ r ∈ rs, r.ok) : (manyM rs).ok :=
  ⟨by show (-9223372036854775808 : Int) ≤ 10 ∧ (10 : Int) ≤ 9223372036854775807; omega, by show 1 < U64; decide, by show 1 < U64; decide, by show 1 < U64; decide, by show 0 < U64; decide, by show 0 < U64; decide, by simp [manyM], by simp [manyM], by simp [manyM], h, by show (-9223372036854775808 : Int) ≤ 0 ∧ (0 : Int) ≤ 9223372036854775807; omega⟩
theorem zz_ok : ∀ r ∈ manyRecs 500 ++ [⟨[122, 122], 1, false, []⟩], r.ok := by
  intro r hr
  rcases List.mem_append.1 hr with h | h
  · exact many_oks 500 r h
  · rw [List.mem_singleton.1 h]; exact ⟨by simp, by simp, by show 1 < U64; decide⟩
/-- A message of a kind that there is not, its value too long. -/
def oddR : Rec := ⟨[], 0, false, [49, 50, 51, 52, 53, 54, 55, 56, 57, 48, 49, 50, 51, 52, 53, 54, 55, 56, 57, 48, 49, 50, 51, 52, 53]⟩
def oddM : Msg := ⟨77, 0, 0, 0, 0, 0, [], [], false, false, [], [oddR], 0⟩
theorem odd_check : checkM oddM = 3 := by kernel_rfl
theorem odd_ok : oddM.ok := (okB_ok (by kernel_rfl : okB oddM = true)).1
end Go.Proofs.Ytnijijcbdajodaa
