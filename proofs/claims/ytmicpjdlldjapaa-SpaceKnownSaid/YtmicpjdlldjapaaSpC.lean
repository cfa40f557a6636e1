/-
  The walk of Copy. No condition.
-/
import Derived.Test.YtmicpjdlldjapaaSpQ
import Derived.Shelf.SlMaps.Clone
import Derived.Lib.SliceRun
namespace Go.Proofs.Ytmicpjdlldjapaa
set_option linter.unusedVariables false
set_option linter.unusedSimpArgs false
open Go.RowKit

/-- A map is copied into a block of its own. -/
theorem clone_map (b : Nat) (es : Array MapEntry) (clock : Nat) (w : World) (hb : w.heap[b]? = some (.map es clock)) :
    Calls Try.prog 36 #[.map (some b)] w fun e w' => e = .returned (.map (some w.heap.size)) ∧ w' = w.alloc (.map es clock) := by
  have hq := fun w => run_eql_map_nil_sl (P := Try.prog) w 54 _ _ (some b) Try.underlying54
  go_enter Try.func36, Try.ntmps36
  go_wp2_with fail
  rw [run_callFunc_extern Try.func37 (by kernel_rfl) (by kernel_rfl) (by kernel_rfl) (e := Extern.MapsClone.clone) (by kernel_rfl), run_maps_clone_sl w 54 hb]
  simp only [Result.andThen]
  rw [Oper.upon_value]
  go_wp2_with fail
  rw [run_typeAssert_map_sl _ 54 20 _ _ _ Try.underlying54]
  simp only [Result.andThen]
  rw [Oper.upon_value]
  go_wp2_with fail
  go_ret
  exact ⟨rfl, rfl⟩
theorem clone_any {b n : Nat} {f : Int → Int} (w : World) (h : SMap w b n f) :
    Calls Try.prog 36 #[.map (some b)] w fun e w' => e = .returned (.map (some w.heap.size)) ∧ SMap w' w.heap.size n f ∧ Below w.heap.size w w' ∧ w.heap.size < w'.heap.size := by
  obtain ⟨D, ⟨es, clock, h1, F, hs, hD⟩, hr⟩ := h
  refine (clone_map b es clock w h1).mono fun e w' ⟨he, hw⟩ => ?_
  subst hw
  exact ⟨he, ⟨D, ⟨es, clock, (MapKept.heap_alloc w _).1, F, hs, hD⟩, hr⟩, (Below.refl _ w).alloc (Nat.le_refl _) _, by simp⟩

theorem SpAt.list {w : World} {b g cap : Nat} {ms : List Nat} {S : Sp} (h : SpAt w b g cap ms S) (hs : 1 ≤ S.segs) : ∃ xs : List Value, xs.length = S.segs * 2 ∧ (∀ j u, xs[j]? = some u → w.cell? ⟨g, j, none⟩ = some u) ∧
    ∀ i, i < S.segs → xs[i * 2]? = some (.map (some (nth ms i))) ∧ xs[i * 2 + 1]? = some (.int .i64 (liveN S.ls i)) := by
  obtain ⟨C, hC, hr⟩ := h.row
  have hl : S.segs * 2 ≤ C.length := by
    have := (List.getElem?_eq_some_iff.1 (hr (S.segs - 1) (by omega)).2).1
    omega
  refine ⟨C.take (S.segs * 2), by rw [List.length_take]; omega, fun j u hj => ?_, fun i hi => ?_⟩
  · have := (List.getElem?_eq_some_iff.1 hj).1
    rw [List.length_take] at this
    rw [List.getElem?_take_of_lt (by omega)] at hj
    rw [hC.cell]; exact hj
  · rw [List.getElem?_take_of_lt (by omega), List.getElem?_take_of_lt (by omega)]
    exact hr i hi
theorem grown_bytes16 (n c : Nat) (hn : n ≤ 20000) (hc : c < n) : Builtin.nextslicecap n c * 16 ≤ 281474976710656 := growslice_fits hc (by omega)

/-- The segments are copied into a block of their own. -/
def SegsCopied (S : Sp) (ms : List Nat) (w : World) (e : Ending) (w' : World) : Prop :=
  ∃ g c C, e = .returned (.slice (some ⟨g, 0, none⟩) S.segs c) ∧ w.heap.size ≤ g ∧ S.segs ≤ c ∧ c ≤ maxLen ∧ Blk w' g C 56 ∧
    (∀ i, i < S.segs → C[i * 2]? = some (.map (some (nth ms i))) ∧ C[i * 2 + 1]? = some (.int .i64 (liveN S.ls i))) ∧ Below w.heap.size w w'
set_option maxHeartbeats 1000000 in
theorem copy_segs (S : Sp) (b g cap : Nat) (ms : List Nat) (w : World) (h : SpAt w b g cap ms S) (hs : 1 ≤ S.segs ∧ S.segs ≤ 64) :
    Calls Try.prog 35 #[.slice (some ⟨g, 0, none⟩) S.segs cap] w (SegsCopied S ms w) := by
  obtain ⟨xs, hxl, hxc, hxs⟩ := h.list hs.1
  obtain ⟨i, hi, hz0, hz1, hz2⟩ := info_parts info_seg
  have hb0 := (Below.refl w.heap.size w).alloc (Nat.le_refl _) (.cells #[] 56)
  obtain ⟨C0, hC0, _⟩ := h.row
  have hrun := run_append_grow (P := Try.prog) (w := w.alloc (.cells #[] 56)) 51 51 56 i _ Try.underlying51 hi hz0 ⟨w.heap.size, 0, none⟩ 0 0 [] (by simp) (by simp)
    ⟨g, 0, none⟩ S.segs cap xs (by rw [hxl, hz1]) (fun j u hj => by
      rw [addr_add, Nat.zero_add]
      exact (hb0.cell (p := ⟨g, j, none⟩) hC0.lt).trans (hxc j u hj)) (by omega) (by omega) (by rw [hz2]; exact grown_bytes16 _ _ (by omega) (by omega))
  have h1 := grownCap_ge (w.alloc (.cells #[] 56)) (0 + S.segs) 0 56
  have h2 := grownCap_le_maxLen (w.alloc (.cells #[] 56)) (0 + S.segs) 0 56 (by unfold maxLen; omega)
  generalize grownCap (w.alloc (.cells #[] 56)) (0 + S.segs) 0 56 = c at *
  generalize hZ : Builtin.zeroCells (Value.agg #[.map none, .int .i64 0]).cells (c - (0 + S.segs)) = Z at *
  have hB : Blk (((w.alloc (.cells #[] 56)).drew).alloc (.cells (([] : List Value).toArray ++ xs.toArray ++ Z) 56)) (w.alloc (.cells #[] 56)).heap.size (xs ++ Z.toList) 56 := by
    have := Blk.new (w.alloc (.cells #[] 56)).drew (xs ++ Z.toList) 56
    rw [show (xs ++ Z.toList).toArray = ([] : List Value).toArray ++ xs.toArray ++ Z by simp] at this
    exact this
  have hb1 := ((hb0.drew).alloc (by simp) (.cells (([] : List Value).toArray ++ xs.toArray ++ Z) 56))
  generalize (((w.alloc (.cells #[] 56)).drew).alloc (.cells (([] : List Value).toArray ++ xs.toArray ++ Z) 56)) = w9 at *
  have hB' : Blk w9 (w.heap.size + 1) (xs ++ Z.toList) 56 := by simpa using hB
  have HE := Lib.hid (show SegsCopied S ms w (.returned (.slice (some ⟨w.heap.size + 1, 0, none⟩) S.segs c)) w9 from ⟨_, c, _, rfl, by omega, by omega, h2, hB', fun j hj => by
    rw [List.getElem?_append_left (by omega), List.getElem?_append_left (by omega)]
    exact hxs j hj, hb1⟩)
  have hq := fun w => Lib.run_eql_slice_nil (P := Try.prog) w 51 _ (some ⟨g, 0, none⟩) S.segs cap 0 0 Try.underlying51
  have hcl := h.len.2
  clear hB hB' hb1 h1 h2 hxs hxc hxl hb0 hC0 hZ
  go_enter Try.func35, Try.ntmps35
  go_wp2_with (at_builtin; (with_reducible refine wpList_append_run rfl _ _ _ rfl _ _ _ _ ?_ ?_ hrun ?_); rfl; rfl)
  go_ret
  exact HE.out

/-- A copy under way: the maps of the first i segments are copied. -/
structure CopyTo (w : World) (S : Sp) (ms : List Nat) (b2 g2 c2 i : Nat) (ns : List Nat) (wr : World) : Prop where
  bel : Below w.heap.size w wr
  head : Blk wr b2 [.slice (some ⟨g2, 0, none⟩) S.segs c2, .int .i64 S.per, .int .i64 S.now, .int .i64 S.mark] 53
  row : ∃ C, Blk wr g2 C 56 ∧ (∀ j, j < i → C[j * 2]? = some (.map (some (nth ns j)))) ∧ (∀ j, i ≤ j → j < S.segs → C[j * 2]? = some (.map (some (nth ms j)))) ∧ ∀ j, j < S.segs → C[j * 2 + 1]? = some (.int .i64 (liveN S.ls j))
  maps : ∀ j, j < i → SMap wr (nth ns j) S.cnt (pieceN S.ls j)
  ge : ∀ x ∈ ns, b2 < x ∧ g2 < x
  lt : ∀ x ∈ ns, x < wr.heap.size
  nd : ns.Nodup
  len : ns.length = i
  two : w.heap.size ≤ b2 ∧ b2 < g2 ∧ S.segs ≤ c2 ∧ c2 ≤ maxLen
theorem nth_app (ns : List Nat) (x j : Nat) (hj : j < ns.length) : nth (ns ++ [x]) j = nth ns j := by
  unfold nth
  rw [List.getD_eq_getElem?_getD, List.getD_eq_getElem?_getD, List.getElem?_append_left hj]
theorem nth_last (ns : List Nat) (x : Nat) : nth (ns ++ [x]) ns.length = x := by
  unfold nth
  rw [List.getD_eq_getElem?_getD, List.getElem?_append_right (Nat.le_refl _)]; simp
theorem CopyTo.on {w : World} {S : Sp} {ms : List Nat} {b2 g2 c2 i : Nat} {ns : List Nat} {wr w' : World} (h : CopyTo w S ms b2 g2 c2 i ns wr) (hb : Below wr.heap.size wr w') : CopyTo w S ms b2 g2 c2 i ns w' := by
  obtain ⟨C, hC, r⟩ := h.row
  exact ⟨h.bel.on hb, h.head.on hb, ⟨C, hC.on hb, r⟩, fun j hj => (h.maps j hj).on hb, h.ge, fun x hx => Nat.lt_of_lt_of_le (h.lt x hx) hb.size, h.nd, h.len, h.two⟩
theorem CopyTo.step {w : World} {S : Sp} {ms : List Nat} {b2 g2 c2 i : Nat} {ns : List Nat} {wr w' : World} (h : CopyTo w S ms b2 g2 c2 i ns wr) (hi : i < S.segs) (hb : Below wr.heap.size wr w') (x : Nat) (hx : wr.heap.size ≤ x) (hx2 : x < w'.heap.size) (hM : SMap w' x S.cnt (pieceN S.ls i)) :
    CopyTo w S ms b2 g2 c2 (i + 1) (ns ++ [x]) (w'.setCell ⟨g2, i * 2, none⟩ (.map (some x))) := by
  obtain ⟨C, hC, r1, r2, r3⟩ := h.row
  have hg := h.two
  have hgl := hC.lt
  have hbl := h.head.lt
  have hm : Mod [g2] w' (w'.setCell ⟨g2, i * 2, none⟩ (.map (some x))) := (Mod.refl _ _).setCell _ _ (.inl (by simp))
  have hlt : i * 2 < C.length := (List.getElem?_eq_some_iff.1 (r2 i (Nat.le_refl _) hi)).1
  have hlen := h.len
  refine ⟨(h.bel.on hb).setCell (p := ⟨g2, i * 2, none⟩) (by show w.heap.size ≤ g2; omega) _, (h.head.on hb).mod hm (by simp; omega), ⟨_, (hC.on hb).set (i * 2) _, fun j hj => ?_, fun j hj hj2 => ?_, fun j hj => ?_⟩, fun j hj => ?_, fun y hy => ?_, fun y hy => ?_, ?_, by simp [hlen], hg⟩
  · by_cases hji : j = i
    · subst hji
      rw [List.getElem?_set_self hlt, ← hlen, nth_last]
    · rw [List.getElem?_set_ne (by omega), nth_app _ _ _ (by omega)]; exact r1 j (by omega)
  · rw [List.getElem?_set_ne (by omega)]; exact r2 j (by omega) hj2
  · rw [List.getElem?_set_ne (by omega)]; exact r3 j hj
  · by_cases hji : j = i
    · subst hji
      rw [← hlen, nth_last]
      have := hM.mod hm (by simp; omega)
      rw [hlen]; exact this
    · rw [nth_app _ _ _ (by omega)]
      have hin := getD_mem (ms := ns) (i := j) (by omega)
      exact ((h.maps j (by omega)).on hb).mod hm (by have := h.ge _ hin; simp; omega)
  · rcases List.mem_append.1 hy with hy | hy
    · exact h.ge y hy
    · rw [List.mem_singleton.1 hy]; omega
  · rw [World.size_setCell]
    rcases List.mem_append.1 hy with hy | hy
    · exact Nat.lt_of_lt_of_le (h.lt y hy) hb.size
    · rw [List.mem_singleton.1 hy]; exact hx2
  · rw [List.nodup_append]
    refine ⟨h.nd, by simp, fun y hy z hz => ?_⟩
    rw [List.mem_singleton.1 hz]
    have := h.lt y hy
    omega
theorem CopyTo.ends {w : World} {S : Sp} {ms : List Nat} {b2 g2 c2 i : Nat} {ns : List Nat} {wr : World} (h : CopyTo w S ms b2 g2 c2 S.segs ns wr) : SpAt wr b2 g2 c2 ns S := by
  obtain ⟨C, hC, r1, r2, r3⟩ := h.row
  refine ⟨h.head, ⟨C, hC, fun j hj => ⟨r1 j hj, r3 j hj⟩⟩, h.maps, ⟨h.len, h.two.2.2⟩, ?_⟩
  simp only [List.nodup_cons, List.mem_cons, not_or]
  exact ⟨⟨by have := h.two; omega, fun hb => by have := h.ge _ hb; omega⟩, fun hb => by have := h.ge _ hb; omega, h.nd⟩
/-- What Copy hands back. -/
def CopyEnds (S : Sp) (w : World) (e : Ending) (w' : World) : Prop :=
  ∃ b g cap ms, e = .returned (.pointer (some ⟨b, 0, none⟩)) ∧ SpAt w' b g cap ms S ∧ Below w.heap.size w w' ∧ ∀ x ∈ b :: g :: ms, w.heap.size ≤ x
theorem CopyTo.ends2 {w : World} {S : Sp} {ms : List Nat} {b2 g2 c2 i : Nat} {ns : List Nat} {wr : World} (h : CopyTo w S ms b2 g2 c2 S.segs ns wr) : CopyEnds S w (.returned (.pointer (some ⟨b2, 0, none⟩))) wr := by
  refine ⟨b2, g2, c2, ns, rfl, h.ends (i := i), h.bel, fun x hx => ?_⟩
  have := h.two
  simp only [List.mem_cons] at hx
  rcases hx with rfl | rfl | hx
  · omega
  · omega
  · have := h.ge x hx; omega

set_option maxHeartbeats 1000000 in
theorem copy_any (S : Sp) (b g cap : Nat) (ms : List Nat) (w : World) (h : SpAt w b g cap ms S) (hs : 1 ≤ S.segs ∧ S.segs ≤ 64) :
    Calls Try.prog 24 #[.pointer (some ⟨b, 0, none⟩)] w (CopyEnds S w) := by
  obtain ⟨c0, c1, c2, c3⟩ := h.cells
  have hcl := h.len.2
  go_enter Try.func24, Try.ntmps24
  go_upto_region 4 with fail
  have hB0 : Blk (w.alloc (.cells #[.slice (some ⟨g, 0, none⟩) S.segs cap, .int .i64 S.per, .int .i64 S.now, .int .i64 S.mark] 53)) w.heap.size [.slice (some ⟨g, 0, none⟩) S.segs cap, .int .i64 S.per, .int .i64 S.now, .int .i64 S.mark] 53 := Blk.new _ _ _
  have hb0 := (Below.refl w.heap.size w).alloc (Nat.le_refl _) (.cells #[.slice (some ⟨g, 0, none⟩) S.segs cap, .int .i64 S.per, .int .i64 S.now, .int .i64 S.mark] 53)
  generalize w.alloc (.cells #[.slice (some ⟨g, 0, none⟩) S.segs cap, .int .i64 S.per, .int .i64 S.now, .int .i64 S.mark] 53) = w1 at *
  have hs1 := h.on hb0
  clear c0 c1 c2 c3
  obtain ⟨c0, c1, c2, c3⟩ := hs1.cells
  have HC := Lib.hid (copy_segs S b g cap ms w1 hs1 hs)
  go_wp2_with fail
  refine HC.out.mono ?_
  rintro e w2 ⟨g2, cc, C, rfl, hg2, hcc1, hcc2, hC, hCs, hb2⟩
  have hB2 := hB0.on hb2
  have hs2 := hs1.on hb2
  have hbw2 := hb0.on hb2
  have hB2f := hB2.free 0
  have hBlt := hB0.lt
  have hto : CopyTo w S ms w.heap.size g2 cc 0 [] (w2.setCell ⟨w.heap.size, 0, none⟩ (.slice (some ⟨g2, 0, none⟩) S.segs cc)) :=
    ⟨hbw2.setCell (p := ⟨w.heap.size, 0, none⟩) (Nat.le_refl _) _, hB2.set 0 _, ⟨C, hC.other ⟨w.heap.size, 0, none⟩ _ (by show g2 ≠ w.heap.size; omega), fun j hj => by omega, fun j _ hj => (hCs j hj).1, fun j hj => (hCs j hj).2⟩, fun j hj => by omega, by simp, by simp, List.nodup_nil, rfl, ⟨Nat.le_refl _, by omega, hcc1, hcc2⟩⟩
  have d0 : w2.cell? ⟨w.heap.size, 0, none⟩ = some (.slice (some ⟨g, 0, none⟩) S.segs cap) := by rw [hB2.cell]; rfl
  clear c0 c1 c2 c3 hC hCs HC hs1 hb2 hb0 hB0 hs2 hbw2 hB2
  go_upto_region 5 with fail
  generalize w2.setCell ⟨w.heap.size, 0, none⟩ (.slice (some ⟨g2, 0, none⟩) S.segs cc) = w3 at *
  have d1 : w3.cell? ⟨w.heap.size, 0, none⟩ = some (.slice (some ⟨g2, 0, none⟩) S.segs cc) := by rw [hto.head.cell]; rfl
  clear d0 hB2f
  go_wp2_with fail
  go_loopw [4, 5, 20] (fun _ _ s20 wr => ∃ (i : Nat) (ns : List Nat), i ≤ S.segs ∧ s20 = .int .i64 i ∧ CopyTo w S ms w.heap.size g2 cc i ns wr) (fun _ _ s20 _ => S.segs - (intOf s20).toNat)
  case atStart => exact ⟨0, [], by omega, rfl, hto⟩
  case round =>
    clear hto d1
    obtain ⟨i, ns, hi, rfl, hto⟩ := hrel
    by_cases hlt : i < S.segs
    · obtain ⟨C, hC, r1, r2, r3⟩ := hto.row
      have e0 : wr.cell? ⟨g2, i * 2, none⟩ = some (.map (some (nth ms i))) := by rw [hC.cell]; exact r2 i (Nat.le_refl _) hlt
      have e1 : wr.cell? ⟨g2, i * 2 + 1, none⟩ = some (.int .i64 (liveN S.ls i)) := by rw [hC.cell]; exact r3 i hlt
      go_upto_region 8 with fail
      have hX : Blk (wr.alloc (.cells #[.map (some (nth ms i)), .int .i64 (liveN S.ls i)] 56)) wr.heap.size [.map (some (nth ms i)), .int .i64 (liveN S.ls i)] 56 := Blk.new _ _ _
      have hbX := (Below.refl wr.heap.size wr).alloc (Nat.le_refl _) (.cells #[.map (some (nth ms i)), .int .i64 (liveN S.ls i)] 56)
      generalize wr.alloc (.cells #[.map (some (nth ms i)), .int .i64 (liveN S.ls i)] 56) = w4 at *
      have hto4 := hto.on hbX
      have hM4 := ((h.on hto.bel).maps i hlt).on hbX
      have HF := Lib.hid (show ∀ w', Below w4.heap.size w4 w' → (w'.cell? ⟨w.heap.size, 0, none⟩ = some (.slice (some ⟨g2, 0, none⟩) S.segs cc) ∧ w'.cell? ⟨wr.heap.size, 0, none⟩ = some (.map (some (nth ms i)))) from
        fun w' hb => ⟨by rw [(hto4.on hb).head.cell]; rfl, by rw [(hX.on hb).cell]; rfl⟩)
      clear e0 e1 hC r1 r2 r3
      refine wp_region_float [0, 1, 2, 3, 4] [5, 6, 7, 8] [6, 7, 8] (Below w4.heap.size w4) (by kernel_rfl) (by kernel_rfl) (by kernel_rfl) (by kernel_rfl) (fun c a d v w h => by cases d <;> exact h) (below_drew (Below.refl _ _)) ?_
      have hS : Below w4.heap.size w4 { w4 with drawn := w4.drawn + 1 } := below_drew (Below.refl _ _)
      generalize ({ w4 with drawn := w4.drawn + 1 } : World) = w5 at *
      simp only [pick, List.map_cons, List.map_nil, List.getD_cons_zero, List.getD_cons_succ]
      repeat (
        refine takes_val (v := ?_) ?_ (fun w' hS => ?_) ?_
        rotate_left
        · rfl
        · obtain ⟨k0, k1⟩ := HF.out w' hS
          go_simp
          with_reducible rfl
        simp only [Act.put, List.setIfInBounds_toArray, List.set_cons_zero, List.set_cons_succ])
      refine takes_nil ?_
      refine seqW_step (by rfl) (fun K hK => ?_)
      go_simp
      refine (clone_any w5 (hM4.on hS)).mono ?_
      rintro e w6 ⟨rfl, hM6, hb6, hlt6⟩
      have hb46 := hS.on hb6
      have hsz := hS.size
      have hto6 := hto4.step hlt hb46 w5.heap.size hsz hlt6 hM6
      obtain ⟨C, hC, _⟩ := (hto4.on hb46).row
      have z0 := hC.free (i * 2)
      have z1 : w6.cell? ⟨g2, i * 2, none⟩ = some (.map (some (nth ms i))) := by
        obtain ⟨C, hC, r1, r2, r3⟩ := (hto4.on hb46).row
        rw [hC.cell]; exact r2 i (Nat.le_refl _) hlt
      refine hK.out _ _ (.inr hb46) ?_
      clear hK K
      refine seqW_step (by rfl) (fun K hK => ?_)
      go_simp
      refine hK.out _ _ (.inl (by rfl)) ?_
      clear hK K
      refine seqW_step (by rfl) (fun K hK => ?_)
      go_simp
      refine hK.out _ _ (.inl (by rfl)) ?_
      clear hK K
      refine seqW_step (by rfl) (fun K hK => ?_)
      go_simp
      refine hK.out _ _ (.inl (by rfl)) (seqW_nil ?_)
      clear hK K HF z0 z1 hC
      generalize w6.setCell ⟨g2, i * 2, none⟩ (.map (some w5.heap.size)) = w7 at *
      go_wp2_with fail
      go_roundw
      case rel => exact ⟨i + 1, _, by omega, by go_num, hto6⟩
      case measure => simp [intOf]; omega
    · obtain rfl : i = S.segs := by omega
      have HE := Lib.hid (hto.ends2 (i := 0))
      clear hto
      go_wp2_with fail
      go_ret
      exact HE.out
end Go.Proofs.Ytmicpjdlldjapaa
