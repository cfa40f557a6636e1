/-
  SpecContents holds of any records and entries. No condition but sizes that a machine has.
-/
import Derived.Test.YtffianjbljgnaaaContW
import Derived.Test.YtffianjbljgnaaaRefC
import Derived.Test.YtffianjbljgnaaaWork27
namespace Go.Proofs.Ytffianjbljgnaaa
set_option linter.unusedVariables false
set_option linter.unusedSimpArgs false
open Go.RowKit Go.Maps

set_option maxRecDepth 100000 in
set_option maxHeartbeats 4000000 in
theorem contents_law (w : World) (aw : Option Addr) (nw cw : Nat) (W : List Rec) (hW : RowsAt w aw nw cw 4 (recsCells W)) (eW : nw = W.length) (oW : ∀ r ∈ W, r.ok)
    (a : Option Addr) (n c : Nat) (z : List EZ) (h : EntsAt w a n c z)
    (am : Option Addr) (nm cm : Nat) (N : List Rec) (hN : RowsAt w am nm cm 4 (recsCells N)) (eN : nm = N.length) (oN : ∀ r ∈ N, r.ok) :
    Calls Try.prog 5 #[.slice aw nw cw, .slice a n c, .slice am nm cm] w fun e w' => e = .returned (.bool true) ∧ Below w.heap.size w w' := by
  have HR1 := Lib.hid (recs_any w aw nw cw W hW eW oW 20 (by omega))
  have HN := Lib.hid hN
  have EN := Lib.hid eN
  have ON := Lib.hid oN
  have OW := Lib.hid oW
  have HH := Lib.hid h
  clear hW eW oW h hN eN oN
  have L1 := Lib.hid (cutRecs_length 20 W)
  have L2 := Lib.hid (cutRecs_length 20 N)
  have K1 := Lib.hid (onceL_length (cutRecs 20 W))
  have K2 := Lib.hid (onceL_length (cutRecs 20 N))
  have P1 := Lib.hid (onceL_apart (cutRecs 20 W))
  have O1 := Lib.hid (show ∀ r ∈ onceL (cutRecs 20 W), r.ok from fun r hr => cutRecs_ok OW.out r (onceL_mem _ r hr))
  have O2 := Lib.hid (show ∀ r ∈ onceL (cutRecs 20 N), r.ok from fun r hr => cutRecs_ok ON.out r (onceL_mem _ r hr))
  go_enter Try.func5, Try.ntmps5
  go_wp2_with fail
  refine HR1.out.mono ?_
  rintro e w1 ⟨a1, c1, rfl, hr1, _, hb1⟩
  have HO1 := Lib.hid (once_any w1 a1 _ c1 _ hr1 rfl (by have := L1.out; omega))
  have HB1 := Lib.hid hb1
  clear hr1 hb1
  go_wp2_with fail
  refine HO1.out.mono ?_
  rintro e w2 ⟨a2, c2, rfl, hr2, _, hb2⟩
  have HB2 := Lib.hid (HB1.out.trans (hb2.mono HB1.out.size))
  have HRW := Lib.hid hr2
  have HR2 := Lib.hid (recs_any w2 am nm cm N (HN.out.on HB2.out) EN.out ON.out 20 (by omega))
  clear hr2 hb2
  go_wp2_with fail
  refine HR2.out.mono ?_
  rintro e w3 ⟨a3, c3, rfl, hr3, _, hb3⟩
  have HO3 := Lib.hid (once_any w3 a3 _ c3 _ hr3 rfl (by have := L2.out; omega))
  have HB3 := Lib.hid (HB2.out.trans (hb3.mono HB2.out.size))
  have HRW3 := Lib.hid (HRW.out.on hb3)
  clear hr3 hb3
  go_wp2_with fail
  refine HO3.out.mono ?_
  rintro e w4 ⟨a4, c4, rfl, hr4, _, hb4⟩
  have HB4 := Lib.hid (HB3.out.trans (hb4.mono HB3.out.size))
  have HRW4 := Lib.hid (HRW3.out.on hb4)
  have HRN4 := Lib.hid hr4
  have HE4 := Lib.hid (entries_any w4 a n c z (HH.out.on HB4.out))
  clear hr4 hb4
  go_wp2_with fail
  refine HE4.out.mono ?_
  rintro e w5 ⟨a5, c5, z5, rfl, hz5, ez5, _, _, hb5⟩
  have HB5 := Lib.hid (HB4.out.trans (hb5.mono HB4.out.size))
  have HRW5 := Lib.hid (HRW4.out.on hb5)
  have HRN5 := Lib.hid (HRN4.out.on hb5)
  have hlen : (cutEntries (z.map (·.2))).length ≤ 30 := by unfold cutEntries; rw [List.length_map, List.length_take]; omega
  have hops : ∀ q ∈ z5, q.2.ops.length ≤ 1000 := fun q hq => by
    have hm : q.2 ∈ cutEntries (z.map (·.2)) := by rw [← ez5]; exact List.mem_map.2 ⟨q, hq, rfl⟩
    unfold cutEntries at hm
    obtain ⟨x, _, hx⟩ := List.mem_map.1 hm
    rw [← hx]
    exact Nat.le_trans (cutRecs_length 8 x.ops) (by omega)
  have hc := content_any w5 a2 _ c2 _ HRW5.out rfl (by have := K1.out; have := L1.out; omega) O1.out a5 _ c5 z5 hz5 (by omega) hops a4 _ c4 _ HRN5.out rfl (by have := K2.out; have := L2.out; omega) O2.out
  rw [contentS_eq _ _ _ P1.out] at hc
  have HC := Lib.hid hc
  have HZ := Lib.hid hz5
  have HOps := Lib.hid hops
  have HLen := Lib.hid hlen
  clear hc hz5 hops hlen hb5
  go_wp2_with fail
  refine HC.out.mono ?_
  rintro e w6 ⟨rfl, hb6⟩
  have HB6 := Lib.hid (HB5.out.trans (hb6.mono HB5.out.size))
  have HD := Lib.hid (refC_any w6 a2 _ c2 _ (HRW5.out.on hb6) rfl (by have := K1.out; have := L1.out; omega) a5 _ c5 z5 (HZ.out.on hb6) (by have := HLen.out; omega) HOps.out a4 _ c4 _ (HRN5.out.on hb6) rfl (by have := K2.out; have := L2.out; omega))
  clear hb6
  generalize contentL (onceL (cutRecs 20 W)) (z5.map (·.2)) (onceL (cutRecs 20 N)) = v at *
  go_wp2_with fail
  refine HD.out.mono ?_
  rintro e w7 ⟨rfl, hb7⟩
  have HB7 := Lib.hid (HB6.out.trans (hb7.mono HB6.out.size))
  have HW := Lib.hid (works_any w7)
  have e1 : (v == v) = true := beq_self_eq_true v
  clear hb7
  go_wp2_with fail
  refine HW.out.mono ?_
  rintro e w8 ⟨rfl, hb8⟩
  have HB8 := Lib.hid (HB7.out.trans (hb8.mono HB7.out.size))
  clear hb8
  go_wp2_with fail
  go_ret
  exact ⟨rfl, HB8.out⟩
end Go.Proofs.Ytffianjbljgnaaa
