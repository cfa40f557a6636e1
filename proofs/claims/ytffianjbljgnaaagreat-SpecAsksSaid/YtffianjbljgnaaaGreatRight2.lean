/-
  spec.replay's right: the question of a scan, and all four by their kind. Condition: at most a million keys.
-/
import Derived.Test.YtffianjbljgnaaaGreatRight
namespace Go.Proofs.YtffianjbljgnaaaGreat
set_option linter.unusedVariables false
set_option linter.unusedSimpArgs false
open Go.RowKit

set_option maxRecDepth 100000 in
set_option maxHeartbeats 4000000 in
theorem right2_any (w : World) (px cx ox rb sb wb : Nat) (m : Md) (ps : List KV) (M : List KV) (W : List Rec) (h : AskAt w px cx ox rb m) (hR : RepAt w rb sb wb M W) (hM : M.length ≤ 1000000) (hn : m.pn = ps.length) (hps : RowsAt w m.pa m.pn m.pc 2 (pairsCells ps)) (hpn : m.pn ≤ 9223372036854775807) :
    Calls Tryz.prog 42 #[.pointer (some ⟨ox, 0, none⟩), .pointer (some ⟨px, 0, none⟩), .pointer (some ⟨cx, 0, none⟩)] w fun e w' => e = .returned (.bool (decide (ps = sel M m.key m.hi))) ∧ Below w.heap.size w w' := by
  have HF := Lib.hid (show ∀ w', Below w.heap.size w w' → (w'.cell? ⟨px, 0, none⟩ = some (.pointer (some ⟨rb, 0, none⟩)) ∧ w'.cell? ⟨rb, 0, none⟩ = some (.map (some sb)) ∧ w'.cell? ⟨cx, 2, none⟩ = some (.string ⟨m.key.toArray⟩) ∧ w'.cell? ⟨cx, 3, none⟩ = some (.string ⟨m.hi.toArray⟩) ∧ w'.cell? ⟨ox, 5, none⟩ = some (.slice m.pa m.pn m.pc)) from
    fun w' hb => ⟨(h.on hb).p, by rw [(hR.blk.on hb).cell]; rfl, by rw [(h.c.on hb).cell]; rfl, by rw [(h.c.on hb).cell]; rfl, by rw [(h.o.on hb).cell]; rfl⟩)
  have HR := Lib.hid hR
  have HPs := Lib.hid hps
  have HN := Lib.hid hn
  clear h hR hps hn
  go_enter Tryz.func42, Tryz.ntmps42
  go_upto_region 1 with fail
  refine wp_region_float [0, 1, 2, 3, 4, 5, 6, 7, 8, 9] [10, 11, 12] [11, 12] (Below w.heap.size w) (by kernel_rfl) (by kernel_rfl) (by kernel_rfl) (by kernel_rfl) (fun c a d v w h => by cases d <;> exact h) (below_drew (Below.refl _ _)) ?_
  have hS : Below w.heap.size w { w with drawn := w.drawn + 1 } := below_drew (Below.refl _ _)
  generalize ({ w with drawn := w.drawn + 1 } : World) = w2 at *
  simp only [pick, List.map_cons, List.map_nil, List.getD_cons_zero, List.getD_cons_succ]
  repeat (
    refine takes_val (v := ?_) ?_ (fun w' hS => ?_) ?_
    rotate_left
    · rfl
    · obtain ⟨k0, k1, k2, k3, k4⟩ := HF.out w' hS
      go_simp
      with_reducible rfl
    simp only [Act.put, List.setIfInBounds_toArray, List.set_cons_zero, List.set_cons_succ])
  refine takes_nil ?_
  have HP := Lib.hid (pairs_any w2 sb M m.key m.hi ((HR.out.on hS).store) hM)
  have HB := Lib.hid hS
  clear hS
  refine seqW_step (by rfl) (fun K hK => ?_)
  go_simp
  refine HP.out.mono ?_
  rintro e w3 ⟨a, c, rfl, hrows, hold, hb3⟩
  have hb23 := HB.out.trans (hb3.mono HB.out.size)
  refine hK.out _ _ (.inr hb23) ?_
  clear hK K
  have HE := Lib.hid (equalP_any w3 m.pa a m.pn m.pc (sel M m.key m.hi).length c ps (sel M m.key m.hi) (HPs.out.on hb23) hrows HN.out rfl hpn)
  have HB3 := Lib.hid hb23
  clear hrows hold hb3 hb23
  refine seqW_step (by rfl) (fun K hK => ?_)
  go_simp
  refine HE.out.mono ?_
  rintro e w4 ⟨rfl, hb4⟩
  refine hK.out _ _ (.inl (by rfl)) ?_
  clear hK K
  refine seqW_step (by rfl) (fun K hK => ?_)
  go_simp
  refine hK.out _ _ (.inl (by rfl)) (seqW_nil ?_)
  clear hK K
  have HB4 := Lib.hid (HB3.out.trans (hb4.mono HB3.out.size))
  clear hb4
  go_wp2_with fail
  go_ret
  exact ⟨rfl, HB4.out⟩
end Go.Proofs.YtffianjbljgnaaaGreat
