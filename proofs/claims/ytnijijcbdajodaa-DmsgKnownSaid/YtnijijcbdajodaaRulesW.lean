/-
  The walks of package dmsg's nothing and rules. No condition.
-/
import Derived.Test.YtnijijcbdajodaaRules
import Derived.Laws.ResultCell
import Derived.Deep.DeepCutAuto
import Derived.KernelRfl
import Derived.Laws.EntriesVeiled
namespace Go.Proofs.Ytnijijcbdajodaa
set_option linter.unusedVariables false
set_option linter.unusedSimpArgs false
open Go.RowKit Go.Maps

theorem results_rule {fn : Func} {p : Tmp} (h : fn.results = #[.cell p 54]) (tmps : Array Value) {w : World} {b : Nat} {x y : Value} (hp : tmps.getD p undef = .pointer (some ⟨b, 0, none⟩))
    (hE : Blk w b [x, y] 54) : (results fn tmps).run Try.prog w = .ok (.agg #[x, y]) w :=
  results_cell_row h tmps w b 54 _ (0, 0) _ hp hE Try.underlying54 rfl (by kernel_rfl)
theorem nothing_any (w : World) : Calls Try.prog 49 #[] w fun e w' => e = .returned (.agg #[.func (.func 83) #[] #[], .func (.func 84) #[] #[]]) ∧ Below w.heap.size w w' := by
  have hmf : ∀ (fn : Fn) (first cap : Array Value) (w : World), (Instr.makeFunc fn first cap).run Try.prog w = .ok (.func fn first cap) w := fun _ _ _ _ => rfl
  go_enter Try.func49, Try.ntmps49
  go_wp2_with fail
  have hB : Blk (w.alloc (.cells #[.func (.func 83) #[] #[], .func (.func 84) #[] #[]] 54)) w.heap.size [.func (.func 83) #[] #[], .func (.func 84) #[] #[]] 54 := Blk.new _ _ _
  refine bodyPost_ret (results_rule rfl _ rfl hB) rfl ⟨rfl, ?_⟩
  exact (Below.refl _ _).alloc (Nat.le_refl _) _

/-- Which functions a kind has. -/
def rulesF (k : Int) : Option Nat :=
  if k = 11 then some (68 * 100000 + 69) else if k = 10 then some (65 * 100000 + 67) else if k = 9 then some (63 * 100000 + 64) else if k = 8 then some (61 * 100000 + 62) else if k = 7 then some (83 * 100000 + 84) else if k = 6 then some (59 * 100000 + 60) else if k = 5 then some (57 * 100000 + 58) else if k = 4 then some (55 * 100000 + 56) else if k = 3 then some (53 * 100000 + 54) else if k = 2 then some (50 * 100000 + 52) else if k = 1 then some (83 * 100000 + 84) else none

set_option maxRecDepth 100000 in
set_option maxHeartbeats 1000000 in
theorem rules_any (w : World) : Calls Try.prog 28 #[] w fun e w' => Below w.heap.size w w' ∧ ∃ b, e = .returned (.map (some b)) ∧ RMap w' b 11 rulesF := by
  have hmf : ∀ (fn : Fn) (first cap : Array Value) (w : World), (Instr.makeFunc fn first cap).run Try.prog w = .ok (.func fn first cap) w := fun _ _ _ _ => rfl
  have hmm := @run_makeMap Try.prog
  have hm0 := RMap.made w
  have hb0 := (Below.refl w.heap.size w).alloc (Nat.le_refl _) (.map #[] 0)
  have hM : w.heap.size ≤ w.heap.size := Nat.le_refl _
  go_enter Try.func28, Try.ntmps28
  go_wp2_with fail
  generalize w.alloc (.map #[] 0) = w0 at *
  obtain ⟨M, HM⟩ : ∃ M, w.heap.size = M := ⟨_, rfl⟩
  rw [HM] at hm0
  have HM2 := Lib.hid HM
  clear hmm
  refine (nothing_any w0).mono ?_
  rintro e v0 ⟨rfl, hc0⟩
  have hm0b := hm0.on hc0
  have hb0b := hb0.on hc0
  clear hm0 hb0 hc0
  obtain ⟨w1, hr1, hm1, hmod1⟩ := hm0b.store 1 (by decide) (by unfold maxLen; omega) 83 84 (by decide)
  obtain ⟨w2, hr2, hm2, hmod2⟩ := hm1.store 2 (by decide) (by unfold maxLen; omega) 50 52 (by decide)
  obtain ⟨w3, hr3, hm3, hmod3⟩ := hm2.store 3 (by decide) (by unfold maxLen; omega) 53 54 (by decide)
  obtain ⟨w4, hr4, hm4, hmod4⟩ := hm3.store 4 (by decide) (by unfold maxLen; omega) 55 56 (by decide)
  obtain ⟨w5, hr5, hm5, hmod5⟩ := hm4.store 5 (by decide) (by unfold maxLen; omega) 57 58 (by decide)
  obtain ⟨w6, hr6, hm6, hmod6⟩ := hm5.store 6 (by decide) (by unfold maxLen; omega) 59 60 (by decide)
  go_wp2_with fail
  refine (nothing_any w6).mono ?_
  rintro e v6 ⟨rfl, hc6⟩
  have hmd : Mod [M] v0 w6 := ((((hmod1.trans hmod2).trans hmod3).trans hmod4).trans hmod5).trans hmod6
  have hm6b := hm6.on hc6
  have hmd2 := hmd.thenBelow hc6
  clear hr1 hr2 hr3 hr4 hr5 hr6 hm0b hm1 hm2 hm3 hm4 hm5 hm6 hmd hc6
  obtain ⟨w7, hr7, hm7, hmod7⟩ := hm6b.store 7 (by decide) (by unfold maxLen; omega) 83 84 (by decide)
  obtain ⟨w8, hr8, hm8, hmod8⟩ := hm7.store 8 (by decide) (by unfold maxLen; omega) 61 62 (by decide)
  obtain ⟨w9, hr9, hm9, hmod9⟩ := hm8.store 9 (by decide) (by unfold maxLen; omega) 63 64 (by decide)
  obtain ⟨w10, hr10, hm10, hmod10⟩ := hm9.store 10 (by decide) (by unfold maxLen; omega) 65 67 (by decide)
  obtain ⟨w11, hr11, hm11, hmod11⟩ := hm10.store 11 (by decide) (by unfold maxLen; omega) 68 69 (by decide)
  have hmd3 : Mod [M] v0 w11 := ((((hmd2.trans hmod7).trans hmod8).trans hmod9).trans hmod10).trans hmod11
  have hfin : Below w.heap.size w w11 := Mod.fresh hb0b hmd3 (by rw [HM2.out]; simp)
  have hres : RMap w11 M 11 rulesF := hm11
  clear hm7 hm8 hm9 hm10 hm11 hm6b hmd2 hmd3 hb0b
  go_wp2_with fail
  go_ret
  exact ⟨hfin, M, rfl, hres⟩
end Go.Proofs.Ytnijijcbdajodaa
