/-
  SpecKnown: the chapter's examples, walked. No condition.
-/
import Derived.Test.YtffianjbljgnaaaHelp27
import Derived.Test.YtffianjbljgnaaaContW
import Derived.Test.YtffianjbljgnaaaPlan
namespace Go.Proofs.Ytffianjbljgnaaa
set_option linter.unusedVariables false
set_option linter.unusedSimpArgs false
open Go.RowKit Go.Maps

theorem contentK (w : World) (aw : Option Addr) (nw cw : Nat) (W : List Rec) (hW : RowsAt w aw nw cw 4 (recsCells W)) (eW : nw = W.length) (bW : nw ≤ 12) (oW : ∀ r ∈ W, r.ok)
    (a : Option Addr) (n c : Nat) (z : List EZ) (h : EntsAt w a n c z) (hn : n ≤ 12) (hops : z.all (fun q => decide (q.2.ops.length ≤ 1000)) = true)
    (am : Option Addr) (nm cm : Nat) (N : List Rec) (hN : RowsAt w am nm cm 4 (recsCells N)) (eN : nm = N.length) (bN : nm ≤ 12) (oN : ∀ r ∈ N, r.ok) (v : Int) (hv : contentS W (opsOf (z.map (·.2))) N = v) :
    Calls Try.prog 19 #[.slice aw nw cw, .slice a n c, .slice am nm cm] w fun e w' => e = .returned (.int .i64 v) ∧ Below w.heap.size w w' := by
  rw [← hv]
  exact content_any w aw nw cw W hW eW (by omega) oW a n c z h (by omega) (fun q hq => by have := List.all_eq_true.1 hops q hq; simpa using this) am nm cm N hN eN (by omega) oN
set_option maxRecDepth 100000 in
set_option maxHeartbeats 16000000 in
theorem known_any (w : World) : Calls Try.prog 6 #[] w fun e w' => e = .returned (.bool true) ∧ Below w.heap.size w w' := by
  have HC := Lib.hid (fun ts n kind key val w' => callM_any ts n kind key val w')
  have HF := Lib.hid (fun ts n key val w' => foundM_any ts n key val w')
  have HW0 := Lib.hid (show ∀ w', Calls Try.prog 21 #[.int .u64 5, .string ⟨#[98]⟩, .string ⟨#[50]⟩] w' fun e w'' => ∃ (a : Option Addr) (n c : Nat), e = .returned (.agg #[.int .u64 5, .int .u64 5, .slice a n c]) ∧ EntIs w'' ⟨5, 5, a, n, c⟩ (mkE 5 [98] [50]) ∧ (∀ g o, a = some ⟨g, o, none⟩ → w'.heap.size ≤ g) ∧ Below w'.heap.size w' w'' from fun w' => writeE_any 5 [98] [50] (by omega) (by decide) (by decide) w')
  have HW1 := Lib.hid (show ∀ w', Calls Try.prog 21 #[.int .u64 5, .string ⟨#[97]⟩, .string ⟨#[49]⟩] w' fun e w'' => ∃ (a : Option Addr) (n c : Nat), e = .returned (.agg #[.int .u64 5, .int .u64 5, .slice a n c]) ∧ EntIs w'' ⟨5, 5, a, n, c⟩ (mkE 5 [97] [49]) ∧ (∀ g o, a = some ⟨g, o, none⟩ → w'.heap.size ≤ g) ∧ Below w'.heap.size w' w'' from fun w' => writeE_any 5 [97] [49] (by omega) (by decide) (by decide) w')
  have HW2 := Lib.hid (show ∀ w', Calls Try.prog 21 #[.int .u64 7, .string ⟨#[99]⟩, .string ⟨#[51]⟩] w' fun e w'' => ∃ (a : Option Addr) (n c : Nat), e = .returned (.agg #[.int .u64 7, .int .u64 7, .slice a n c]) ∧ EntIs w'' ⟨7, 7, a, n, c⟩ (mkE 7 [99] [51]) ∧ (∀ g o, a = some ⟨g, o, none⟩ → w'.heap.size ≤ g) ∧ Below w'.heap.size w' w'' from fun w' => writeE_any 7 [99] [51] (by omega) (by decide) (by decide) w')
  have HW3 := Lib.hid (show ∀ w', Calls Try.prog 21 #[.int .u64 8, .string ⟨#[97]⟩, .string ⟨#[49]⟩] w' fun e w'' => ∃ (a : Option Addr) (n c : Nat), e = .returned (.agg #[.int .u64 8, .int .u64 8, .slice a n c]) ∧ EntIs w'' ⟨8, 8, a, n, c⟩ (mkE 8 [97] [49]) ∧ (∀ g o, a = some ⟨g, o, none⟩ → w'.heap.size ≤ g) ∧ Below w'.heap.size w' w'' from fun w' => writeE_any 8 [97] [49] (by omega) (by decide) (by decide) w')
  have HW4 := Lib.hid (show ∀ w', Calls Try.prog 21 #[.int .u64 7, .string ⟨#[99]⟩, .string ⟨#[52]⟩] w' fun e w'' => ∃ (a : Option Addr) (n c : Nat), e = .returned (.agg #[.int .u64 7, .int .u64 7, .slice a n c]) ∧ EntIs w'' ⟨7, 7, a, n, c⟩ (mkE 7 [99] [52]) ∧ (∀ g o, a = some ⟨g, o, none⟩ → w'.heap.size ≤ g) ∧ Below w'.heap.size w' w'' from fun w' => writeE_any 7 [99] [52] (by omega) (by decide) (by decide) w')
  have hP := Blk.new w (pairsCells [([97], [49])]) 47
  have HV := Lib.hid ((Below.refl w.heap.size w).alloc (Nat.le_refl _) (.cells (pairsCells [([97], [49])]).toArray 47))
  go_enter Try.func6, Try.ntmps6
  have HW0a := Lib.hid (HW0.out (w.alloc (.cells (pairsCells [([97], [49])]).toArray 47)))
  go_wp2_with fail
  refine (HW0a.out).mono ?_
  rintro e w1 ⟨a1, n1, c1, rfl, he1, _, hb⟩
  have hbx := HV.out.trans (hb.mono HV.out.size)
  have NHB := Lib.hid hbx
  clear hbx
  have HB := NHB
  clear NHB
  have hPr := pairsAt_of (Q := [([97], [49])]) (hP.on hb) 1 rfl (by omega)
  clear hb HV HW0a hP
  have hap := apply_any w1 (some ⟨w.heap.size, 0, none⟩) 1 1 [([97], [49])] hPr rfl (by omega) (by simp [maxLen]) ⟨5, 5, a1, n1, c1⟩ (mkE 5 [98] [50]) he1 (by decide)
  rw [show applyL [([97], [49])] (mkE 5 [98] [50]).ops = [([97], [49]), ([98], [50])] from by kernel_rfl] at hap
  have HA := Lib.hid (show Calls Try.prog 16 #[.slice (some ⟨w.heap.size, 0, none⟩) 1 1, .agg #[.int .u64 5, .int .u64 5, .slice a1 n1 c1]] w1 (PairsEnd [([97], [49]), ([98], [50])] w1) from hap)
  clear hPr hap he1
  go_wp2_with fail
  refine (HA.out).mono ?_
  rintro e w2 ⟨am, cm, rfl, hm, _, hb⟩
  have hbx := hb
  have NHB := Lib.hid (HB.out.trans (hbx.mono HB.out.size))
  clear hbx HB
  have HB := NHB
  clear NHB
  clear hb HA
  have HV := Lib.hid ((Below.refl w2.heap.size w2).alloc (Nat.le_refl _) (.cells (recsCells [⟨[97], 0, true, []⟩]).toArray 58))
  obtain ⟨mb, mo, rfl, hml, hmc⟩ := hm.at_ (by decide)
  have f3 : w2.cell? ⟨mb, mo + 3, none⟩ = some (.string ⟨#[50]⟩) := hmc 3 _ rfl
  have f3' : w2.cell? ⟨mb, mo + 2 + 1, none⟩ = some (.string ⟨#[50]⟩) := f3
  have hap := apply_any (w2.alloc (.cells (recsCells [⟨[97], 0, true, []⟩]).toArray 58)) (some ⟨mb, mo, none⟩) 2 cm [([97], [49]), ([98], [50])] (hm.on HV.out) rfl (by omega) (by simp [maxLen]) ⟨0, 0, some ⟨w2.heap.size, 0, none⟩, 1, 1⟩ ⟨0, 0, [⟨[97], 0, true, []⟩]⟩ ⟨rfl, rfl, rfl, recsAt_of (Q := [⟨[97], 0, true, []⟩]) (Blk.new w2 _ _) 1 rfl (by omega), by decide, by decide, by simp [Rec.ok, maxLen]⟩ (by decide)
  rw [show applyL [([97], [49]), ([98], [50])] [⟨[97], 0, true, []⟩] = [([98], [50])] from by kernel_rfl] at hap
  have HA := Lib.hid (show Calls Try.prog 16 #[.slice (some ⟨mb, mo, none⟩) 2 cm, .agg #[.int .u64 0, .int .u64 0, .slice (some ⟨w2.heap.size, 0, none⟩) 1 1]] (w2.alloc (.cells (recsCells [⟨[97], 0, true, []⟩]).toArray 58)) (PairsEnd [([98], [50])] (w2.alloc (.cells (recsCells [⟨[97], 0, true, []⟩]).toArray 58))) from hap)
  clear hap hm hmc
  go_wp2_with fail
  refine (HA.out).mono ?_
  rintro e w3 ⟨_, _, rfl, _, _, hb⟩
  have hbx := HV.out.trans (hb.mono HV.out.size)
  have NHB := Lib.hid (HB.out.trans (hbx.mono HB.out.size))
  clear hbx HB
  have HB := NHB
  clear NHB
  clear hb HV HA f3 f3'
  have hap := after_any w3 none 0 0 [] (EntsAt.nil w3) (by unfold BoundE; omega) (by simp)
  rw [show afterL (([] : List EZ).map (·.2)) = [] from by kernel_rfl] at hap
  have HA := Lib.hid hap
  clear hap
  go_wp2_with fail
  refine (HA.out).mono ?_
  rintro e w4 ⟨_, _, rfl, _, _, hb⟩
  have hbx := hb
  have NHB := Lib.hid (HB.out.trans (hbx.mono HB.out.size))
  clear hbx HB
  have HB := NHB
  clear NHB
  clear hb HA
  go_wp2_with fail
  refine (HC.out 5 1 3 [97] [49] _).mono ?_
  rintro e w5 ⟨rfl, hb⟩
  have hbx := hb
  have NHB := Lib.hid (HB.out.trans (hbx.mono HB.out.size))
  clear hbx HB
  have HB := NHB
  clear NHB
  clear hb
  go_wp2_with fail
  refine (HC.out 5 2 5 [] [] _).mono ?_
  rintro e w6 ⟨rfl, hb⟩
  have hbx := hb
  have NHB := Lib.hid (HB.out.trans (hbx.mono HB.out.size))
  clear hbx HB
  have HB := NHB
  clear NHB
  clear hb
  go_wp2_with fail
  refine (HC.out 6 1 1 [97] [] _).mono ?_
  rintro e w7 ⟨rfl, hb⟩
  have hbx := hb
  have NHB := Lib.hid (HB.out.trans (hbx.mono HB.out.size))
  clear hbx HB
  have HB := NHB
  clear NHB
  clear hb
  go_wp2_with fail
  refine (HC.out 6 2 5 [] [] _).mono ?_
  rintro e w8 ⟨rfl, hb⟩
  have hbx := hb
  have NHB := Lib.hid (HB.out.trans (hbx.mono HB.out.size))
  clear hbx HB
  have HB := NHB
  clear NHB
  clear hb
  go_upto_region 5 with ((with_reducible refine wpList_buildM4 rfl _ _ _ _ rfl (mkC 5 1 3 [97] [49]) (mkC 5 2 5 [] []) (mkC 6 1 1 [97] []) (mkC 6 2 5 [] []) ?_ ?_ ?_ ?_ ?_); rfl; rfl; rfl; rfl)
  have hX := Blk.new w8 (mdsCells [mkC 5 1 3 [97] [49], mkC 5 2 5 [] [], mkC 6 1 1 [97] [], mkC 6 2 5 [] []]) 37
  have hb := (Below.refl w8.heap.size w8).alloc (Nat.le_refl _) (.cells (mdsCells [mkC 5 1 3 [97] [49], mkC 5 2 5 [] [], mkC 6 1 1 [97] [], mkC 6 2 5 [] []]).toArray 37)
  obtain ⟨xb, hxb⟩ : ∃ xb, w8.heap.size = xb := ⟨_, rfl⟩
  have HXl := Lib.hid (show w.heap.size ≤ xb by rw [← hxb]; exact HB.out.size)
  have hbs := hb.size
  rw [hxb] at hX hbs
  rw [hxb]
  generalize w8.alloc (.cells (mdsCells [mkC 5 1 3 [97] [49], mkC 5 2 5 [] [], mkC 6 1 1 [97] [], mkC 6 2 5 [] []]).toArray 37) = w9 at *
  have hbx := hb
  have NHB := Lib.hid (HB.out.trans (hbx.mono HB.out.size))
  clear hbx HB
  have HB := NHB
  clear NHB
  have HX := Lib.hid hX
  clear hX hb hxb hbs
  have HXx := Lib.hid HX.out.lt
  go_wp2_with fail
  refine (HW1.out _).mono ?_
  rintro e w10 ⟨a1, n1, c1, rfl, he1, ho1, hb⟩
  have hbx := hb
  have NHX := Lib.hid (HX.out.on hbx)
  have NHB := Lib.hid (HB.out.trans (hbx.mono HB.out.size))
  clear hbx HB HX
  have HX := NHX
  have HB := NHB
  clear NHB NHX
  clear hb
  have HE1 := Lib.hid he1
  have HO1 := Lib.hid (show ∀ g o, a1 = some ⟨g, o, none⟩ → xb < g ∧ g < w10.heap.size from fun g o e => ⟨Nat.lt_of_lt_of_le HXx.out (ho1 g o e), by obtain ⟨g2, o2, e2, h2, _⟩ := he1.rows.at_ (by rw [he1.n]; decide); rw [e] at e2; cases e2; exact h2⟩)
  clear he1 ho1 HXx
  go_upto_region 6 with fail
  have hL : Blk (w10.alloc (.cells #[.int .u64 5, .int .u64 5, .slice a1 n1 c1] 40)) w10.heap.size (entsCells [⟨5, 5, a1, n1, c1⟩]) 40 := Blk.new w10 (entsCells [⟨5, 5, a1, n1, c1⟩]) _
  have hb : Below w10.heap.size w10 (w10.alloc (.cells #[.int .u64 5, .int .u64 5, .slice a1 n1 c1] 40)) := (Below.refl _ _).alloc (Nat.le_refl _) _
  obtain ⟨lb, hlb⟩ : ∃ lb, w10.heap.size = lb := ⟨_, rfl⟩
  have HLl := Lib.hid (show xb < lb by rw [← hlb]; exact HX.out.lt)
  have hbs := hb.size
  rw [hlb] at hL hbs HO1
  rw [hlb]
  generalize w10.alloc (.cells #[.int .u64 5, .int .u64 5, .slice a1 n1 c1] 40) = w11 at *
  have hbx := hb
  have NHX := Lib.hid (HX.out.on hbx)
  have NHE1 := Lib.hid (HE1.out.on hbx)
  have NHB := Lib.hid (HB.out.trans (hbx.mono HB.out.size))
  clear hbx HB HX HE1
  have HX := NHX
  have HE1 := NHE1
  have HB := NHB
  clear NHB NHX NHE1
  have HL := Lib.hid hL
  clear hL hb hlb hbs
  have HA := Lib.hid (commK w11 (some ⟨lb, 0, none⟩) 1 1 [((⟨5, 5, a1, n1, c1⟩ : Ent), mkE 5 [97] [49])] (entsAt_of (Q := [((⟨5, 5, a1, n1, c1⟩ : Ent), mkE 5 [97] [49])]) HL.out (fun q hq => by simp only [List.mem_cons, List.not_mem_nil, or_false] at hq; subst hq; exact HE1.out) 1 rfl (by omega)) (by omega) (some ⟨xb, 0, none⟩) 4 4 [((mkC 5 1 3 [97] [49]), []), ((mkC 5 2 5 [] []), []), ((mkC 6 1 1 [97] []), []), ((mkC 6 2 5 [] []), [])] (madeAt_of (Q := [((mkC 5 1 3 [97] [49]), []), ((mkC 5 2 5 [] []), []), ((mkC 6 1 1 [97] []), []), ((mkC 6 2 5 [] []), [])]) HX.out (fun q hq => by simp only [List.mem_cons, List.not_mem_nil, or_false] at hq; rcases hq with rfl | rfl | rfl | rfl <;> exact ⟨rfl, RowsAt.nil _ _, by decide, by decide⟩) 4 rfl (by omega)) (by omega) [5, 6] (by kernel_rfl))
  go_wp2_with fail
  refine (HA.out).mono ?_
  rintro e w12 ⟨ac, cc, rfl, hrc, _, hb⟩
  have hbx := hb
  have NHX := Lib.hid (HX.out.on hbx)
  have NHE1 := Lib.hid (HE1.out.on hbx)
  have NHL := Lib.hid (HL.out.on hbx)
  have NHB := Lib.hid (HB.out.trans (hbx.mono HB.out.size))
  clear hbx HB HX HE1 HL
  have HX := NHX
  have HE1 := NHE1
  have HL := NHL
  have HB := NHB
  clear NHB NHX NHE1 NHL
  clear hb HA
  have HV := Lib.hid ((Below.refl w12.heap.size w12).alloc (Nat.le_refl _) (.cells (u64s [5, 6]).toArray 29))
  have hap := numbers_any (w12.alloc (.cells (u64s [5, 6]).toArray 29)) ac (some ⟨w12.heap.size, 0, none⟩) 2 cc 2 2 [5, 6] [5, 6] (hrc.on HV.out) (numsAt_of (Q := [5, 6]) (Blk.new w12 _ _) 2 rfl (by omega)) rfl rfl (by omega)
  rw [show decide (([5, 6] : List Nat) = [5, 6]) = true from rfl] at hap
  have HA := Lib.hid hap
  clear hap hrc
  go_wp2_with fail
  refine (HA.out).mono ?_
  rintro e w13 ⟨rfl, hb⟩
  have hbx := HV.out.trans (hb.mono HV.out.size)
  have NHX := Lib.hid (HX.out.on hbx)
  have NHE1 := Lib.hid (HE1.out.on hbx)
  have NHL := Lib.hid (HL.out.on hbx)
  have NHB := Lib.hid (HB.out.trans (hbx.mono HB.out.size))
  clear hbx HB HX HE1 HL
  have HX := NHX
  have HE1 := NHE1
  have HL := NHL
  have HB := NHB
  clear NHB NHX NHE1 NHL
  clear hb HV HA
  have HA := Lib.hid (serialK w13 (some ⟨lb, 0, none⟩) 1 1 [((⟨5, 5, a1, n1, c1⟩ : Ent), mkE 5 [97] [49])] (entsAt_of (Q := [((⟨5, 5, a1, n1, c1⟩ : Ent), mkE 5 [97] [49])]) HL.out (fun q hq => by simp only [List.mem_cons, List.not_mem_nil, or_false] at hq; subst hq; exact HE1.out) 1 rfl (by omega)) (by omega) (by rfl) (some ⟨xb, 0, none⟩) 4 4 [((mkC 5 1 3 [97] [49]), []), ((mkC 5 2 5 [] []), []), ((mkC 6 1 1 [97] []), []), ((mkC 6 2 5 [] []), [])] (madeAt_of (Q := [((mkC 5 1 3 [97] [49]), []), ((mkC 5 2 5 [] []), []), ((mkC 6 1 1 [97] []), []), ((mkC 6 2 5 [] []), [])]) HX.out (fun q hq => by simp only [List.mem_cons, List.not_mem_nil, or_false] at hq; rcases hq with rfl | rfl | rfl | rfl <;> exact ⟨rfl, RowsAt.nil _ _, by decide, by decide⟩) 4 rfl (by omega)) (by omega) (by rfl) 2 (by kernel_rfl))
  go_wp2_with fail
  refine (HA.out).mono ?_
  rintro e w14 ⟨rfl, hb⟩
  have hbx := hb
  have NHX := Lib.hid (HX.out.on hbx)
  have NHE1 := Lib.hid (HE1.out.on hbx)
  have NHL := Lib.hid (HL.out.on hbx)
  have NHB := Lib.hid (HB.out.trans (hbx.mono HB.out.size))
  clear hbx HB HX HE1 HL
  have HX := NHX
  have HE1 := NHE1
  have HL := NHL
  have HB := NHB
  clear NHB NHX NHE1 NHL
  clear hb HA
  have HA := Lib.hid (serialK w14 none 0 0 [] (EntsAt.nil w14) (by omega) (by rfl) (some ⟨xb, 0, none⟩) 4 4 [((mkC 5 1 3 [97] [49]), []), ((mkC 5 2 5 [] []), []), ((mkC 6 1 1 [97] []), []), ((mkC 6 2 5 [] []), [])] (madeAt_of (Q := [((mkC 5 1 3 [97] [49]), []), ((mkC 5 2 5 [] []), []), ((mkC 6 1 1 [97] []), []), ((mkC 6 2 5 [] []), [])]) HX.out (fun q hq => by simp only [List.mem_cons, List.not_mem_nil, or_false] at hq; rcases hq with rfl | rfl | rfl | rfl <;> exact ⟨rfl, RowsAt.nil _ _, by decide, by decide⟩) 4 rfl (by omega)) (by omega) (by rfl) 1 (by kernel_rfl))
  go_wp2_with fail
  refine (HA.out).mono ?_
  rintro e w15 ⟨rfl, hb⟩
  have hbx := hb
  have NHX := Lib.hid (HX.out.on hbx)
  have NHE1 := Lib.hid (HE1.out.on hbx)
  have NHL := Lib.hid (HL.out.on hbx)
  have NHB := Lib.hid (HB.out.trans (hbx.mono HB.out.size))
  clear hbx HB HX HE1 HL
  have HX := NHX
  have HE1 := NHE1
  have HL := NHL
  have HB := NHB
  clear NHB NHX NHE1 NHL
  clear hb HA
  have hX := HX.out
  have f2 := hX.free 23
  have f3 : w15.cell? ⟨xb, 23, none⟩ = some (.bool true) := by rw [hX.cell]; rfl
  have hX2 : Blk (w15.setCell ⟨xb, 23, none⟩ (.bool false)) xb (mdsCells [(mkC 5 1 3 [97] [49]), ({ (mkC 5 2 5 [] []) with dn := false } : Md), (mkC 6 1 1 [97] []), (mkC 6 2 5 [] [])]) 37 := hX.set 23 (.bool false)
  have hm : Mod [xb] w15 (w15.setCell ⟨xb, 23, none⟩ (.bool false)) := (Mod.refl _ _).setCell _ _ (.inl (by simp))
  have NHE1 := Lib.hid (HE1.out.mod hm (fun g o e hx => by have := HO1.out g o e; simp at hx; omega))
  have NHL := Lib.hid (HL.out.mod hm (by have := HLl.out; simp; omega))
  have NHB := Lib.hid (HB.out.trans (hm.below (fun x hx => by simp at hx; have := HXl.out; omega) HB.out.size))
  have NHX := Lib.hid hX2
  clear hX hX2 hm HB HX HE1 HL
  have HX := NHX
  clear NHX
  have HE1 := NHE1
  clear NHE1
  have HL := NHL
  clear NHL
  have HB := NHB
  clear NHB
  go_upto_region 9 with fail
  clear f2 f3
  generalize w15.setCell ⟨xb, 23, none⟩ (.bool false) = w16 at *
  have HA := Lib.hid (commK w16 (some ⟨lb, 0, none⟩) 1 1 [((⟨5, 5, a1, n1, c1⟩ : Ent), mkE 5 [97] [49])] (entsAt_of (Q := [((⟨5, 5, a1, n1, c1⟩ : Ent), mkE 5 [97] [49])]) HL.out (fun q hq => by simp only [List.mem_cons, List.not_mem_nil, or_false] at hq; subst hq; exact HE1.out) 1 rfl (by omega)) (by omega) (some ⟨xb, 0, none⟩) 4 4 [((mkC 5 1 3 [97] [49]), []), (({ (mkC 5 2 5 [] []) with dn := false } : Md), []), ((mkC 6 1 1 [97] []), []), ((mkC 6 2 5 [] []), [])] (madeAt_of (Q := [((mkC 5 1 3 [97] [49]), []), (({ (mkC 5 2 5 [] []) with dn := false } : Md), []), ((mkC 6 1 1 [97] []), []), ((mkC 6 2 5 [] []), [])]) HX.out (fun q hq => by simp only [List.mem_cons, List.not_mem_nil, or_false] at hq; rcases hq with rfl | rfl | rfl | rfl <;> exact ⟨rfl, RowsAt.nil _ _, by decide, by decide⟩) 4 rfl (by omega)) (by omega) [5, 6] (by kernel_rfl))
  go_wp2_with fail
  refine (HA.out).mono ?_
  rintro e w17 ⟨ac, cc, rfl, hrc, _, hb⟩
  have hbx := hb
  have NHX := Lib.hid (HX.out.on hbx)
  have NHE1 := Lib.hid (HE1.out.on hbx)
  have NHL := Lib.hid (HL.out.on hbx)
  have NHB := Lib.hid (HB.out.trans (hbx.mono HB.out.size))
  clear hbx HB HX HE1 HL
  have HX := NHX
  have HE1 := NHE1
  have HL := NHL
  have HB := NHB
  clear NHB NHX NHE1 NHL
  clear hb HA
  have HV := Lib.hid ((Below.refl w17.heap.size w17).alloc (Nat.le_refl _) (.cells (u64s [5, 6]).toArray 29))
  have hap := numbers_any (w17.alloc (.cells (u64s [5, 6]).toArray 29)) ac (some ⟨w17.heap.size, 0, none⟩) 2 cc 2 2 [5, 6] [5, 6] (hrc.on HV.out) (numsAt_of (Q := [5, 6]) (Blk.new w17 _ _) 2 rfl (by omega)) rfl rfl (by omega)
  rw [show decide (([5, 6] : List Nat) = [5, 6]) = true from rfl] at hap
  have HA := Lib.hid hap
  clear hap hrc
  go_wp2_with fail
  refine (HA.out).mono ?_
  rintro e w18 ⟨rfl, hb⟩
  have hbx := HV.out.trans (hb.mono HV.out.size)
  have NHX := Lib.hid (HX.out.on hbx)
  have NHE1 := Lib.hid (HE1.out.on hbx)
  have NHL := Lib.hid (HL.out.on hbx)
  have NHB := Lib.hid (HB.out.trans (hbx.mono HB.out.size))
  clear hbx HB HX HE1 HL
  have HX := NHX
  have HE1 := NHE1
  have HL := NHL
  have HB := NHB
  clear NHB NHX NHE1 NHL
  clear hb HV HA
  have HA := Lib.hid (commK w18 none 0 0 [] (EntsAt.nil w18) (by omega) (some ⟨xb, 0, none⟩) 4 4 [((mkC 5 1 3 [97] [49]), []), (({ (mkC 5 2 5 [] []) with dn := false } : Md), []), ((mkC 6 1 1 [97] []), []), ((mkC 6 2 5 [] []), [])] (madeAt_of (Q := [((mkC 5 1 3 [97] [49]), []), (({ (mkC 5 2 5 [] []) with dn := false } : Md), []), ((mkC 6 1 1 [97] []), []), ((mkC 6 2 5 [] []), [])]) HX.out (fun q hq => by simp only [List.mem_cons, List.not_mem_nil, or_false] at hq; rcases hq with rfl | rfl | rfl | rfl <;> exact ⟨rfl, RowsAt.nil _ _, by decide, by decide⟩) 4 rfl (by omega)) (by omega) [6] (by kernel_rfl))
  go_wp2_with fail
  refine (HA.out).mono ?_
  rintro e w19 ⟨ac, cc, rfl, hrc, _, hb⟩
  have hbx := hb
  have NHX := Lib.hid (HX.out.on hbx)
  have NHE1 := Lib.hid (HE1.out.on hbx)
  have NHL := Lib.hid (HL.out.on hbx)
  have NHB := Lib.hid (HB.out.trans (hbx.mono HB.out.size))
  clear hbx HB HX HE1 HL
  have HX := NHX
  have HE1 := NHE1
  have HL := NHL
  have HB := NHB
  clear NHB NHX NHE1 NHL
  clear hb HA
  have HV := Lib.hid ((Below.refl w19.heap.size w19).alloc (Nat.le_refl _) (.cells (u64s [6]).toArray 29))
  have hap := numbers_any (w19.alloc (.cells (u64s [6]).toArray 29)) ac (some ⟨w19.heap.size, 0, none⟩) 1 cc 1 1 [6] [6] (hrc.on HV.out) (numsAt_of (Q := [6]) (Blk.new w19 _ _) 1 rfl (by omega)) rfl rfl (by omega)
  rw [show decide (([6] : List Nat) = [6]) = true from rfl] at hap
  have HA := Lib.hid hap
  clear hap hrc
  go_wp2_with fail
  refine (HA.out).mono ?_
  rintro e w20 ⟨rfl, hb⟩
  have hbx := HV.out.trans (hb.mono HV.out.size)
  have NHX := Lib.hid (HX.out.on hbx)
  have NHE1 := Lib.hid (HE1.out.on hbx)
  have NHL := Lib.hid (HL.out.on hbx)
  have NHB := Lib.hid (HB.out.trans (hbx.mono HB.out.size))
  clear hbx HB HX HE1 HL
  have HX := NHX
  have HE1 := NHE1
  have HL := NHL
  have HB := NHB
  clear NHB NHX NHE1 NHL
  clear hb HV HA
  have HA := Lib.hid (serialK w20 none 0 0 [] (EntsAt.nil w20) (by omega) (by rfl) (some ⟨xb, 0, none⟩) 4 4 [((mkC 5 1 3 [97] [49]), []), (({ (mkC 5 2 5 [] []) with dn := false } : Md), []), ((mkC 6 1 1 [97] []), []), ((mkC 6 2 5 [] []), [])] (madeAt_of (Q := [((mkC 5 1 3 [97] [49]), []), (({ (mkC 5 2 5 [] []) with dn := false } : Md), []), ((mkC 6 1 1 [97] []), []), ((mkC 6 2 5 [] []), [])]) HX.out (fun q hq => by simp only [List.mem_cons, List.not_mem_nil, or_false] at hq; rcases hq with rfl | rfl | rfl | rfl <;> exact ⟨rfl, RowsAt.nil _ _, by decide, by decide⟩) 4 rfl (by omega)) (by omega) (by rfl) (-1) (by kernel_rfl))
  go_wp2_with fail
  refine (HA.out).mono ?_
  rintro e w21 ⟨rfl, hb⟩
  have hbx := hb
  have NHX := Lib.hid (HX.out.on hbx)
  have NHE1 := Lib.hid (HE1.out.on hbx)
  have NHL := Lib.hid (HL.out.on hbx)
  have NHB := Lib.hid (HB.out.trans (hbx.mono HB.out.size))
  clear hbx HB HX HE1 HL
  have HX := NHX
  have HE1 := NHE1
  have HL := NHL
  have HB := NHB
  clear NHB NHX NHE1 NHL
  clear hb HA
  have HA := Lib.hid (serialK w21 (some ⟨lb, 0, none⟩) 1 1 [((⟨5, 5, a1, n1, c1⟩ : Ent), mkE 5 [97] [49])] (entsAt_of (Q := [((⟨5, 5, a1, n1, c1⟩ : Ent), mkE 5 [97] [49])]) HL.out (fun q hq => by simp only [List.mem_cons, List.not_mem_nil, or_false] at hq; subst hq; exact HE1.out) 1 rfl (by omega)) (by omega) (by rfl) (some ⟨xb, 0, none⟩) 4 4 [((mkC 5 1 3 [97] [49]), []), (({ (mkC 5 2 5 [] []) with dn := false } : Md), []), ((mkC 6 1 1 [97] []), []), ((mkC 6 2 5 [] []), [])] (madeAt_of (Q := [((mkC 5 1 3 [97] [49]), []), (({ (mkC 5 2 5 [] []) with dn := false } : Md), []), ((mkC 6 1 1 [97] []), []), ((mkC 6 2 5 [] []), [])]) HX.out (fun q hq => by simp only [List.mem_cons, List.not_mem_nil, or_false] at hq; rcases hq with rfl | rfl | rfl | rfl <;> exact ⟨rfl, RowsAt.nil _ _, by decide, by decide⟩) 4 rfl (by omega)) (by omega) (by rfl) 2 (by kernel_rfl))
  go_wp2_with fail
  refine (HA.out).mono ?_
  rintro e w22 ⟨rfl, hb⟩
  have hbx := hb
  have NHX := Lib.hid (HX.out.on hbx)
  have NHE1 := Lib.hid (HE1.out.on hbx)
  have NHL := Lib.hid (HL.out.on hbx)
  have NHB := Lib.hid (HB.out.trans (hbx.mono HB.out.size))
  clear hbx HB HX HE1 HL
  have HX := NHX
  have HE1 := NHE1
  have HL := NHL
  have HB := NHB
  clear NHB NHX NHE1 NHL
  clear hb HA
  have hX := HX.out
  have f2 := hX.free 23
  have f3 : w22.cell? ⟨xb, 23, none⟩ = some (.bool false) := by rw [hX.cell]; rfl
  have hX2 : Blk (w22.setCell ⟨xb, 23, none⟩ (.bool true)) xb (mdsCells [(mkC 5 1 3 [97] [49]), ({ ({ (mkC 5 2 5 [] []) with dn := false } : Md) with dn := true } : Md), (mkC 6 1 1 [97] []), (mkC 6 2 5 [] [])]) 37 := hX.set 23 (.bool true)
  have hm : Mod [xb] w22 (w22.setCell ⟨xb, 23, none⟩ (.bool true)) := (Mod.refl _ _).setCell _ _ (.inl (by simp))
  have NHE1 := Lib.hid (HE1.out.mod hm (fun g o e hx => by have := HO1.out g o e; simp at hx; omega))
  have NHL := Lib.hid (HL.out.mod hm (by have := HLl.out; simp; omega))
  have NHB := Lib.hid (HB.out.trans (hm.below (fun x hx => by simp at hx; have := HXl.out; omega) HB.out.size))
  have NHX := Lib.hid hX2
  clear hX hX2 hm HB HX HE1 HL
  have HX := NHX
  clear NHX
  have HE1 := NHE1
  clear NHE1
  have HL := NHL
  clear NHL
  have HB := NHB
  clear NHB
  go_upto_region 12 with fail
  clear f2 f3
  generalize w22.setCell ⟨xb, 23, none⟩ (.bool true) = w23 at *
  have hX := HX.out
  have f2 := hX.free 26
  have f3 : w23.cell? ⟨xb, 26, none⟩ = some (.int .i64 0) := by rw [hX.cell]; rfl
  have hX2 : Blk (w23.setCell ⟨xb, 26, none⟩ (.int .i64 15)) xb (mdsCells [(mkC 5 1 3 [97] [49]), ({ ({ ({ (mkC 5 2 5 [] []) with dn := false } : Md) with dn := true } : Md) with err := 15 } : Md), (mkC 6 1 1 [97] []), (mkC 6 2 5 [] [])]) 37 := hX.set 26 (.int .i64 15)
  have hm : Mod [xb] w23 (w23.setCell ⟨xb, 26, none⟩ (.int .i64 15)) := (Mod.refl _ _).setCell _ _ (.inl (by simp))
  have NHE1 := Lib.hid (HE1.out.mod hm (fun g o e hx => by have := HO1.out g o e; simp at hx; omega))
  have NHL := Lib.hid (HL.out.mod hm (by have := HLl.out; simp; omega))
  have NHB := Lib.hid (HB.out.trans (hm.below (fun x hx => by simp at hx; have := HXl.out; omega) HB.out.size))
  have NHX := Lib.hid hX2
  clear hX hX2 hm HB HX HE1 HL
  have HX := NHX
  clear NHX
  have HE1 := NHE1
  clear NHE1
  have HL := NHL
  clear NHL
  have HB := NHB
  clear NHB
  go_upto_region 13 with fail
  clear f2 f3
  generalize w23.setCell ⟨xb, 26, none⟩ (.int .i64 15) = w24 at *
  go_wp2_with fail
  refine (HF.out 6 1 [113] [55] _).mono ?_
  rintro e w25 ⟨rfl, hb⟩
  have hbx := hb
  have NHX := Lib.hid (HX.out.on hbx)
  have NHE1 := Lib.hid (HE1.out.on hbx)
  have NHL := Lib.hid (HL.out.on hbx)
  have NHB := Lib.hid (HB.out.trans (hbx.mono HB.out.size))
  clear hbx HB HX HE1 HL
  have HX := NHX
  have HE1 := NHE1
  have HL := NHL
  have HB := NHB
  clear NHB NHX NHE1 NHL
  clear hb
  go_upto_region 14 with ((with_reducible refine wpList_storeM rfl _ _ rfl _ (mkF 6 1 [113] [55]) ?_ ?_ ?_); rfl; rfl)
  have hY := Blk.new w25 (mdCells (mkF 6 1 [113] [55])) 37
  have hb := (Below.refl w25.heap.size w25).alloc (Nat.le_refl _) (.cells (mdCells (mkF 6 1 [113] [55])).toArray 37)
  obtain ⟨yb, hyb⟩ : ∃ yb, w25.heap.size = yb := ⟨_, rfl⟩
  have HYl := Lib.hid (show xb < yb ∧ lb < yb by rw [← hyb]; exact ⟨HX.out.lt, HL.out.lt⟩)
  have hbs := hb.size
  rw [hyb] at hY hbs
  rw [hyb]
  generalize w25.alloc (.cells (mdCells (mkF 6 1 [113] [55])).toArray 37) = w26 at *
  have hbx := hb
  have NHX := Lib.hid (HX.out.on hbx)
  have NHE1 := Lib.hid (HE1.out.on hbx)
  have NHL := Lib.hid (HL.out.on hbx)
  have NHB := Lib.hid (HB.out.trans (hbx.mono HB.out.size))
  clear hbx HB HX HE1 HL
  have HX := NHX
  have HE1 := NHE1
  have HL := NHL
  have HB := NHB
  clear NHB NHX NHE1 NHL
  clear hb hbs
  have f2 := hY.free 10
  have f3 : w26.cell? ⟨yb, 10, none⟩ = some (.int .i64 0) := by rw [hY.cell]; rfl
  have hY2 : Blk (w26.setCell ⟨yb, 10, none⟩ (.int .i64 14)) yb (mdCells ({ mkF 6 1 [113] [55] with err := 14 } : Md)) 37 := hY.set 10 (.int .i64 14)
  have hm : Mod [yb] w26 (w26.setCell ⟨yb, 10, none⟩ (.int .i64 14)) := (Mod.refl _ _).setCell _ _ (.inl (by simp))
  have NHX := Lib.hid (HX.out.mod hm (by have := HYl.out; simp; omega))
  have NHL := Lib.hid (HL.out.mod hm (by have := HYl.out; simp; omega))
  have NHE1 := Lib.hid (HE1.out.mod hm (fun g o e hx => by have := HO1.out g o e; have := HYl.out; simp at hx; omega))
  have NHB := Lib.hid (HB.out.trans (hm.below (fun x hx => by simp at hx; have := HXl.out; have := HYl.out; omega) HB.out.size))
  have HY := Lib.hid hY2
  clear hY hY2 hm HX HL HE1 HB
  have HX := NHX
  have HL := NHL
  have HE1 := NHE1
  have HB := NHB
  clear NHX NHL NHE1 NHB
  go_upto_region 15 with fail
  clear f2 f3
  generalize w26.setCell ⟨yb, 10, none⟩ (.int .i64 14) = w27 at *
  have HA := Lib.hid (commK w27 none 0 0 [] (EntsAt.nil w27) (by omega) (some ⟨xb, 0, none⟩) 4 4 [((mkC 5 1 3 [97] [49]), []), (({ ({ ({ (mkC 5 2 5 [] []) with dn := false } : Md) with dn := true } : Md) with err := 15 } : Md), []), ((mkC 6 1 1 [97] []), []), ((mkC 6 2 5 [] []), [])] (madeAt_of (Q := [((mkC 5 1 3 [97] [49]), []), (({ ({ ({ (mkC 5 2 5 [] []) with dn := false } : Md) with dn := true } : Md) with err := 15 } : Md), []), ((mkC 6 1 1 [97] []), []), ((mkC 6 2 5 [] []), [])]) HX.out (fun q hq => by simp only [List.mem_cons, List.not_mem_nil, or_false] at hq; rcases hq with rfl | rfl | rfl | rfl <;> exact ⟨rfl, RowsAt.nil _ _, by decide, by decide⟩) 4 rfl (by omega)) (by omega) [6] (by kernel_rfl))
  go_wp2_with fail
  refine (HA.out).mono ?_
  rintro e w28 ⟨ac, cc, rfl, hrc, _, hb⟩
  have hbx := hb
  have NHX := Lib.hid (HX.out.on hbx)
  have NHE1 := Lib.hid (HE1.out.on hbx)
  have NHL := Lib.hid (HL.out.on hbx)
  have NHY := Lib.hid (HY.out.on hbx)
  have NHB := Lib.hid (HB.out.trans (hbx.mono HB.out.size))
  clear hbx HB HX HE1 HL HY
  have HX := NHX
  have HE1 := NHE1
  have HL := NHL
  have HY := NHY
  have HB := NHB
  clear NHB NHX NHE1 NHL NHY
  clear hb HA
  have HV := Lib.hid ((Below.refl w28.heap.size w28).alloc (Nat.le_refl _) (.cells (u64s [6]).toArray 29))
  have hap := numbers_any (w28.alloc (.cells (u64s [6]).toArray 29)) ac (some ⟨w28.heap.size, 0, none⟩) 1 cc 1 1 [6] [6] (hrc.on HV.out) (numsAt_of (Q := [6]) (Blk.new w28 _ _) 1 rfl (by omega)) rfl rfl (by omega)
  rw [show decide (([6] : List Nat) = [6]) = true from rfl] at hap
  have HA := Lib.hid hap
  clear hap hrc
  go_wp2_with fail
  refine (HA.out).mono ?_
  rintro e w29 ⟨rfl, hb⟩
  have hbx := HV.out.trans (hb.mono HV.out.size)
  have NHX := Lib.hid (HX.out.on hbx)
  have NHE1 := Lib.hid (HE1.out.on hbx)
  have NHL := Lib.hid (HL.out.on hbx)
  have NHY := Lib.hid (HY.out.on hbx)
  have NHB := Lib.hid (HB.out.trans (hbx.mono HB.out.size))
  clear hbx HB HX HE1 HL HY
  have HX := NHX
  have HE1 := NHE1
  have HL := NHL
  have HY := NHY
  have HB := NHB
  clear NHB NHX NHE1 NHL NHY
  clear hb HV HA
  have hld := run_loadAt_mid (P := Try.prog) w29 yb 0 37 (mdCells ({ mkF 6 1 [113] [55] with err := 14 } : Md)) _ (fun j v hv => by rw [HY.out.cell, Nat.zero_add]; exact hv) Try.underlying37 rfl (info_made _)
  have HLd := Lib.hid (show MdCellsAt w29 yb 0 ({ mkF 6 1 [113] [55] with err := 14 } : Md) by refine ⟨?_, ?_, ?_, ?_, ?_, ?_, ?_, ?_, ?_, ?_, ?_, ?_, ?_, ?_, ?_, ?_⟩ <;> (rw [HY.out.cell]; rfl))
  clear hld
  have HV := Lib.hid ((Below.refl w29.heap.size w29).alloc (Nat.le_refl _) (.cells (mdsCells [({ mkF 6 1 [113] [55] with err := 14 } : Md)]).toArray 37))
  have hN := Blk.new w29 (mdsCells [({ mkF 6 1 [113] [55] with err := 14 } : Md)]) 37
  obtain ⟨c5, w5, hrun, hrow, hb5⟩ := append_new 24 37 24 (.agg #[.int .u64 0, .int .i64 0, .int .i64 0, .int .u64 0, .string ⟨#[]⟩, .string ⟨#[]⟩, .string ⟨#[]⟩, .bool false, .int .u64 0, .int .i64 0, .int .i64 0, .bool false, .string ⟨#[]⟩, .slice none 0 0, .int .i64 0, .int .i64 0]) 16 176 Try.underlying24 (by kernel_rfl) (by omega) (n := 4) (cap := 4) (cells := mdsCells [(mkC 5 1 3 [97] [49]), ({ ({ ({ (mkC 5 2 5 [] []) with dn := false } : Md) with dn := true } : Md) with err := 15 } : Md), (mkC 6 1 1 [97] []), (mkC 6 2 5 [] [])]) rfl (fun j v hv => by rw [(HX.out.on HV.out).cell]; exact hv) (by omega) ⟨w29.heap.size, 0, none⟩ 1 1 (mdsCells [({ mkF 6 1 [113] [55] with err := 14 } : Md)]) (by omega) rfl (fun j u hu => by rw [addr_add', Nat.zero_add, hN.cell]; exact hu) (by omega)
  rw [World.size_alloc] at hrun hrow
  have hq5 : MadeAt w5 (some ⟨w29.heap.size + 1, 0, none⟩) 5 c5 [((mkC 5 1 3 [97] [49]), []), (({ ({ ({ (mkC 5 2 5 [] []) with dn := false } : Md) with dn := true } : Md) with err := 15 } : Md), []), ((mkC 6 1 1 [97] []), []), ((mkC 6 2 5 [] []), []), (({ mkF 6 1 [113] [55] with err := 14 } : Md), [])] := ⟨rfl, hrow, fun q hq => by simp only [List.mem_cons, List.not_mem_nil, or_false] at hq; rcases hq with rfl | rfl | rfl | rfl | rfl <;> exact ⟨rfl, RowsAt.nil _ _, by decide, by decide⟩⟩
  have HA := Lib.hid (serialK w5 none 0 0 [] (EntsAt.nil w5) (by omega) (by rfl) (some ⟨w29.heap.size + 1, 0, none⟩) 5 c5 [((mkC 5 1 3 [97] [49]), []), (({ ({ ({ (mkC 5 2 5 [] []) with dn := false } : Md) with dn := true } : Md) with err := 15 } : Md), []), ((mkC 6 1 1 [97] []), []), ((mkC 6 2 5 [] []), []), (({ mkF 6 1 [113] [55] with err := 14 } : Md), [])] hq5 (by omega) (by rfl) (-1) (by kernel_rfl))
  have HV5 := Lib.hid (HV.out.trans (hb5.mono HV.out.size))
  clear hN hrow hb5 hq5 HV
  go_wp2_with (first | ((refine wpList_free (by rfl) ?_); (with_reducible refine wpList_loadM rfl _ rfl _ _ _ HLd.out ?_ ?_); rfl) | ((refine wpList_free (by rfl) ?_); (with_reducible refine wpList_buildM1 rfl _ rfl ({ mkF 6 1 [113] [55] with err := 14 } : Md) ?_ ?_); rfl) | (at_builtin; (refine wpList_free (by rfl) ?_); (with_reducible refine wpList_append_run rfl _ _ _ rfl _ _ _ _ ?_ ?_ hrun ?_); rfl; rfl))
  refine (HA.out).mono ?_
  rintro e w30 ⟨rfl, hb⟩
  have hbx := HV5.out.trans (hb.mono HV5.out.size)
  have NHX := Lib.hid (HX.out.on hbx)
  have NHE1 := Lib.hid (HE1.out.on hbx)
  have NHL := Lib.hid (HL.out.on hbx)
  have NHY := Lib.hid (HY.out.on hbx)
  have NHB := Lib.hid (HB.out.trans (hbx.mono HB.out.size))
  clear hbx HB HX HE1 HL HY
  have HX := NHX
  have HE1 := NHE1
  have HL := NHL
  have HY := NHY
  have HB := NHB
  clear NHB NHX NHE1 NHL NHY
  clear hb HV5 HA hrun HLd
  clear HX HL HY HE1 HO1
  go_wp2_with fail
  refine (HC.out 8 2 2 [97] [] _).mono ?_
  rintro e w31 ⟨rfl, hb⟩
  have hbx := hb
  have NHB := Lib.hid (HB.out.trans (hbx.mono HB.out.size))
  clear hbx HB
  have HB := NHB
  clear NHB
  clear hb
  go_wp2_with fail
  refine (HC.out 8 3 2 [] [] _).mono ?_
  rintro e w32 ⟨rfl, hb⟩
  have hbx := hb
  have NHB := Lib.hid (HB.out.trans (hbx.mono HB.out.size))
  clear hbx HB
  have HB := NHB
  clear NHB
  clear hb
  have z5 : Blk ((w32.alloc (.cells [.int .u64 0, .int .i64 0, .int .i64 0, .int .u64 0, .string ⟨#[]⟩, .string ⟨#[]⟩, .string ⟨#[]⟩, .bool false, .int .u64 0, .int .i64 0, .int .i64 0, .bool false, .string ⟨#[]⟩, .slice none 0 0, .int .i64 0, .int .i64 0].toArray 37)).alloc (.cells [.int .u64 0, .int .i64 0, .int .i64 0, .int .u64 0, .string ⟨#[]⟩, .string ⟨#[]⟩, .string ⟨#[]⟩, .bool false, .int .u64 0, .int .i64 0, .int .i64 0, .bool false, .string ⟨#[]⟩, .slice none 0 0, .int .i64 0, .int .i64 0].toArray 37)) w32.heap.size [.int .u64 0, .int .i64 0, .int .i64 0, .int .u64 0, .string ⟨#[]⟩, .string ⟨#[]⟩, .string ⟨#[]⟩, .bool false, .int .u64 0, .int .i64 0, .int .i64 0, .bool false, .string ⟨#[]⟩, .slice none 0 0, .int .i64 0, .int .i64 0] 37 := (Blk.new w32 [.int .u64 0, .int .i64 0, .int .i64 0, .int .u64 0, .string ⟨#[]⟩, .string ⟨#[]⟩, .string ⟨#[]⟩, .bool false, .int .u64 0, .int .i64 0, .int .i64 0, .bool false, .string ⟨#[]⟩, .slice none 0 0, .int .i64 0, .int .i64 0] 37).alloc _
  have z6a : Blk ((w32.alloc (.cells [.int .u64 0, .int .i64 0, .int .i64 0, .int .u64 0, .string ⟨#[]⟩, .string ⟨#[]⟩, .string ⟨#[]⟩, .bool false, .int .u64 0, .int .i64 0, .int .i64 0, .bool false, .string ⟨#[]⟩, .slice none 0 0, .int .i64 0, .int .i64 0].toArray 37)).alloc (.cells [.int .u64 0, .int .i64 0, .int .i64 0, .int .u64 0, .string ⟨#[]⟩, .string ⟨#[]⟩, .string ⟨#[]⟩, .bool false, .int .u64 0, .int .i64 0, .int .i64 0, .bool false, .string ⟨#[]⟩, .slice none 0 0, .int .i64 0, .int .i64 0].toArray 37)) (w32.heap.size + 1) [.int .u64 0, .int .i64 0, .int .i64 0, .int .u64 0, .string ⟨#[]⟩, .string ⟨#[]⟩, .string ⟨#[]⟩, .bool false, .int .u64 0, .int .i64 0, .int .i64 0, .bool false, .string ⟨#[]⟩, .slice none 0 0, .int .i64 0, .int .i64 0] 37 := by
    have := Blk.new (w32.alloc (.cells [.int .u64 0, .int .i64 0, .int .i64 0, .int .u64 0, .string ⟨#[]⟩, .string ⟨#[]⟩, .string ⟨#[]⟩, .bool false, .int .u64 0, .int .i64 0, .int .i64 0, .bool false, .string ⟨#[]⟩, .slice none 0 0, .int .i64 0, .int .i64 0].toArray 37)) [.int .u64 0, .int .i64 0, .int .i64 0, .int .u64 0, .string ⟨#[]⟩, .string ⟨#[]⟩, .string ⟨#[]⟩, .bool false, .int .u64 0, .int .i64 0, .int .i64 0, .bool false, .string ⟨#[]⟩, .slice none 0 0, .int .i64 0, .int .i64 0] 37
    rw [World.size_alloc] at this
    exact this
  have z6 : Blk (((w32.alloc (.cells [.int .u64 0, .int .i64 0, .int .i64 0, .int .u64 0, .string ⟨#[]⟩, .string ⟨#[]⟩, .string ⟨#[]⟩, .bool false, .int .u64 0, .int .i64 0, .int .i64 0, .bool false, .string ⟨#[]⟩, .slice none 0 0, .int .i64 0, .int .i64 0].toArray 37)).alloc (.cells [.int .u64 0, .int .i64 0, .int .i64 0, .int .u64 0, .string ⟨#[]⟩, .string ⟨#[]⟩, .string ⟨#[]⟩, .bool false, .int .u64 0, .int .i64 0, .int .i64 0, .bool false, .string ⟨#[]⟩, .slice none 0 0, .int .i64 0, .int .i64 0].toArray 37)).setRow w32.heap.size (mdCells (mkC 8 2 2 [97] [])).toArray) (w32.heap.size + 1) [.int .u64 0, .int .i64 0, .int .i64 0, .int .u64 0, .string ⟨#[]⟩, .string ⟨#[]⟩, .string ⟨#[]⟩, .bool false, .int .u64 0, .int .i64 0, .int .i64 0, .bool false, .string ⟨#[]⟩, .slice none 0 0, .int .i64 0, .int .i64 0] 37 := z6a.mod (setRow_mod _ _ _) (by simp)
  have hS5 : Blk ((((w32.alloc (.cells [.int .u64 0, .int .i64 0, .int .i64 0, .int .u64 0, .string ⟨#[]⟩, .string ⟨#[]⟩, .string ⟨#[]⟩, .bool false, .int .u64 0, .int .i64 0, .int .i64 0, .bool false, .string ⟨#[]⟩, .slice none 0 0, .int .i64 0, .int .i64 0].toArray 37)).alloc (.cells [.int .u64 0, .int .i64 0, .int .i64 0, .int .u64 0, .string ⟨#[]⟩, .string ⟨#[]⟩, .string ⟨#[]⟩, .bool false, .int .u64 0, .int .i64 0, .int .i64 0, .bool false, .string ⟨#[]⟩, .slice none 0 0, .int .i64 0, .int .i64 0].toArray 37)).setRow w32.heap.size (mdCells (mkC 8 2 2 [97] [])).toArray).setRow (w32.heap.size + 1) (mdCells (mkC 8 3 2 [] [])).toArray) w32.heap.size (mdCells (mkC 8 2 2 [97] [])) 37 := (setRow_blk z5 (mdCells (mkC 8 2 2 [97] []))).mod (setRow_mod _ _ _) (by simp)
  have hS6 : Blk ((((w32.alloc (.cells [.int .u64 0, .int .i64 0, .int .i64 0, .int .u64 0, .string ⟨#[]⟩, .string ⟨#[]⟩, .string ⟨#[]⟩, .bool false, .int .u64 0, .int .i64 0, .int .i64 0, .bool false, .string ⟨#[]⟩, .slice none 0 0, .int .i64 0, .int .i64 0].toArray 37)).alloc (.cells [.int .u64 0, .int .i64 0, .int .i64 0, .int .u64 0, .string ⟨#[]⟩, .string ⟨#[]⟩, .string ⟨#[]⟩, .bool false, .int .u64 0, .int .i64 0, .int .i64 0, .bool false, .string ⟨#[]⟩, .slice none 0 0, .int .i64 0, .int .i64 0].toArray 37)).setRow w32.heap.size (mdCells (mkC 8 2 2 [97] [])).toArray).setRow (w32.heap.size + 1) (mdCells (mkC 8 3 2 [] [])).toArray) (w32.heap.size + 1) (mdCells (mkC 8 3 2 [] [])) 37 := setRow_blk z6 (mdCells (mkC 8 3 2 [] []))
  have hb : Below w32.heap.size w32 ((((w32.alloc (.cells [.int .u64 0, .int .i64 0, .int .i64 0, .int .u64 0, .string ⟨#[]⟩, .string ⟨#[]⟩, .string ⟨#[]⟩, .bool false, .int .u64 0, .int .i64 0, .int .i64 0, .bool false, .string ⟨#[]⟩, .slice none 0 0, .int .i64 0, .int .i64 0].toArray 37)).alloc (.cells [.int .u64 0, .int .i64 0, .int .i64 0, .int .u64 0, .string ⟨#[]⟩, .string ⟨#[]⟩, .string ⟨#[]⟩, .bool false, .int .u64 0, .int .i64 0, .int .i64 0, .bool false, .string ⟨#[]⟩, .slice none 0 0, .int .i64 0, .int .i64 0].toArray 37)).setRow w32.heap.size (mdCells (mkC 8 2 2 [97] [])).toArray).setRow (w32.heap.size + 1) (mdCells (mkC 8 3 2 [] [])).toArray) := by
    have h1 : Below w32.heap.size w32 ((w32.alloc (.cells [.int .u64 0, .int .i64 0, .int .i64 0, .int .u64 0, .string ⟨#[]⟩, .string ⟨#[]⟩, .string ⟨#[]⟩, .bool false, .int .u64 0, .int .i64 0, .int .i64 0, .bool false, .string ⟨#[]⟩, .slice none 0 0, .int .i64 0, .int .i64 0].toArray 37)).alloc (.cells [.int .u64 0, .int .i64 0, .int .i64 0, .int .u64 0, .string ⟨#[]⟩, .string ⟨#[]⟩, .string ⟨#[]⟩, .bool false, .int .u64 0, .int .i64 0, .int .i64 0, .bool false, .string ⟨#[]⟩, .slice none 0 0, .int .i64 0, .int .i64 0].toArray 37)) := ((Below.refl w32.heap.size w32).alloc (Nat.le_refl _) _).alloc (by simp) _
    have h2 := h1.trans ((setRow_mod ((w32.alloc (.cells [.int .u64 0, .int .i64 0, .int .i64 0, .int .u64 0, .string ⟨#[]⟩, .string ⟨#[]⟩, .string ⟨#[]⟩, .bool false, .int .u64 0, .int .i64 0, .int .i64 0, .bool false, .string ⟨#[]⟩, .slice none 0 0, .int .i64 0, .int .i64 0].toArray 37)).alloc (.cells [.int .u64 0, .int .i64 0, .int .i64 0, .int .u64 0, .string ⟨#[]⟩, .string ⟨#[]⟩, .string ⟨#[]⟩, .bool false, .int .u64 0, .int .i64 0, .int .i64 0, .bool false, .string ⟨#[]⟩, .slice none 0 0, .int .i64 0, .int .i64 0].toArray 37)) w32.heap.size (mdCells (mkC 8 2 2 [97] [])).toArray).below (B := w32.heap.size) (fun x hx => by simp at hx; omega) h1.size)
    exact h2.trans ((setRow_mod (((w32.alloc (.cells [.int .u64 0, .int .i64 0, .int .i64 0, .int .u64 0, .string ⟨#[]⟩, .string ⟨#[]⟩, .string ⟨#[]⟩, .bool false, .int .u64 0, .int .i64 0, .int .i64 0, .bool false, .string ⟨#[]⟩, .slice none 0 0, .int .i64 0, .int .i64 0].toArray 37)).alloc (.cells [.int .u64 0, .int .i64 0, .int .i64 0, .int .u64 0, .string ⟨#[]⟩, .string ⟨#[]⟩, .string ⟨#[]⟩, .bool false, .int .u64 0, .int .i64 0, .int .i64 0, .bool false, .string ⟨#[]⟩, .slice none 0 0, .int .i64 0, .int .i64 0].toArray 37)).setRow w32.heap.size (mdCells (mkC 8 2 2 [97] [])).toArray) (w32.heap.size + 1) (mdCells (mkC 8 3 2 [] [])).toArray).below (B := w32.heap.size) (fun x hx => by simp at hx; omega) h2.size)
  have Z5 := Lib.hid z5
  have Z6 := Lib.hid z6
  have HS := Lib.hid hS5
  have HT := Lib.hid hS6
  have HBx := Lib.hid hb
  clear z5 z6 z6a hS5 hS6 hb
  go_upto_region 18 with (first | ((with_reducible refine wpList_storeB rfl _ _ rfl _ _ (mkC 8 2 2 [97] []) Z5.out rfl ?_ ?_ ?_); rfl; rfl) | ((with_reducible refine wpList_storeB rfl _ _ rfl _ _ (mkC 8 3 2 [] []) Z6.out rfl ?_ ?_ ?_); rfl; rfl))
  clear Z5 Z6
  obtain ⟨sb, hsb⟩ : ∃ sb, w32.heap.size = sb := ⟨_, rfl⟩
  have HSl := Lib.hid (show w.heap.size ≤ sb by rw [← hsb]; exact HB.out.size)
  rw [hsb] at HS HT HBx
  rw [hsb]
  generalize ((((w32.alloc (.cells [.int .u64 0, .int .i64 0, .int .i64 0, .int .u64 0, .string ⟨#[]⟩, .string ⟨#[]⟩, .string ⟨#[]⟩, .bool false, .int .u64 0, .int .i64 0, .int .i64 0, .bool false, .string ⟨#[]⟩, .slice none 0 0, .int .i64 0, .int .i64 0].toArray 37)).alloc (.cells [.int .u64 0, .int .i64 0, .int .i64 0, .int .u64 0, .string ⟨#[]⟩, .string ⟨#[]⟩, .string ⟨#[]⟩, .bool false, .int .u64 0, .int .i64 0, .int .i64 0, .bool false, .string ⟨#[]⟩, .slice none 0 0, .int .i64 0, .int .i64 0].toArray 37)).setRow sb (mdCells (mkC 8 2 2 [97] [])).toArray).setRow (sb + 1) (mdCells (mkC 8 3 2 [] [])).toArray) = w33 at *
  have HBx := Lib.hid (show Below sb w32 w33 from HBx.out)
  have NHB := Lib.hid (HB.out.trans (HBx.out.mono (by have := HSl.out; have := HB.out.size; omega)))
  clear HB HBx hsb
  have HB := NHB
  clear NHB
  have hY := HS.out
  have f2 := hY.free 5
  have f3 : w33.cell? ⟨sb, 5, none⟩ = some (.string ⟨#[]⟩) := by rw [hY.cell]; rfl
  have hY2 : Blk (w33.setCell ⟨sb, 5, none⟩ (.string ⟨#[98]⟩)) sb (mdCells ({ (mkC 8 2 2 [97] []) with hi := [98] } : Md)) 37 := hY.set 5 (.string ⟨#[98]⟩)
  have hm : Mod [sb] w33 (w33.setCell ⟨sb, 5, none⟩ (.string ⟨#[98]⟩)) := (Mod.refl _ _).setCell _ _ (.inl (by simp))
  have NHT := Lib.hid (HT.out.mod hm (by simp))
  have NHB := Lib.hid (HB.out.trans (hm.below (fun x hx => by simp at hx; have := HSl.out; omega) HB.out.size))
  clear HB HT HS hm
  have HT := NHT
  clear NHT
  have HB := NHB
  clear NHB
  have HS := Lib.hid hY2
  clear hY hY2
  go_upto_region 19 with fail
  clear f2 f3
  generalize w33.setCell ⟨sb, 5, none⟩ (.string ⟨#[98]⟩) = w34 at *
  have hbP := (Below.refl w34.heap.size w34).alloc (Nat.le_refl _) (.cells #[.string ⟨#[97]⟩, .string ⟨#[49]⟩] 47)
  have hP : Blk (w34.alloc (.cells #[.string ⟨#[97]⟩, .string ⟨#[49]⟩] 47)) w34.heap.size (pairsCells [([97], [49])]) 47 := Blk.new w34 (pairsCells [([97], [49])]) 47
  obtain ⟨pb, hpb⟩ : ∃ x, w34.heap.size = x := ⟨_, rfl⟩
  have Hpbl := Lib.hid (show sb < pb ∧ sb + 1 < pb by rw [← hpb]; exact ⟨by have := HS.out.lt; have := HT.out.lt; omega, HT.out.lt⟩)
  rw [hpb] at hP
  have hT0 := HS.out.on hbP
  have f2 := hT0.free 13
  have f3 : (w34.alloc (.cells #[.string ⟨#[97]⟩, .string ⟨#[49]⟩] 47)).cell? ⟨sb, 13, none⟩ = some (.slice none 0 0) := by rw [hT0.cell]; rfl
  have hT2 : Blk ((w34.alloc (.cells #[.string ⟨#[97]⟩, .string ⟨#[49]⟩] 47)).setCell ⟨sb, 13, none⟩ (.slice (some ⟨pb, 0, none⟩) 1 1)) sb (mdCells ({ ({ (mkC 8 2 2 [97] []) with hi := [98] } : Md) with pa := some ⟨pb, 0, none⟩, pn := 1, pc := 1 } : Md)) 37 := hT0.set 13 (.slice (some ⟨pb, 0, none⟩) 1 1)
  have hm : Mod [sb] (w34.alloc (.cells #[.string ⟨#[97]⟩, .string ⟨#[49]⟩] 47)) ((w34.alloc (.cells #[.string ⟨#[97]⟩, .string ⟨#[49]⟩] 47)).setCell ⟨sb, 13, none⟩ (.slice (some ⟨pb, 0, none⟩) 1 1)) := (Mod.refl _ _).setCell _ _ (.inl (by simp))
  have hP2 := hP.mod hm (by have := Hpbl.out; simp; omega)
  have NHT := Lib.hid ((HT.out.on hbP).mod hm (by simp))
  have NHB := Lib.hid ((HB.out.trans (hbP.mono HB.out.size)).trans (hm.below (fun x hx => by simp at hx; have := HSl.out; omega) (HB.out.trans (hbP.mono HB.out.size)).size))
  clear HB hT0 hm hP hbP HS HT
  have HT := NHT
  clear NHT
  have HB := NHB
  clear NHB
  have HS := Lib.hid hT2
  have Hpb := Lib.hid hP2
  clear hT2 hP2
  go_upto_region 20 with fail
  try rw [hpb]
  clear f2 f3
  generalize ((w34.alloc (.cells #[.string ⟨#[97]⟩, .string ⟨#[49]⟩] 47)).setCell ⟨sb, 13, none⟩ (.slice (some ⟨pb, 0, none⟩) 1 1)) = w35 at *
  clear hpb
  have hbP := (Below.refl w35.heap.size w35).alloc (Nat.le_refl _) (.cells #[.string ⟨#[97]⟩, .string ⟨#[49]⟩, .string ⟨#[99]⟩, .string ⟨#[51]⟩] 47)
  have hP : Blk (w35.alloc (.cells #[.string ⟨#[97]⟩, .string ⟨#[49]⟩, .string ⟨#[99]⟩, .string ⟨#[51]⟩] 47)) w35.heap.size (pairsCells [([97], [49]), ([99], [51])]) 47 := Blk.new w35 (pairsCells [([97], [49]), ([99], [51])]) 47
  obtain ⟨qb, hpb⟩ : ∃ x, w35.heap.size = x := ⟨_, rfl⟩
  have Hqbl := Lib.hid (show sb < qb ∧ sb + 1 < qb by rw [← hpb]; exact ⟨by have := HS.out.lt; have := HT.out.lt; omega, HT.out.lt⟩)
  rw [hpb] at hP
  have hT0 := HT.out.on hbP
  have f2 := hT0.free 13
  have f3 : (w35.alloc (.cells #[.string ⟨#[97]⟩, .string ⟨#[49]⟩, .string ⟨#[99]⟩, .string ⟨#[51]⟩] 47)).cell? ⟨(sb + 1), 13, none⟩ = some (.slice none 0 0) := by rw [hT0.cell]; rfl
  have hT2 : Blk ((w35.alloc (.cells #[.string ⟨#[97]⟩, .string ⟨#[49]⟩, .string ⟨#[99]⟩, .string ⟨#[51]⟩] 47)).setCell ⟨(sb + 1), 13, none⟩ (.slice (some ⟨qb, 0, none⟩) 2 2)) (sb + 1) (mdCells ({ (mkC 8 3 2 [] []) with pa := some ⟨qb, 0, none⟩, pn := 2, pc := 2 } : Md)) 37 := hT0.set 13 (.slice (some ⟨qb, 0, none⟩) 2 2)
  have hm : Mod [(sb + 1)] (w35.alloc (.cells #[.string ⟨#[97]⟩, .string ⟨#[49]⟩, .string ⟨#[99]⟩, .string ⟨#[51]⟩] 47)) ((w35.alloc (.cells #[.string ⟨#[97]⟩, .string ⟨#[49]⟩, .string ⟨#[99]⟩, .string ⟨#[51]⟩] 47)).setCell ⟨(sb + 1), 13, none⟩ (.slice (some ⟨qb, 0, none⟩) 2 2)) := (Mod.refl _ _).setCell _ _ (.inl (by simp))
  have hP2 := hP.mod hm (by have := Hqbl.out; simp; omega)
  have NHS := Lib.hid ((HS.out.on hbP).mod hm (by simp))
  have NHpb := Lib.hid ((Hpb.out.on hbP).mod hm (by have := Hpbl.out; simp; omega))
  have NHB := Lib.hid ((HB.out.trans (hbP.mono HB.out.size)).trans (hm.below (fun x hx => by simp at hx; have := HSl.out; omega) (HB.out.trans (hbP.mono HB.out.size)).size))
  clear HB hT0 hm hP hbP HT HS Hpb
  have HS := NHS
  clear NHS
  have Hpb := NHpb
  clear NHpb
  have HB := NHB
  clear NHB
  have HT := Lib.hid hT2
  have Hqb := Lib.hid hP2
  clear hT2 hP2
  go_upto_region 21 with fail
  try rw [hpb]
  clear f2 f3
  generalize ((w35.alloc (.cells #[.string ⟨#[97]⟩, .string ⟨#[49]⟩, .string ⟨#[99]⟩, .string ⟨#[51]⟩] 47)).setCell ⟨(sb + 1), 13, none⟩ (.slice (some ⟨qb, 0, none⟩) 2 2)) = w36 at *
  clear hpb
  have HF5 := Lib.hid (show ∀ w', Below w36.heap.size w36 w' → (Instr.loadAt 37 (.pointer (some ⟨sb, 0, none⟩))).run Try.prog w' = .ok (.agg (mdCells ({ ({ (mkC 8 2 2 [97] []) with hi := [98] } : Md) with pa := some ⟨pb, 0, none⟩, pn := 1, pc := 1 } : Md)).toArray) w' from fun w' hb => run_loadAt_mid (P := Try.prog) w' sb 0 37 (mdCells ({ ({ (mkC 8 2 2 [97] []) with hi := [98] } : Md) with pa := some ⟨pb, 0, none⟩, pn := 1, pc := 1 } : Md)) _ (fun j v hv => by rw [(HS.out.on hb).cell, Nat.zero_add]; exact hv) Try.underlying37 rfl (info_made _))
  have HF6 := Lib.hid (show ∀ w', Below w36.heap.size w36 w' → (Instr.loadAt 37 (.pointer (some ⟨(sb + 1), 0, none⟩))).run Try.prog w' = .ok (.agg (mdCells ({ (mkC 8 3 2 [] []) with pa := some ⟨qb, 0, none⟩, pn := 2, pc := 2 } : Md)).toArray) w' from fun w' hb => run_loadAt_mid (P := Try.prog) w' (sb + 1) 0 37 (mdCells ({ (mkC 8 3 2 [] []) with pa := some ⟨qb, 0, none⟩, pn := 2, pc := 2 } : Md)) _ (fun j v hv => by rw [(HT.out.on hb).cell, Nat.zero_add]; exact hv) Try.underlying37 rfl (info_made _))
  refine wp_region_plan (.take 3 (.take 4 (.one 0 (.one 1 (.one 2 (.one 5 (.one 6 (.one 7 (.one 8 (.one 9 .done)))))))))) (Below w36.heap.size w36) (by kernel_rfl) (by kernel_rfl) (by kernel_rfl) (fun c a d v w h => by cases d <;> exact h) (below_drew (Below.refl _ _)) ?_
  simp only [PlanI.fill, List.getD_cons_zero, List.getD_cons_succ]
  have hS : Below w36.heap.size w36 { w36 with drawn := w36.drawn + 1 } := below_drew (Below.refl _ _)
  generalize ({ w36 with drawn := w36.drawn + 1 } : World) = w37 at *
  refine plan_take (by rfl) (fun w' hS => exec_load _ _ rfl _ rfl (HF5.out w' hS)) ?_
  simp only [Act.put, List.setIfInBounds_toArray, List.set_cons_zero, List.set_cons_succ]
  refine plan_take (by rfl) (fun w' hS => exec_load _ _ rfl _ rfl (HF6.out w' hS)) ?_
  simp only [Act.put, List.setIfInBounds_toArray, List.set_cons_zero, List.set_cons_succ]
  clear HF5 HF6
  refine plan_step (by rfl) (fun K hK => ?_)
  go_simp
  refine (HC.out 7 1 3 [99] [51] _).mono ?_
  rintro e w38 ⟨rfl, hb⟩
  have hSn := hS.trans (hb.mono hS.size)
  refine hK.out _ _ hSn ?_
  clear hK K hS
  have hS := hSn
  clear hSn
  clear hb
  refine plan_step (by rfl) (fun K hK => ?_)
  go_simp
  refine (HC.out 7 2 5 [] [] _).mono ?_
  rintro e w39 ⟨rfl, hb⟩
  have hSn := hS.trans (hb.mono hS.size)
  refine hK.out _ _ hSn ?_
  clear hK K hS
  have hS := hSn
  clear hSn
  clear hb
  refine plan_step (by rfl) (fun K hK => ?_)
  go_simp
  refine (HC.out 8 1 3 [97] [49] _).mono ?_
  rintro e w40 ⟨rfl, hb⟩
  have hSn := hS.trans (hb.mono hS.size)
  refine hK.out _ _ hSn ?_
  clear hK K hS
  have hS := hSn
  clear hSn
  clear hb
  refine plan_step (by rfl) (fun K hK => ?_)
  go_simp
  refine (HC.out 8 4 4 [97] [] _).mono ?_
  rintro e w41 ⟨rfl, hb⟩
  have hSn := hS.trans (hb.mono hS.size)
  refine hK.out _ _ hSn ?_
  clear hK K hS
  have hS := hSn
  clear hSn
  clear hb
  refine plan_step (by rfl) (fun K hK => ?_)
  go_simp
  refine (HC.out 8 5 1 [97] [] _).mono ?_
  rintro e w42 ⟨rfl, hb⟩
  have hSn := hS.trans (hb.mono hS.size)
  refine hK.out _ _ hSn ?_
  clear hK K hS
  have hS := hSn
  clear hSn
  clear hb
  refine plan_step (by rfl) (fun K hK => ?_)
  go_simp
  refine (HC.out 8 6 5 [] [] _).mono ?_
  rintro e w43 ⟨rfl, hb⟩
  have hSn := hS.trans (hb.mono hS.size)
  refine hK.out _ _ hSn ?_
  clear hK K hS
  have hS := hSn
  clear hSn
  clear hb
  refine plan_step (by rfl) (fun K hK => ?_)
  (with_reducible refine wp_buildM8 _ _ _ _ _ _ _ _ rfl (mkC 7 1 3 [99] [51]) (mkC 7 2 5 [] []) (mkC 8 1 3 [97] [49]) ({ ({ (mkC 8 2 2 [97] []) with hi := [98] } : Md) with pa := some ⟨pb, 0, none⟩, pn := 1, pc := 1 } : Md) ({ (mkC 8 3 2 [] []) with pa := some ⟨qb, 0, none⟩, pn := 2, pc := 2 } : Md) (mkC 8 4 4 [97] []) (mkC 8 5 1 [97] []) (mkC 8 6 5 [] []) ?_ ?_ ?_ ?_ ?_ ?_ ?_ ?_ ?_) <;> try rfl
  refine hK.out _ _ (hS.alloc hS.size _) ?_
  clear hK K
  have hZ := Blk.new w43 (mdsCells [(mkC 7 1 3 [99] [51]), (mkC 7 2 5 [] []), (mkC 8 1 3 [97] [49]), ({ ({ (mkC 8 2 2 [97] []) with hi := [98] } : Md) with pa := some ⟨pb, 0, none⟩, pn := 1, pc := 1 } : Md), ({ (mkC 8 3 2 [] []) with pa := some ⟨qb, 0, none⟩, pn := 2, pc := 2 } : Md), (mkC 8 4 4 [97] []), (mkC 8 5 1 [97] []), (mkC 8 6 5 [] [])]) 37
  have hSn := hS.alloc hS.size (.cells (mdsCells [(mkC 7 1 3 [99] [51]), (mkC 7 2 5 [] []), (mkC 8 1 3 [97] [49]), ({ ({ (mkC 8 2 2 [97] []) with hi := [98] } : Md) with pa := some ⟨pb, 0, none⟩, pn := 1, pc := 1 } : Md), ({ (mkC 8 3 2 [] []) with pa := some ⟨qb, 0, none⟩, pn := 2, pc := 2 } : Md), (mkC 8 4 4 [97] []), (mkC 8 5 1 [97] []), (mkC 8 6 5 [] [])]).toArray 37)
  obtain ⟨zb, hzb⟩ : ∃ x, w43.heap.size = x := ⟨_, rfl⟩
  rw [hzb] at hZ
  try rw [hzb]
  generalize w43.alloc (.cells (mdsCells [(mkC 7 1 3 [99] [51]), (mkC 7 2 5 [] []), (mkC 8 1 3 [97] [49]), ({ ({ (mkC 8 2 2 [97] []) with hi := [98] } : Md) with pa := some ⟨pb, 0, none⟩, pn := 1, pc := 1 } : Md), ({ (mkC 8 3 2 [] []) with pa := some ⟨qb, 0, none⟩, pn := 2, pc := 2 } : Md), (mkC 8 4 4 [97] []), (mkC 8 5 1 [97] []), (mkC 8 6 5 [] [])]).toArray 37) = w44 at *
  clear hS hzb
  have hS := hSn
  clear hSn
  refine plan_step (by rfl) (fun K hK => ?_)
  go_simp
  refine hK.out _ _ hS ?_
  clear hK K
  refine plan_done ?_
  have hbx := hS
  have NHS := Lib.hid (HS.out.on hbx)
  have NHT := Lib.hid (HT.out.on hbx)
  have NHpb := Lib.hid (Hpb.out.on hbx)
  have NHqb := Lib.hid (Hqb.out.on hbx)
  have NHB := Lib.hid (HB.out.trans (hbx.mono HB.out.size))
  clear hbx HB HS HT Hpb Hqb
  have HS := NHS
  have HT := NHT
  have Hpb := NHpb
  have Hqb := NHqb
  have HB := NHB
  clear NHB NHS NHT NHpb NHqb
  have HZ := Lib.hid (madeAt_of (Q := [((mkC 7 1 3 [99] [51]), []), ((mkC 7 2 5 [] []), []), ((mkC 8 1 3 [97] [49]), []), (({ ({ (mkC 8 2 2 [97] []) with hi := [98] } : Md) with pa := some ⟨pb, 0, none⟩, pn := 1, pc := 1 } : Md), [([97], [49])]), (({ (mkC 8 3 2 [] []) with pa := some ⟨qb, 0, none⟩, pn := 2, pc := 2 } : Md), [([97], [49]), ([99], [51])]), ((mkC 8 4 4 [97] []), []), ((mkC 8 5 1 [97] []), []), ((mkC 8 6 5 [] []), [])]) hZ (fun q hq => by
    simp only [List.mem_cons, List.not_mem_nil, or_false] at hq
    rcases hq with rfl | rfl | rfl | rfl | rfl | rfl | rfl | rfl
    · exact ⟨rfl, RowsAt.nil _ _, by decide, by decide⟩
    · exact ⟨rfl, RowsAt.nil _ _, by decide, by decide⟩
    · exact ⟨rfl, RowsAt.nil _ _, by decide, by decide⟩
    · exact ⟨rfl, pairsAt_of (Q := [([97], [49])]) Hpb.out 1 rfl (by omega), by show (8 : Nat) < 18446744073709551616; omega, by show ([97] : Txt).length ≤ maxLen; decide⟩
    · exact ⟨rfl, pairsAt_of (Q := [([97], [49]), ([99], [51])]) Hqb.out 2 rfl (by omega), by show (8 : Nat) < 18446744073709551616; omega, by show ([] : Txt).length ≤ maxLen; decide⟩
    · exact ⟨rfl, RowsAt.nil _ _, by decide, by decide⟩
    · exact ⟨rfl, RowsAt.nil _ _, by decide, by decide⟩
    · exact ⟨rfl, RowsAt.nil _ _, by decide, by decide⟩) 8 rfl (by omega))
  clear hZ hS HS HT Hpb Hqb
  go_upto_region 23 with fail
  have hb : Below w44.heap.size w44 ((w44.alloc (.cells #[.string ⟨#[97]⟩, .int .u64 0, .bool true, .string ⟨#[]⟩] 58)).alloc (.cells #[.int .u64 8, .int .u64 0, .slice (some ⟨w44.heap.size, 0, none⟩) 1 1] 40)) := ((Below.refl _ _).alloc (Nat.le_refl _) _).alloc (by simp) _
  have hR : Blk ((w44.alloc (.cells #[.string ⟨#[97]⟩, .int .u64 0, .bool true, .string ⟨#[]⟩] 58)).alloc (.cells #[.int .u64 8, .int .u64 0, .slice (some ⟨w44.heap.size, 0, none⟩) 1 1] 40)) w44.heap.size (recsCells [⟨[97], 0, true, []⟩]) 58 := (Blk.new w44 (recsCells [⟨[97], 0, true, []⟩]) _).alloc _
  have hG : Blk ((w44.alloc (.cells #[.string ⟨#[97]⟩, .int .u64 0, .bool true, .string ⟨#[]⟩] 58)).alloc (.cells #[.int .u64 8, .int .u64 0, .slice (some ⟨w44.heap.size, 0, none⟩) 1 1] 40)) (w44.heap.size + 1) (entCells ⟨8, 0, some ⟨w44.heap.size, 0, none⟩, 1, 1⟩) 40 := by
    have := Blk.new (w44.alloc (.cells #[.string ⟨#[97]⟩, .int .u64 0, .bool true, .string ⟨#[]⟩] 58)) (entCells ⟨8, 0, some ⟨w44.heap.size, 0, none⟩, 1, 1⟩) 40
    rw [World.size_alloc] at this
    exact this
  have hGe : EntIs ((w44.alloc (.cells #[.string ⟨#[97]⟩, .int .u64 0, .bool true, .string ⟨#[]⟩] 58)).alloc (.cells #[.int .u64 8, .int .u64 0, .slice (some ⟨w44.heap.size, 0, none⟩) 1 1] 40)) ⟨8, 0, some ⟨w44.heap.size, 0, none⟩, 1, 1⟩ ⟨8, 0, [⟨[97], 0, true, []⟩]⟩ := ⟨rfl, rfl, rfl, recsAt_of (Q := [⟨[97], 0, true, []⟩]) hR 1 rfl (by omega), by decide, by decide, by simp [Rec.ok, maxLen]⟩
  obtain ⟨rb, hrb⟩ : ∃ x, w44.heap.size = x := ⟨_, rfl⟩
  clear hR
  rw [hrb] at hG hGe hb
  try rw [hrb]
  generalize ((w44.alloc (.cells #[.string ⟨#[97]⟩, .int .u64 0, .bool true, .string ⟨#[]⟩] 58)).alloc (.cells #[.int .u64 8, .int .u64 0, .slice (some ⟨rb, 0, none⟩) 1 1] 40)) = w45 at *
  rw [← hrb] at hb
  clear hrb
  have hbx := hb
  have NHZ := Lib.hid (HZ.out.on hbx)
  have NHB := Lib.hid (HB.out.trans (hbx.mono HB.out.size))
  clear hbx HB HZ
  have HZ := NHZ
  have HB := NHB
  clear NHB NHZ
  clear hb
  have HG := Lib.hid hG
  have HGe := Lib.hid hGe
  clear hG hGe
  have HFg := Lib.hid (show ∀ w', Below w45.heap.size w45 w' → (w'.cell? ⟨rb + 1, 0, none⟩ = some (.int .u64 8) ∧ w'.cell? ⟨rb + 1, 1, none⟩ = some (.int .u64 0) ∧ w'.cell? ⟨rb + 1, 2, none⟩ = some (.slice (some ⟨rb, 0, none⟩) 1 1)) from fun w' hb => ⟨by rw [(HG.out.on hb).cell]; rfl, by rw [(HG.out.on hb).cell]; rfl, by rw [(HG.out.on hb).cell]; rfl⟩)
  refine wp_region_plan (.take 1 (.take 3 (.one 0 (.one 2 (.one 4 (.one 5 (.one 6 (.take 10 (.one 7 (.one 8 (.one 9 (.one 11 (.one 12 (.one 13 (.one 14 (.take 16 (.take 17 (.take 19 (.one 15 (.one 18 (.one 20 (.one 21 (.one 22 (.one 23 (.take 24 (.take 27 (.one 25 (.one 26 (.one 28 (.one 29 (.one 30 .done))))))))))))))))))))))))))))))) (Below w45.heap.size w45) (by kernel_rfl) (by kernel_rfl) (by kernel_rfl) (fun c a d v w h => by cases d <;> exact h) (below_drew (Below.refl _ _)) ?_
  simp only [PlanI.fill, List.getD_cons_zero, List.getD_cons_succ]
  have hS : Below w45.heap.size w45 { w45 with drawn := w45.drawn + 1 } := below_drew (Below.refl _ _)
  generalize ({ w45 with drawn := w45.drawn + 1 } : World) = w46 at *
  refine plan_take (v := ?_) (by rfl) (fun w' hS => ?_) ?_
  rotate_left
  · obtain ⟨k0, k1, k2⟩ := HFg.out w' hS
    go_simp
    with_reducible rfl
  simp only [Act.put, List.setIfInBounds_toArray, List.set_cons_zero, List.set_cons_succ]
  refine plan_take (v := ?_) (by rfl) (fun w' hS => ?_) ?_
  rotate_left
  · go_simp
    with_reducible rfl
  simp only [Act.put, List.setIfInBounds_toArray, List.set_cons_zero, List.set_cons_succ]
  refine plan_step (by rfl) (fun K hK => ?_)
  go_simp
  refine (HW2.out _).mono ?_
  rintro e w47 ⟨a21, n21, c21, rfl, he21, _, hb⟩
  have hSn := hS.trans (hb.mono hS.size)
  refine hK.out _ _ hSn ?_
  clear hK K hS
  have hS := hSn
  clear hSn
  clear hb
  refine plan_step (by rfl) (fun K hK => ?_)
  go_simp
  refine hK.out _ _ (hS.alloc hS.size _) ?_
  clear hK K
  have hbn := (Below.refl w47.heap.size w47).alloc (Nat.le_refl _) (.cells (entsCells [⟨7, 7, a21, n21, c21⟩, ⟨8, 0, some ⟨rb, 0, none⟩, 1, 1⟩]).toArray 40)
  have hSn := hS.trans (hbn.mono hS.size)
  have hE : ∀ q ∈ ([((⟨7, 7, a21, n21, c21⟩ : Ent), (mkE 7 [99] [51] : Entry)), ((⟨8, 0, some ⟨rb, 0, none⟩, 1, 1⟩ : Ent), (⟨8, 0, [⟨[97], 0, true, []⟩]⟩ : Entry))] : List EZ), EntIs (w47.alloc (.cells (entsCells [⟨7, 7, a21, n21, c21⟩, ⟨8, 0, some ⟨rb, 0, none⟩, 1, 1⟩]).toArray 40)) q.1 q.2 := fun q hq => by
    simp only [List.mem_cons, List.not_mem_nil, or_false] at hq
    rcases hq with rfl | rfl
    · exact (he21).on hbn
    · exact (HGe.out.on hS).on hbn
  have hQ := entsAt_of (Q := [((⟨7, 7, a21, n21, c21⟩ : Ent), (mkE 7 [99] [51] : Entry)), ((⟨8, 0, some ⟨rb, 0, none⟩, 1, 1⟩ : Ent), (⟨8, 0, [⟨[97], 0, true, []⟩]⟩ : Entry))]) (Blk.new w47 (entsCells [⟨7, 7, a21, n21, c21⟩, ⟨8, 0, some ⟨rb, 0, none⟩, 1, 1⟩]) 40) hE 2 rfl (by omega)
  clear hE hS hbn
  have hS := hSn
  clear hSn
  have HA := Lib.hid (serialK (w47.alloc (.cells (entsCells [⟨7, 7, a21, n21, c21⟩, ⟨8, 0, some ⟨rb, 0, none⟩, 1, 1⟩]).toArray 40)) (some ⟨w47.heap.size, 0, none⟩) 2 2 [((⟨7, 7, a21, n21, c21⟩ : Ent), (mkE 7 [99] [51] : Entry)), ((⟨8, 0, some ⟨rb, 0, none⟩, 1, 1⟩ : Ent), (⟨8, 0, [⟨[97], 0, true, []⟩]⟩ : Entry))] hQ (by omega) (by rfl) (some ⟨zb, 0, none⟩) 8 8 [((mkC 7 1 3 [99] [51]), []), ((mkC 7 2 5 [] []), []), ((mkC 8 1 3 [97] [49]), []), (({ ({ (mkC 8 2 2 [97] []) with hi := [98] } : Md) with pa := some ⟨pb, 0, none⟩, pn := 1, pc := 1 } : Md), [([97], [49])]), (({ (mkC 8 3 2 [] []) with pa := some ⟨qb, 0, none⟩, pn := 2, pc := 2 } : Md), [([97], [49]), ([99], [51])]), ((mkC 8 4 4 [97] []), []), ((mkC 8 5 1 [97] []), []), ((mkC 8 6 5 [] []), [])] (HZ.out.on hS) (by omega) (by rfl) (-1) (by kernel_rfl))
  clear hQ
  refine plan_step (by rfl) (fun K hK => ?_)
  go_simp
  refine (HA.out).mono ?_
  rintro e w48 ⟨rfl, hb⟩
  have hSn := hS.trans (hb.mono hS.size)
  refine hK.out _ _ hSn ?_
  clear hK K hS
  have hS := hSn
  clear hSn
  clear hb HA
  refine plan_step (by rfl) (fun K hK => ?_)
  go_simp
  refine hK.out _ _ hS ?_
  clear hK K
  refine plan_step (by rfl) (fun K hK => ?_)
  go_simp
  refine hK.out _ _ hS ?_
  clear hK K
  refine plan_take (v := ?_) (by rfl) (fun w' hS => ?_) ?_
  rotate_left
  · go_simp
    with_reducible rfl
  simp only [Act.put, List.setIfInBounds_toArray, List.set_cons_zero, List.set_cons_succ]
  refine plan_step (by rfl) (fun K hK => ?_)
  go_simp
  refine (HW2.out _).mono ?_
  rintro e w49 ⟨a22, n22, c22, rfl, he22, _, hb⟩
  have hSn := hS.trans (hb.mono hS.size)
  refine hK.out _ _ hSn ?_
  clear hK K hS
  have hS := hSn
  clear hSn
  clear hb
  refine plan_step (by rfl) (fun K hK => ?_)
  go_simp
  refine (HW3.out _).mono ?_
  rintro e w50 ⟨a23, n23, c23, rfl, he23, _, hb⟩
  have hSn := hS.trans (hb.mono hS.size)
  refine hK.out _ _ hSn ?_
  clear hK K hS
  have hS := hSn
  clear hSn
  have he22n := he22.on hb
  clear he22
  have he22 := he22n
  clear he22n
  clear hb
  refine plan_step (by rfl) (fun K hK => ?_)
  go_simp
  refine hK.out _ _ (hS.alloc hS.size _) ?_
  clear hK K
  have hbn := (Below.refl w50.heap.size w50).alloc (Nat.le_refl _) (.cells (entsCells [⟨7, 7, a22, n22, c22⟩, ⟨8, 8, a23, n23, c23⟩]).toArray 40)
  have hSn := hS.trans (hbn.mono hS.size)
  have hE : ∀ q ∈ ([((⟨7, 7, a22, n22, c22⟩ : Ent), (mkE 7 [99] [51] : Entry)), ((⟨8, 8, a23, n23, c23⟩ : Ent), (mkE 8 [97] [49] : Entry))] : List EZ), EntIs (w50.alloc (.cells (entsCells [⟨7, 7, a22, n22, c22⟩, ⟨8, 8, a23, n23, c23⟩]).toArray 40)) q.1 q.2 := fun q hq => by
    simp only [List.mem_cons, List.not_mem_nil, or_false] at hq
    rcases hq with rfl | rfl
    · exact (he22).on hbn
    · exact (he23).on hbn
  have hQ := entsAt_of (Q := [((⟨7, 7, a22, n22, c22⟩ : Ent), (mkE 7 [99] [51] : Entry)), ((⟨8, 8, a23, n23, c23⟩ : Ent), (mkE 8 [97] [49] : Entry))]) (Blk.new w50 (entsCells [⟨7, 7, a22, n22, c22⟩, ⟨8, 8, a23, n23, c23⟩]) 40) hE 2 rfl (by omega)
  clear hE hS hbn
  have hS := hSn
  clear hSn
  have HA := Lib.hid (serialK (w50.alloc (.cells (entsCells [⟨7, 7, a22, n22, c22⟩, ⟨8, 8, a23, n23, c23⟩]).toArray 40)) (some ⟨w50.heap.size, 0, none⟩) 2 2 [((⟨7, 7, a22, n22, c22⟩ : Ent), (mkE 7 [99] [51] : Entry)), ((⟨8, 8, a23, n23, c23⟩ : Ent), (mkE 8 [97] [49] : Entry))] hQ (by omega) (by rfl) (some ⟨zb, 0, none⟩) 8 8 [((mkC 7 1 3 [99] [51]), []), ((mkC 7 2 5 [] []), []), ((mkC 8 1 3 [97] [49]), []), (({ ({ (mkC 8 2 2 [97] []) with hi := [98] } : Md) with pa := some ⟨pb, 0, none⟩, pn := 1, pc := 1 } : Md), [([97], [49])]), (({ (mkC 8 3 2 [] []) with pa := some ⟨qb, 0, none⟩, pn := 2, pc := 2 } : Md), [([97], [49]), ([99], [51])]), ((mkC 8 4 4 [97] []), []), ((mkC 8 5 1 [97] []), []), ((mkC 8 6 5 [] []), [])] (HZ.out.on hS) (by omega) (by rfl) 7 (by kernel_rfl))
  clear hQ
  refine plan_step (by rfl) (fun K hK => ?_)
  go_simp
  refine (HA.out).mono ?_
  rintro e w51 ⟨rfl, hb⟩
  have hSn := hS.trans (hb.mono hS.size)
  refine hK.out _ _ hSn ?_
  clear hK K hS
  have hS := hSn
  clear hSn
  clear hb HA
  refine plan_step (by rfl) (fun K hK => ?_)
  go_simp
  refine hK.out _ _ hS ?_
  clear hK K
  refine plan_step (by rfl) (fun K hK => ?_)
  go_simp
  refine hK.out _ _ hS ?_
  clear hK K
  refine plan_step (by rfl) (fun K hK => ?_)
  go_simp
  refine hK.out _ _ hS ?_
  clear hK K
  refine plan_take (v := ?_) (by rfl) (fun w' hS => ?_) ?_
  rotate_left
  · obtain ⟨k0, k1, k2⟩ := HFg.out w' hS
    go_simp
    with_reducible rfl
  simp only [Act.put, List.setIfInBounds_toArray, List.set_cons_zero, List.set_cons_succ]
  refine plan_take (v := ?_) (by rfl) (fun w' hS => ?_) ?_
  rotate_left
  · obtain ⟨k0, k1, k2⟩ := HFg.out w' hS
    go_simp
    with_reducible rfl
  simp only [Act.put, List.setIfInBounds_toArray, List.set_cons_zero, List.set_cons_succ]
  refine plan_take (v := ?_) (by rfl) (fun w' hS => ?_) ?_
  rotate_left
  · go_simp
    with_reducible rfl
  simp only [Act.put, List.setIfInBounds_toArray, List.set_cons_zero, List.set_cons_succ]
  refine plan_step (by rfl) (fun K hK => ?_)
  go_simp
  refine (HW2.out _).mono ?_
  rintro e w52 ⟨a24, n24, c24, rfl, he24, _, hb⟩
  have hSn := hS.trans (hb.mono hS.size)
  refine hK.out _ _ hSn ?_
  clear hK K hS
  have hS := hSn
  clear hSn
  clear hb
  refine plan_step (by rfl) (fun K hK => ?_)
  go_simp
  refine hK.out _ _ (hS.alloc hS.size _) ?_
  clear hK K
  have hbn := (Below.refl w52.heap.size w52).alloc (Nat.le_refl _) (.cells (entsCells [⟨7, 7, a24, n24, c24⟩, ⟨8, 0, some ⟨rb, 0, none⟩, 1, 1⟩, ⟨8, 0, some ⟨rb, 0, none⟩, 1, 1⟩]).toArray 40)
  have hSn := hS.trans (hbn.mono hS.size)
  have hE : ∀ q ∈ ([((⟨7, 7, a24, n24, c24⟩ : Ent), (mkE 7 [99] [51] : Entry)), ((⟨8, 0, some ⟨rb, 0, none⟩, 1, 1⟩ : Ent), (⟨8, 0, [⟨[97], 0, true, []⟩]⟩ : Entry)), ((⟨8, 0, some ⟨rb, 0, none⟩, 1, 1⟩ : Ent), (⟨8, 0, [⟨[97], 0, true, []⟩]⟩ : Entry))] : List EZ), EntIs (w52.alloc (.cells (entsCells [⟨7, 7, a24, n24, c24⟩, ⟨8, 0, some ⟨rb, 0, none⟩, 1, 1⟩, ⟨8, 0, some ⟨rb, 0, none⟩, 1, 1⟩]).toArray 40)) q.1 q.2 := fun q hq => by
    simp only [List.mem_cons, List.not_mem_nil, or_false] at hq
    rcases hq with rfl | rfl | rfl
    · exact (he24).on hbn
    · exact (HGe.out.on hS).on hbn
    · exact (HGe.out.on hS).on hbn
  have hQ := entsAt_of (Q := [((⟨7, 7, a24, n24, c24⟩ : Ent), (mkE 7 [99] [51] : Entry)), ((⟨8, 0, some ⟨rb, 0, none⟩, 1, 1⟩ : Ent), (⟨8, 0, [⟨[97], 0, true, []⟩]⟩ : Entry)), ((⟨8, 0, some ⟨rb, 0, none⟩, 1, 1⟩ : Ent), (⟨8, 0, [⟨[97], 0, true, []⟩]⟩ : Entry))]) (Blk.new w52 (entsCells [⟨7, 7, a24, n24, c24⟩, ⟨8, 0, some ⟨rb, 0, none⟩, 1, 1⟩, ⟨8, 0, some ⟨rb, 0, none⟩, 1, 1⟩]) 40) hE 3 rfl (by omega)
  clear hE hS hbn
  have hS := hSn
  clear hSn
  have HA := Lib.hid (serialK (w52.alloc (.cells (entsCells [⟨7, 7, a24, n24, c24⟩, ⟨8, 0, some ⟨rb, 0, none⟩, 1, 1⟩, ⟨8, 0, some ⟨rb, 0, none⟩, 1, 1⟩]).toArray 40)) (some ⟨w52.heap.size, 0, none⟩) 3 3 [((⟨7, 7, a24, n24, c24⟩ : Ent), (mkE 7 [99] [51] : Entry)), ((⟨8, 0, some ⟨rb, 0, none⟩, 1, 1⟩ : Ent), (⟨8, 0, [⟨[97], 0, true, []⟩]⟩ : Entry)), ((⟨8, 0, some ⟨rb, 0, none⟩, 1, 1⟩ : Ent), (⟨8, 0, [⟨[97], 0, true, []⟩]⟩ : Entry))] hQ (by omega) (by rfl) (some ⟨zb, 0, none⟩) 8 8 [((mkC 7 1 3 [99] [51]), []), ((mkC 7 2 5 [] []), []), ((mkC 8 1 3 [97] [49]), []), (({ ({ (mkC 8 2 2 [97] []) with hi := [98] } : Md) with pa := some ⟨pb, 0, none⟩, pn := 1, pc := 1 } : Md), [([97], [49])]), (({ (mkC 8 3 2 [] []) with pa := some ⟨qb, 0, none⟩, pn := 2, pc := 2 } : Md), [([97], [49]), ([99], [51])]), ((mkC 8 4 4 [97] []), []), ((mkC 8 5 1 [97] []), []), ((mkC 8 6 5 [] []), [])] (HZ.out.on hS) (by omega) (by rfl) 7 (by kernel_rfl))
  clear hQ
  refine plan_step (by rfl) (fun K hK => ?_)
  go_simp
  refine (HA.out).mono ?_
  rintro e w53 ⟨rfl, hb⟩
  have hSn := hS.trans (hb.mono hS.size)
  refine hK.out _ _ hSn ?_
  clear hK K hS
  have hS := hSn
  clear hSn
  clear hb HA
  refine plan_step (by rfl) (fun K hK => ?_)
  go_simp
  refine hK.out _ _ hS ?_
  clear hK K
  refine plan_step (by rfl) (fun K hK => ?_)
  go_simp
  refine hK.out _ _ hS ?_
  clear hK K
  refine plan_step (by rfl) (fun K hK => ?_)
  go_simp
  refine hK.out _ _ hS ?_
  clear hK K
  refine plan_take (v := ?_) (by rfl) (fun w' hS => ?_) ?_
  rotate_left
  · obtain ⟨k0, k1, k2⟩ := HFg.out w' hS
    go_simp
    with_reducible rfl
  simp only [Act.put, List.setIfInBounds_toArray, List.set_cons_zero, List.set_cons_succ]
  refine plan_take (v := ?_) (by rfl) (fun w' hS => ?_) ?_
  rotate_left
  · go_simp
    with_reducible rfl
  simp only [Act.put, List.setIfInBounds_toArray, List.set_cons_zero, List.set_cons_succ]
  refine plan_step (by rfl) (fun K hK => ?_)
  go_simp
  refine (HW4.out _).mono ?_
  rintro e w54 ⟨a25, n25, c25, rfl, he25, _, hb⟩
  have hSn := hS.trans (hb.mono hS.size)
  refine hK.out _ _ hSn ?_
  clear hK K hS
  have hS := hSn
  clear hSn
  clear hb
  refine plan_step (by rfl) (fun K hK => ?_)
  go_simp
  refine hK.out _ _ (hS.alloc hS.size _) ?_
  clear hK K
  have hbn := (Below.refl w54.heap.size w54).alloc (Nat.le_refl _) (.cells (entsCells [⟨8, 0, some ⟨rb, 0, none⟩, 1, 1⟩, ⟨7, 7, a25, n25, c25⟩]).toArray 40)
  have hSn := hS.trans (hbn.mono hS.size)
  have hE : ∀ q ∈ ([((⟨8, 0, some ⟨rb, 0, none⟩, 1, 1⟩ : Ent), (⟨8, 0, [⟨[97], 0, true, []⟩]⟩ : Entry)), ((⟨7, 7, a25, n25, c25⟩ : Ent), (mkE 7 [99] [52] : Entry))] : List EZ), EntIs (w54.alloc (.cells (entsCells [⟨8, 0, some ⟨rb, 0, none⟩, 1, 1⟩, ⟨7, 7, a25, n25, c25⟩]).toArray 40)) q.1 q.2 := fun q hq => by
    simp only [List.mem_cons, List.not_mem_nil, or_false] at hq
    rcases hq with rfl | rfl
    · exact (HGe.out.on hS).on hbn
    · exact (he25).on hbn
  have hQ := entsAt_of (Q := [((⟨8, 0, some ⟨rb, 0, none⟩, 1, 1⟩ : Ent), (⟨8, 0, [⟨[97], 0, true, []⟩]⟩ : Entry)), ((⟨7, 7, a25, n25, c25⟩ : Ent), (mkE 7 [99] [52] : Entry))]) (Blk.new w54 (entsCells [⟨8, 0, some ⟨rb, 0, none⟩, 1, 1⟩, ⟨7, 7, a25, n25, c25⟩]) 40) hE 2 rfl (by omega)
  clear hE hS hbn
  have hS := hSn
  clear hSn
  have HA := Lib.hid (serialK (w54.alloc (.cells (entsCells [⟨8, 0, some ⟨rb, 0, none⟩, 1, 1⟩, ⟨7, 7, a25, n25, c25⟩]).toArray 40)) (some ⟨w54.heap.size, 0, none⟩) 2 2 [((⟨8, 0, some ⟨rb, 0, none⟩, 1, 1⟩ : Ent), (⟨8, 0, [⟨[97], 0, true, []⟩]⟩ : Entry)), ((⟨7, 7, a25, n25, c25⟩ : Ent), (mkE 7 [99] [52] : Entry))] hQ (by omega) (by rfl) (some ⟨zb, 0, none⟩) 8 8 [((mkC 7 1 3 [99] [51]), []), ((mkC 7 2 5 [] []), []), ((mkC 8 1 3 [97] [49]), []), (({ ({ (mkC 8 2 2 [97] []) with hi := [98] } : Md) with pa := some ⟨pb, 0, none⟩, pn := 1, pc := 1 } : Md), [([97], [49])]), (({ (mkC 8 3 2 [] []) with pa := some ⟨qb, 0, none⟩, pn := 2, pc := 2 } : Md), [([97], [49]), ([99], [51])]), ((mkC 8 4 4 [97] []), []), ((mkC 8 5 1 [97] []), []), ((mkC 8 6 5 [] []), [])] (HZ.out.on hS) (by omega) (by rfl) 1 (by kernel_rfl))
  clear hQ
  refine plan_step (by rfl) (fun K hK => ?_)
  go_simp
  refine (HA.out).mono ?_
  rintro e w55 ⟨rfl, hb⟩
  have hSn := hS.trans (hb.mono hS.size)
  refine hK.out _ _ hSn ?_
  clear hK K hS
  have hS := hSn
  clear hSn
  clear hb HA
  refine plan_step (by rfl) (fun K hK => ?_)
  go_simp
  refine hK.out _ _ hS ?_
  clear hK K
  refine plan_step (by rfl) (fun K hK => ?_)
  go_simp
  refine hK.out _ _ hS ?_
  clear hK K
  refine plan_done ?_
  clear HFg
  have hbx := hS
  have NHB := Lib.hid (HB.out.trans (hbx.mono HB.out.size))
  clear hbx HB
  have HB := NHB
  clear NHB
  clear hS HZ HG HGe
  go_upto_region 26 with (first | ((with_reducible refine wpList_storeM rfl _ _ rfl _ (⟨5, 0, 0, 0, [], [], [], true, 0, 0, 0, false, [], none, 0, 0, 4, 4⟩ : Md) ?_ ?_ ?_); rfl; rfl))
  have hY := Blk.new w55 (mdCells (⟨5, 0, 0, 0, [], [], [], true, 0, 0, 0, false, [], none, 0, 0, 4, 4⟩ : Md)) 37
  have hb := (Below.refl w55.heap.size w55).alloc (Nat.le_refl _) (.cells (mdCells (⟨5, 0, 0, 0, [], [], [], true, 0, 0, 0, false, [], none, 0, 0, 4, 4⟩ : Md)).toArray 37)
  obtain ⟨bb, hyb⟩ : ∃ yb, w55.heap.size = yb := ⟨_, rfl⟩
  have Hbbl := Lib.hid (show w.heap.size ≤ bb by rw [← hyb]; exact HB.out.size)
  have hbs := hb.size
  rw [hyb] at hY hbs
  try rw [hyb]
  generalize w55.alloc (.cells (mdCells (⟨5, 0, 0, 0, [], [], [], true, 0, 0, 0, false, [], none, 0, 0, 4, 4⟩ : Md)).toArray 37) = w56 at *
  have hbx := hb
  have NHB := Lib.hid (HB.out.trans (hbx.mono HB.out.size))
  clear hbx HB
  have HB := NHB
  clear NHB
  clear hb hbs hyb
  have Hbb := Lib.hid hY
  clear hY
  go_wp2_with fail
  refine (HC.out 6 1 5 [] [] _).mono ?_
  rintro e w57 ⟨rfl, hb⟩
  have hbx := hb
  have NHbb := Lib.hid (Hbb.out.on hbx)
  have NHB := Lib.hid (HB.out.trans (hbx.mono HB.out.size))
  clear hbx HB Hbb
  have Hbb := NHbb
  have HB := NHB
  clear NHB NHbb
  clear hb
  go_upto_region 27 with (first | ((with_reducible refine wpList_storeM rfl _ _ rfl _ (mkC 6 1 5 [] []) ?_ ?_ ?_); rfl; rfl))
  have hY := Blk.new w57 (mdCells (mkC 6 1 5 [] [])) 37
  have hb := (Below.refl w57.heap.size w57).alloc (Nat.le_refl _) (.cells (mdCells (mkC 6 1 5 [] [])).toArray 37)
  obtain ⟨kb, hyb⟩ : ∃ yb, w57.heap.size = yb := ⟨_, rfl⟩
  have Hkbl := Lib.hid (show w.heap.size ≤ kb by rw [← hyb]; exact HB.out.size)
  have Hbbkb := Lib.hid (show bb < kb by rw [← hyb]; exact Hbb.out.lt)
  have hbs := hb.size
  rw [hyb] at hY hbs
  try rw [hyb]
  generalize w57.alloc (.cells (mdCells (mkC 6 1 5 [] [])).toArray 37) = w58 at *
  have hbx := hb
  have NHbb := Lib.hid (Hbb.out.on hbx)
  have NHB := Lib.hid (HB.out.trans (hbx.mono HB.out.size))
  clear hbx HB Hbb
  have Hbb := NHbb
  have HB := NHB
  clear NHB NHbb
  clear hb hbs hyb
  have Hkb := Lib.hid hY
  clear hY
  have hY := Hkb.out
  have f2 := hY.free 15
  have f3 : w58.cell? ⟨kb, 15, none⟩ = some (.int .i64 1) := by rw [hY.cell]; rfl
  have hY2 : Blk (w58.setCell ⟨kb, 15, none⟩ (.int .i64 4)) kb (mdCells ({ (mkC 6 1 5 [] []) with til := 4 } : Md)) 37 := hY.set 15 (.int .i64 4)
  have hm : Mod [kb] w58 (w58.setCell ⟨kb, 15, none⟩ (.int .i64 4)) := (Mod.refl _ _).setCell _ _ (.inl (by simp))
  have NHbb := Lib.hid (Hbb.out.mod hm (by have := Hbbkb.out; simp; omega))
  have NHB := Lib.hid (HB.out.trans (hm.below (fun x hx => by simp at hx; have := Hkbl.out; omega) HB.out.size))
  clear HB Hbb Hkb hm
  have Hbb := NHbb
  clear NHbb
  have HB := NHB
  clear NHB
  have Hkb := Lib.hid hY2
  clear hY hY2
  go_upto_region 28 with fail
  clear f2 f3
  generalize w58.setCell ⟨kb, 15, none⟩ (.int .i64 4) = w59 at *
  have HLd := Lib.hid (show MdCellsAt w59 bb 0 (⟨5, 0, 0, 0, [], [], [], true, 0, 0, 0, false, [], none, 0, 0, 4, 4⟩ : Md) by refine ⟨?_, ?_, ?_, ?_, ?_, ?_, ?_, ?_, ?_, ?_, ?_, ?_, ?_, ?_, ?_, ?_⟩ <;> (rw [Hbb.out.cell]; rfl))
  go_upto_region 29 with (first | ((with_reducible refine wpList_storeM rfl _ _ rfl _ (⟨5, 0, 0, 0, [], [], [], true, 0, 0, 0, false, [], none, 0, 0, 4, 4⟩ : Md) ?_ ?_ ?_); rfl; rfl) | ((refine wpList_free (by rfl) ?_); (with_reducible refine wpList_loadM rfl _ rfl _ _ _ HLd.out ?_ ?_); rfl))
  have hY := Blk.new w59 (mdCells (⟨5, 0, 0, 0, [], [], [], true, 0, 0, 0, false, [], none, 0, 0, 4, 4⟩ : Md)) 37
  have hb := (Below.refl w59.heap.size w59).alloc (Nat.le_refl _) (.cells (mdCells (⟨5, 0, 0, 0, [], [], [], true, 0, 0, 0, false, [], none, 0, 0, 4, 4⟩ : Md)).toArray 37)
  obtain ⟨eb, hyb⟩ : ∃ yb, w59.heap.size = yb := ⟨_, rfl⟩
  have Hebl := Lib.hid (show w.heap.size ≤ eb by rw [← hyb]; exact HB.out.size)
  have Hbbeb := Lib.hid (show bb < eb by rw [← hyb]; exact Hbb.out.lt)
  have Hkbeb := Lib.hid (show kb < eb by rw [← hyb]; exact Hkb.out.lt)
  have hbs := hb.size
  rw [hyb] at hY hbs
  try rw [hyb]
  generalize w59.alloc (.cells (mdCells (⟨5, 0, 0, 0, [], [], [], true, 0, 0, 0, false, [], none, 0, 0, 4, 4⟩ : Md)).toArray 37) = w60 at *
  have hbx := hb
  have NHbb := Lib.hid (Hbb.out.on hbx)
  have NHkb := Lib.hid (Hkb.out.on hbx)
  have NHB := Lib.hid (HB.out.trans (hbx.mono HB.out.size))
  clear hbx HB Hbb Hkb
  have Hbb := NHbb
  have Hkb := NHkb
  have HB := NHB
  clear NHB NHbb NHkb
  clear hb hbs hyb
  have Heb := Lib.hid hY
  clear hY
  clear HLd
  have hY := Heb.out
  have f2 := hY.free 14
  have f3 : w60.cell? ⟨eb, 14, none⟩ = some (.int .i64 4) := by rw [hY.cell]; rfl
  have hY2 : Blk (w60.setCell ⟨eb, 14, none⟩ (.int .i64 3)) eb (mdCells ({ (⟨5, 0, 0, 0, [], [], [], true, 0, 0, 0, false, [], none, 0, 0, 4, 4⟩ : Md) with frm := 3 } : Md)) 37 := hY.set 14 (.int .i64 3)
  have hm : Mod [eb] w60 (w60.setCell ⟨eb, 14, none⟩ (.int .i64 3)) := (Mod.refl _ _).setCell _ _ (.inl (by simp))
  have NHbb := Lib.hid (Hbb.out.mod hm (by have := Hbbeb.out; simp; omega))
  have NHkb := Lib.hid (Hkb.out.mod hm (by have := Hkbeb.out; simp; omega))
  have NHB := Lib.hid (HB.out.trans (hm.below (fun x hx => by simp at hx; have := Hebl.out; omega) HB.out.size))
  clear HB Hbb Hkb Heb hm
  have Hbb := NHbb
  clear NHbb
  have Hkb := NHkb
  clear NHkb
  have HB := NHB
  clear NHB
  have Heb := Lib.hid hY2
  clear hY hY2
  go_upto_region 30 with fail
  clear f2 f3
  generalize w60.setCell ⟨eb, 14, none⟩ (.int .i64 3) = w61 at *
  have HL1 := Lib.hid (show MdCellsAt w61 bb 0 (⟨5, 0, 0, 0, [], [], [], true, 0, 0, 0, false, [], none, 0, 0, 4, 4⟩ : Md) by refine ⟨?_, ?_, ?_, ?_, ?_, ?_, ?_, ?_, ?_, ?_, ?_, ?_, ?_, ?_, ?_, ?_⟩ <;> (rw [Hbb.out.cell]; rfl))
  have HL2 := Lib.hid (show MdCellsAt w61 kb 0 ({ (mkC 6 1 5 [] []) with til := 4 } : Md) by refine ⟨?_, ?_, ?_, ?_, ?_, ?_, ?_, ?_, ?_, ?_, ?_, ?_, ?_, ?_, ?_, ?_⟩ <;> (rw [Hkb.out.cell]; rfl))
  have HV := Lib.hid ((Below.refl w61.heap.size w61).alloc (Nat.le_refl _) (.cells (mdsCells [(⟨5, 0, 0, 0, [], [], [], true, 0, 0, 0, false, [], none, 0, 0, 4, 4⟩ : Md), ({ (mkC 6 1 5 [] []) with til := 4 } : Md)]).toArray 37))
  have HA := Lib.hid (orderK (w61.alloc (.cells (mdsCells [(⟨5, 0, 0, 0, [], [], [], true, 0, 0, 0, false, [], none, 0, 0, 4, 4⟩ : Md), ({ (mkC 6 1 5 [] []) with til := 4 } : Md)]).toArray 37)) (some ⟨w61.heap.size, 0, none⟩) 2 2 [((⟨5, 0, 0, 0, [], [], [], true, 0, 0, 0, false, [], none, 0, 0, 4, 4⟩ : Md), []), (({ (mkC 6 1 5 [] []) with til := 4 } : Md), [])] (madeAt_of (Q := [((⟨5, 0, 0, 0, [], [], [], true, 0, 0, 0, false, [], none, 0, 0, 4, 4⟩ : Md), []), (({ (mkC 6 1 5 [] []) with til := 4 } : Md), [])]) (Blk.new w61 (mdsCells [(⟨5, 0, 0, 0, [], [], [], true, 0, 0, 0, false, [], none, 0, 0, 4, 4⟩ : Md), ({ (mkC 6 1 5 [] []) with til := 4 } : Md)]) _) (fun q hq => by simp only [List.mem_cons, List.not_mem_nil, or_false] at hq; rcases hq with rfl | rfl <;> exact ⟨rfl, RowsAt.nil _ _, by decide, by decide⟩) 2 rfl (by omega)) (by omega) 0 (by kernel_rfl))
  go_wp2_with (first | ((refine wpList_free (by rfl) ?_); (with_reducible refine wpList_loadM rfl _ rfl _ _ _ HL1.out ?_ ?_); rfl) | ((refine wpList_free (by rfl) ?_); (with_reducible refine wpList_loadM rfl _ rfl _ _ _ HL2.out ?_ ?_); rfl) | ((refine wpList_free (by rfl) ?_); (with_reducible refine wpList_buildM2 rfl _ _ rfl (⟨5, 0, 0, 0, [], [], [], true, 0, 0, 0, false, [], none, 0, 0, 4, 4⟩ : Md) ({ (mkC 6 1 5 [] []) with til := 4 } : Md) ?_ ?_ ?_); rfl; rfl))
  refine (HA.out).mono ?_
  rintro e w62 ⟨rfl, hb⟩
  have hbx := HV.out.trans (hb.mono HV.out.size)
  have NHbb := Lib.hid (Hbb.out.on hbx)
  have NHkb := Lib.hid (Hkb.out.on hbx)
  have NHeb := Lib.hid (Heb.out.on hbx)
  have NHB := Lib.hid (HB.out.trans (hbx.mono HB.out.size))
  clear hbx HB Hbb Hkb Heb
  have Hbb := NHbb
  have Hkb := NHkb
  have Heb := NHeb
  have HB := NHB
  clear NHB NHbb NHkb NHeb
  clear hb HV HA HL1 HL2
  have HL1 := Lib.hid (show MdCellsAt w62 kb 0 ({ (mkC 6 1 5 [] []) with til := 4 } : Md) by refine ⟨?_, ?_, ?_, ?_, ?_, ?_, ?_, ?_, ?_, ?_, ?_, ?_, ?_, ?_, ?_, ?_⟩ <;> (rw [Hkb.out.cell]; rfl))
  have HL2 := Lib.hid (show MdCellsAt w62 eb 0 ({ (⟨5, 0, 0, 0, [], [], [], true, 0, 0, 0, false, [], none, 0, 0, 4, 4⟩ : Md) with frm := 3 } : Md) by refine ⟨?_, ?_, ?_, ?_, ?_, ?_, ?_, ?_, ?_, ?_, ?_, ?_, ?_, ?_, ?_, ?_⟩ <;> (rw [Heb.out.cell]; rfl))
  have HV := Lib.hid ((Below.refl w62.heap.size w62).alloc (Nat.le_refl _) (.cells (mdsCells [({ (mkC 6 1 5 [] []) with til := 4 } : Md), ({ (⟨5, 0, 0, 0, [], [], [], true, 0, 0, 0, false, [], none, 0, 0, 4, 4⟩ : Md) with frm := 3 } : Md)]).toArray 37))
  have HA := Lib.hid (orderK (w62.alloc (.cells (mdsCells [({ (mkC 6 1 5 [] []) with til := 4 } : Md), ({ (⟨5, 0, 0, 0, [], [], [], true, 0, 0, 0, false, [], none, 0, 0, 4, 4⟩ : Md) with frm := 3 } : Md)]).toArray 37)) (some ⟨w62.heap.size, 0, none⟩) 2 2 [(({ (mkC 6 1 5 [] []) with til := 4 } : Md), []), (({ (⟨5, 0, 0, 0, [], [], [], true, 0, 0, 0, false, [], none, 0, 0, 4, 4⟩ : Md) with frm := 3 } : Md), [])] (madeAt_of (Q := [(({ (mkC 6 1 5 [] []) with til := 4 } : Md), []), (({ (⟨5, 0, 0, 0, [], [], [], true, 0, 0, 0, false, [], none, 0, 0, 4, 4⟩ : Md) with frm := 3 } : Md), [])]) (Blk.new w62 (mdsCells [({ (mkC 6 1 5 [] []) with til := 4 } : Md), ({ (⟨5, 0, 0, 0, [], [], [], true, 0, 0, 0, false, [], none, 0, 0, 4, 4⟩ : Md) with frm := 3 } : Md)]) _) (fun q hq => by simp only [List.mem_cons, List.not_mem_nil, or_false] at hq; rcases hq with rfl | rfl <;> exact ⟨rfl, RowsAt.nil _ _, by decide, by decide⟩) 2 rfl (by omega)) (by omega) (-1) (by kernel_rfl))
  go_wp2_with (first | ((refine wpList_free (by rfl) ?_); (with_reducible refine wpList_loadM rfl _ rfl _ _ _ HL1.out ?_ ?_); rfl) | ((refine wpList_free (by rfl) ?_); (with_reducible refine wpList_loadM rfl _ rfl _ _ _ HL2.out ?_ ?_); rfl) | ((refine wpList_free (by rfl) ?_); (with_reducible refine wpList_buildM2 rfl _ _ rfl ({ (mkC 6 1 5 [] []) with til := 4 } : Md) ({ (⟨5, 0, 0, 0, [], [], [], true, 0, 0, 0, false, [], none, 0, 0, 4, 4⟩ : Md) with frm := 3 } : Md) ?_ ?_ ?_); rfl; rfl))
  refine (HA.out).mono ?_
  rintro e w63 ⟨rfl, hb⟩
  have hbx := HV.out.trans (hb.mono HV.out.size)
  have NHbb := Lib.hid (Hbb.out.on hbx)
  have NHkb := Lib.hid (Hkb.out.on hbx)
  have NHeb := Lib.hid (Heb.out.on hbx)
  have NHB := Lib.hid (HB.out.trans (hbx.mono HB.out.size))
  clear hbx HB Hbb Hkb Heb
  have Hbb := NHbb
  have Hkb := NHkb
  have Heb := NHeb
  have HB := NHB
  clear NHB NHbb NHkb NHeb
  clear hb HV HA HL1 HL2
  have HL1 := Lib.hid (show MdCellsAt w63 kb 0 ({ (mkC 6 1 5 [] []) with til := 4 } : Md) by refine ⟨?_, ?_, ?_, ?_, ?_, ?_, ?_, ?_, ?_, ?_, ?_, ?_, ?_, ?_, ?_, ?_⟩ <;> (rw [Hkb.out.cell]; rfl))
  have HL2 := Lib.hid (show MdCellsAt w63 bb 0 (⟨5, 0, 0, 0, [], [], [], true, 0, 0, 0, false, [], none, 0, 0, 4, 4⟩ : Md) by refine ⟨?_, ?_, ?_, ?_, ?_, ?_, ?_, ?_, ?_, ?_, ?_, ?_, ?_, ?_, ?_, ?_⟩ <;> (rw [Hbb.out.cell]; rfl))
  have HV := Lib.hid ((Below.refl w63.heap.size w63).alloc (Nat.le_refl _) (.cells (mdsCells [({ (mkC 6 1 5 [] []) with til := 4 } : Md), (⟨5, 0, 0, 0, [], [], [], true, 0, 0, 0, false, [], none, 0, 0, 4, 4⟩ : Md)]).toArray 37))
  have HA := Lib.hid (orderK (w63.alloc (.cells (mdsCells [({ (mkC 6 1 5 [] []) with til := 4 } : Md), (⟨5, 0, 0, 0, [], [], [], true, 0, 0, 0, false, [], none, 0, 0, 4, 4⟩ : Md)]).toArray 37)) (some ⟨w63.heap.size, 0, none⟩) 2 2 [(({ (mkC 6 1 5 [] []) with til := 4 } : Md), []), ((⟨5, 0, 0, 0, [], [], [], true, 0, 0, 0, false, [], none, 0, 0, 4, 4⟩ : Md), [])] (madeAt_of (Q := [(({ (mkC 6 1 5 [] []) with til := 4 } : Md), []), ((⟨5, 0, 0, 0, [], [], [], true, 0, 0, 0, false, [], none, 0, 0, 4, 4⟩ : Md), [])]) (Blk.new w63 (mdsCells [({ (mkC 6 1 5 [] []) with til := 4 } : Md), (⟨5, 0, 0, 0, [], [], [], true, 0, 0, 0, false, [], none, 0, 0, 4, 4⟩ : Md)]) _) (fun q hq => by simp only [List.mem_cons, List.not_mem_nil, or_false] at hq; rcases hq with rfl | rfl <;> exact ⟨rfl, RowsAt.nil _ _, by decide, by decide⟩) 2 rfl (by omega)) (by omega) 1 (by kernel_rfl))
  go_wp2_with (first | ((refine wpList_free (by rfl) ?_); (with_reducible refine wpList_loadM rfl _ rfl _ _ _ HL1.out ?_ ?_); rfl) | ((refine wpList_free (by rfl) ?_); (with_reducible refine wpList_loadM rfl _ rfl _ _ _ HL2.out ?_ ?_); rfl) | ((refine wpList_free (by rfl) ?_); (with_reducible refine wpList_buildM2 rfl _ _ rfl ({ (mkC 6 1 5 [] []) with til := 4 } : Md) (⟨5, 0, 0, 0, [], [], [], true, 0, 0, 0, false, [], none, 0, 0, 4, 4⟩ : Md) ?_ ?_ ?_); rfl; rfl))
  refine (HA.out).mono ?_
  rintro e w64 ⟨rfl, hb⟩
  have hbx := HV.out.trans (hb.mono HV.out.size)
  have NHbb := Lib.hid (Hbb.out.on hbx)
  have NHkb := Lib.hid (Hkb.out.on hbx)
  have NHeb := Lib.hid (Heb.out.on hbx)
  have NHB := Lib.hid (HB.out.trans (hbx.mono HB.out.size))
  clear hbx HB Hbb Hkb Heb
  have Hbb := NHbb
  have Hkb := NHkb
  have Heb := NHeb
  have HB := NHB
  clear NHB NHbb NHkb NHeb
  clear hb HV HA HL1 HL2
  clear Hbb Hkb Heb
  go_upto_region 33 with fail
  have hb : Below w64.heap.size w64 ((w64.alloc (.cells #[.string ⟨#[97]⟩, .int .u64 1, .bool false, .string ⟨#[49]⟩] 58)).alloc (.cells #[.string ⟨#[98]⟩, .int .u64 2, .bool false, .string ⟨#[50]⟩] 58)) := ((Below.refl _ _).alloc (Nat.le_refl _) _).alloc (by simp) _
  have hA1 : Blk ((w64.alloc (.cells #[.string ⟨#[97]⟩, .int .u64 1, .bool false, .string ⟨#[49]⟩] 58)).alloc (.cells #[.string ⟨#[98]⟩, .int .u64 2, .bool false, .string ⟨#[50]⟩] 58)) w64.heap.size (recCells ⟨[97], 1, false, [49]⟩) 58 := (Blk.new w64 (recCells ⟨[97], 1, false, [49]⟩) 58).alloc _
  have hB1 : Blk ((w64.alloc (.cells #[.string ⟨#[97]⟩, .int .u64 1, .bool false, .string ⟨#[49]⟩] 58)).alloc (.cells #[.string ⟨#[98]⟩, .int .u64 2, .bool false, .string ⟨#[50]⟩] 58)) (w64.heap.size + 1) (recCells ⟨[98], 2, false, [50]⟩) 58 := by
    have := Blk.new (w64.alloc (.cells #[.string ⟨#[97]⟩, .int .u64 1, .bool false, .string ⟨#[49]⟩] 58)) (recCells ⟨[98], 2, false, [50]⟩) 58
    rw [World.size_alloc] at this
    exact this
  obtain ⟨ab, hab⟩ : ∃ x, w64.heap.size = x := ⟨_, rfl⟩
  rw [hab] at hA1 hB1
  try rw [hab]
  generalize ((w64.alloc (.cells #[.string ⟨#[97]⟩, .int .u64 1, .bool false, .string ⟨#[49]⟩] 58)).alloc (.cells #[.string ⟨#[98]⟩, .int .u64 2, .bool false, .string ⟨#[50]⟩] 58)) = w65 at *
  have hbx := hb
  have NHB := Lib.hid (HB.out.trans (hbx.mono HB.out.size))
  clear hbx HB
  have HB := NHB
  clear NHB
  clear hb hab
  have HRA := Lib.hid hA1
  have HRB := Lib.hid hB1
  clear hA1 hB1
  go_wp2_with fail
  refine (HW1.out _).mono ?_
  rintro e w66 ⟨a33, n33, c33, rfl, he33, _, hb⟩
  have hbx := hb
  have NHRA := Lib.hid (HRA.out.on hbx)
  have NHRB := Lib.hid (HRB.out.on hbx)
  have NHB := Lib.hid (HB.out.trans (hbx.mono HB.out.size))
  clear hbx HB HRA HRB
  have HRA := NHRA
  have HRB := NHRB
  have HB := NHB
  clear NHB NHRA NHRB
  clear hb
  go_upto_region 34 with fail
  have hb1 : Below w66.heap.size w66 (w66.alloc (.cells #[.string ⟨#[98]⟩, .int .u64 9, .bool true, .string ⟨#[]⟩] 58)) := (Below.refl _ _).alloc (Nat.le_refl _) _
  have hb2 : Below (w66.alloc (.cells #[.string ⟨#[98]⟩, .int .u64 9, .bool true, .string ⟨#[]⟩] 58)).heap.size (w66.alloc (.cells #[.string ⟨#[98]⟩, .int .u64 9, .bool true, .string ⟨#[]⟩] 58)) ((w66.alloc (.cells #[.string ⟨#[98]⟩, .int .u64 9, .bool true, .string ⟨#[]⟩] 58)).alloc (.cells #[.int .u64 5, .int .u64 5, .slice a33 n33 c33, .int .u64 7, .int .u64 0, .slice (some ⟨w66.heap.size, 0, none⟩) 1 1] 40)) := (Below.refl _ _).alloc (Nat.le_refl _) _
  have hb := hb1.trans (hb2.mono hb1.size)
  have hR : Blk (w66.alloc (.cells #[.string ⟨#[98]⟩, .int .u64 9, .bool true, .string ⟨#[]⟩] 58)) w66.heap.size (recsCells [⟨[98], 9, true, []⟩]) 58 := Blk.new w66 (recsCells [⟨[98], 9, true, []⟩]) 58
  have hRr := recsAt_of (Q := [⟨[98], 9, true, []⟩]) (hR.on hb2) 1 rfl (by omega)
  have hL : Blk ((w66.alloc (.cells #[.string ⟨#[98]⟩, .int .u64 9, .bool true, .string ⟨#[]⟩] 58)).alloc (.cells #[.int .u64 5, .int .u64 5, .slice a33 n33 c33, .int .u64 7, .int .u64 0, .slice (some ⟨w66.heap.size, 0, none⟩) 1 1] 40)) (w66.heap.size + 1) (entsCells ([((⟨5, 5, a33, n33, c33⟩ : Ent), mkE 5 [97] [49]), ((⟨7, 0, some ⟨w66.heap.size, 0, none⟩, 1, 1⟩ : Ent), (⟨7, 0, [⟨[98], 9, true, []⟩]⟩ : Entry))].map (·.1))) 40 := by
    have := Blk.new (w66.alloc (.cells #[.string ⟨#[98]⟩, .int .u64 9, .bool true, .string ⟨#[]⟩] 58)) (entsCells ([((⟨5, 5, a33, n33, c33⟩ : Ent), mkE 5 [97] [49]), ((⟨7, 0, some ⟨w66.heap.size, 0, none⟩, 1, 1⟩ : Ent), (⟨7, 0, [⟨[98], 9, true, []⟩]⟩ : Entry))].map (·.1))) 40
    rw [World.size_alloc] at this
    exact this
  have hQ := entsAt_of (Q := [((⟨5, 5, a33, n33, c33⟩ : Ent), mkE 5 [97] [49]), ((⟨7, 0, some ⟨w66.heap.size, 0, none⟩, 1, 1⟩ : Ent), (⟨7, 0, [⟨[98], 9, true, []⟩]⟩ : Entry))]) hL (fun q hq => by
    simp only [List.mem_cons, List.not_mem_nil, or_false] at hq
    rcases hq with rfl | rfl
    · exact he33.on hb
    · exact ⟨rfl, rfl, rfl, hRr, by show (7 : Nat) < 18446744073709551616; omega, by show (0 : Nat) < 18446744073709551616; omega, by simp [Rec.ok, maxLen]⟩) 2 rfl (by omega)
  clear hR hRr hL hb1 hb2 he33
  obtain ⟨gb, hgb⟩ : ∃ x, w66.heap.size = x := ⟨_, rfl⟩
  rw [hgb] at hQ hb
  try rw [hgb]
  generalize ((w66.alloc (.cells #[.string ⟨#[98]⟩, .int .u64 9, .bool true, .string ⟨#[]⟩] 58)).alloc (.cells #[.int .u64 5, .int .u64 5, .slice a33 n33 c33, .int .u64 7, .int .u64 0, .slice (some ⟨gb, 0, none⟩) 1 1] 40)) = w67 at *
  rw [← hgb] at hb
  clear hgb
  have hbx := hb
  have NHRA := Lib.hid (HRA.out.on hbx)
  have NHRB := Lib.hid (HRB.out.on hbx)
  have NHB := Lib.hid (HB.out.trans (hbx.mono HB.out.size))
  clear hbx HB HRA HRB
  have HRA := NHRA
  have HRB := NHRB
  have HB := NHB
  clear NHB NHRA NHRB
  clear hb
  have HQ := Lib.hid hQ
  clear hQ
  go_upto_region 35 with fail
  have hb : Below w67.heap.size w67 (w67.alloc (.cells #[.string ⟨#[97]⟩, .int .u64 5, .bool false, .string ⟨#[49]⟩] 58)) := (Below.refl _ _).alloc (Nat.le_refl _) _
  have hN : Blk (w67.alloc (.cells #[.string ⟨#[97]⟩, .int .u64 5, .bool false, .string ⟨#[49]⟩] 58)) w67.heap.size (recCells ⟨[97], 5, false, [49]⟩) 58 := Blk.new w67 (recCells ⟨[97], 5, false, [49]⟩) 58
  obtain ⟨nb, hnb⟩ : ∃ x, w67.heap.size = x := ⟨_, rfl⟩
  rw [hnb] at hN
  try rw [hnb]
  generalize (w67.alloc (.cells #[.string ⟨#[97]⟩, .int .u64 5, .bool false, .string ⟨#[49]⟩] 58)) = w68 at *
  have hbx := hb
  have NHRA := Lib.hid (HRA.out.on hbx)
  have NHRB := Lib.hid (HRB.out.on hbx)
  have NHQ := Lib.hid (HQ.out.on hbx)
  have NHB := Lib.hid (HB.out.trans (hbx.mono HB.out.size))
  clear hbx HB HRA HRB HQ
  have HRA := NHRA
  have HRB := NHRB
  have HQ := NHQ
  have HB := NHB
  clear NHB NHRA NHRB NHQ
  clear hb hnb
  have HRN := Lib.hid hN
  clear hN
  have hv0 : Below w68.heap.size w68 w68 := Below.refl _ _
  have hv1 : Below w68.heap.size w68 (w68.alloc (.cells #[.string ⟨#[97]⟩, .int .u64 1, .bool false, .string ⟨#[49]⟩, .string ⟨#[98]⟩, .int .u64 2, .bool false, .string ⟨#[50]⟩] 58)) := hv0.alloc hv0.size _
  have hv2 : Below w68.heap.size w68 ((w68.alloc (.cells #[.string ⟨#[97]⟩, .int .u64 1, .bool false, .string ⟨#[49]⟩, .string ⟨#[98]⟩, .int .u64 2, .bool false, .string ⟨#[50]⟩] 58)).alloc (.cells #[.string ⟨#[97]⟩, .int .u64 1, .bool false, .string ⟨#[49]⟩, .string ⟨#[98]⟩, .int .u64 2, .bool false, .string ⟨#[50]⟩] 58)) := hv1.alloc hv1.size _
  have qHRA0_0 : w68.cell? ⟨ab, 0, none⟩ = some (.string ⟨#[97]⟩) := by rw [(HRA.out.on hv0).cell]; rfl
  have qHRA0_1 : w68.cell? ⟨ab, 1, none⟩ = some (.int .u64 1) := by rw [(HRA.out.on hv0).cell]; rfl
  have qHRA0_2 : w68.cell? ⟨ab, 2, none⟩ = some (.bool false) := by rw [(HRA.out.on hv0).cell]; rfl
  have qHRA0_3 : w68.cell? ⟨ab, 3, none⟩ = some (.string ⟨#[49]⟩) := by rw [(HRA.out.on hv0).cell]; rfl
  have qHRB0_0 : w68.cell? ⟨(ab + 1), 0, none⟩ = some (.string ⟨#[98]⟩) := by rw [(HRB.out.on hv0).cell]; rfl
  have qHRB0_1 : w68.cell? ⟨(ab + 1), 1, none⟩ = some (.int .u64 2) := by rw [(HRB.out.on hv0).cell]; rfl
  have qHRB0_2 : w68.cell? ⟨(ab + 1), 2, none⟩ = some (.bool false) := by rw [(HRB.out.on hv0).cell]; rfl
  have qHRB0_3 : w68.cell? ⟨(ab + 1), 3, none⟩ = some (.string ⟨#[50]⟩) := by rw [(HRB.out.on hv0).cell]; rfl
  have qHRN0_0 : w68.cell? ⟨nb, 0, none⟩ = some (.string ⟨#[97]⟩) := by rw [(HRN.out.on hv0).cell]; rfl
  have qHRN0_1 : w68.cell? ⟨nb, 1, none⟩ = some (.int .u64 5) := by rw [(HRN.out.on hv0).cell]; rfl
  have qHRN0_2 : w68.cell? ⟨nb, 2, none⟩ = some (.bool false) := by rw [(HRN.out.on hv0).cell]; rfl
  have qHRN0_3 : w68.cell? ⟨nb, 3, none⟩ = some (.string ⟨#[49]⟩) := by rw [(HRN.out.on hv0).cell]; rfl
  have qHRA1_0 : (w68.alloc (.cells #[.string ⟨#[97]⟩, .int .u64 1, .bool false, .string ⟨#[49]⟩, .string ⟨#[98]⟩, .int .u64 2, .bool false, .string ⟨#[50]⟩] 58)).cell? ⟨ab, 0, none⟩ = some (.string ⟨#[97]⟩) := by rw [(HRA.out.on hv1).cell]; rfl
  have qHRA1_1 : (w68.alloc (.cells #[.string ⟨#[97]⟩, .int .u64 1, .bool false, .string ⟨#[49]⟩, .string ⟨#[98]⟩, .int .u64 2, .bool false, .string ⟨#[50]⟩] 58)).cell? ⟨ab, 1, none⟩ = some (.int .u64 1) := by rw [(HRA.out.on hv1).cell]; rfl
  have qHRA1_2 : (w68.alloc (.cells #[.string ⟨#[97]⟩, .int .u64 1, .bool false, .string ⟨#[49]⟩, .string ⟨#[98]⟩, .int .u64 2, .bool false, .string ⟨#[50]⟩] 58)).cell? ⟨ab, 2, none⟩ = some (.bool false) := by rw [(HRA.out.on hv1).cell]; rfl
  have qHRA1_3 : (w68.alloc (.cells #[.string ⟨#[97]⟩, .int .u64 1, .bool false, .string ⟨#[49]⟩, .string ⟨#[98]⟩, .int .u64 2, .bool false, .string ⟨#[50]⟩] 58)).cell? ⟨ab, 3, none⟩ = some (.string ⟨#[49]⟩) := by rw [(HRA.out.on hv1).cell]; rfl
  have qHRB1_0 : (w68.alloc (.cells #[.string ⟨#[97]⟩, .int .u64 1, .bool false, .string ⟨#[49]⟩, .string ⟨#[98]⟩, .int .u64 2, .bool false, .string ⟨#[50]⟩] 58)).cell? ⟨(ab + 1), 0, none⟩ = some (.string ⟨#[98]⟩) := by rw [(HRB.out.on hv1).cell]; rfl
  have qHRB1_1 : (w68.alloc (.cells #[.string ⟨#[97]⟩, .int .u64 1, .bool false, .string ⟨#[49]⟩, .string ⟨#[98]⟩, .int .u64 2, .bool false, .string ⟨#[50]⟩] 58)).cell? ⟨(ab + 1), 1, none⟩ = some (.int .u64 2) := by rw [(HRB.out.on hv1).cell]; rfl
  have qHRB1_2 : (w68.alloc (.cells #[.string ⟨#[97]⟩, .int .u64 1, .bool false, .string ⟨#[49]⟩, .string ⟨#[98]⟩, .int .u64 2, .bool false, .string ⟨#[50]⟩] 58)).cell? ⟨(ab + 1), 2, none⟩ = some (.bool false) := by rw [(HRB.out.on hv1).cell]; rfl
  have qHRB1_3 : (w68.alloc (.cells #[.string ⟨#[97]⟩, .int .u64 1, .bool false, .string ⟨#[49]⟩, .string ⟨#[98]⟩, .int .u64 2, .bool false, .string ⟨#[50]⟩] 58)).cell? ⟨(ab + 1), 3, none⟩ = some (.string ⟨#[50]⟩) := by rw [(HRB.out.on hv1).cell]; rfl
  have qHRN1_0 : (w68.alloc (.cells #[.string ⟨#[97]⟩, .int .u64 1, .bool false, .string ⟨#[49]⟩, .string ⟨#[98]⟩, .int .u64 2, .bool false, .string ⟨#[50]⟩] 58)).cell? ⟨nb, 0, none⟩ = some (.string ⟨#[97]⟩) := by rw [(HRN.out.on hv1).cell]; rfl
  have qHRN1_1 : (w68.alloc (.cells #[.string ⟨#[97]⟩, .int .u64 1, .bool false, .string ⟨#[49]⟩, .string ⟨#[98]⟩, .int .u64 2, .bool false, .string ⟨#[50]⟩] 58)).cell? ⟨nb, 1, none⟩ = some (.int .u64 5) := by rw [(HRN.out.on hv1).cell]; rfl
  have qHRN1_2 : (w68.alloc (.cells #[.string ⟨#[97]⟩, .int .u64 1, .bool false, .string ⟨#[49]⟩, .string ⟨#[98]⟩, .int .u64 2, .bool false, .string ⟨#[50]⟩] 58)).cell? ⟨nb, 2, none⟩ = some (.bool false) := by rw [(HRN.out.on hv1).cell]; rfl
  have qHRN1_3 : (w68.alloc (.cells #[.string ⟨#[97]⟩, .int .u64 1, .bool false, .string ⟨#[49]⟩, .string ⟨#[98]⟩, .int .u64 2, .bool false, .string ⟨#[50]⟩] 58)).cell? ⟨nb, 3, none⟩ = some (.string ⟨#[49]⟩) := by rw [(HRN.out.on hv1).cell]; rfl
  have HA := Lib.hid (contentK ((w68.alloc (.cells #[.string ⟨#[97]⟩, .int .u64 1, .bool false, .string ⟨#[49]⟩, .string ⟨#[98]⟩, .int .u64 2, .bool false, .string ⟨#[50]⟩] 58)).alloc (.cells #[.string ⟨#[97]⟩, .int .u64 1, .bool false, .string ⟨#[49]⟩, .string ⟨#[98]⟩, .int .u64 2, .bool false, .string ⟨#[50]⟩] 58)) (some ⟨w68.heap.size, 0, none⟩) 2 2 [⟨[97], 1, false, [49]⟩, ⟨[98], 2, false, [50]⟩] (RowsAt.on (recsAt_of (Q := [⟨[97], 1, false, [49]⟩, ⟨[98], 2, false, [50]⟩]) (show Blk (w68.alloc (.cells #[.string ⟨#[97]⟩, .int .u64 1, .bool false, .string ⟨#[49]⟩, .string ⟨#[98]⟩, .int .u64 2, .bool false, .string ⟨#[50]⟩] 58)) w68.heap.size (recsCells [⟨[97], 1, false, [49]⟩, ⟨[98], 2, false, [50]⟩]) 58 from by have := Blk.new w68 (recsCells [⟨[97], 1, false, [49]⟩, ⟨[98], 2, false, [50]⟩]) 58; exact this) 2 rfl (by omega)) (show Below (w68.alloc (.cells #[.string ⟨#[97]⟩, .int .u64 1, .bool false, .string ⟨#[49]⟩, .string ⟨#[98]⟩, .int .u64 2, .bool false, .string ⟨#[50]⟩] 58)).heap.size (w68.alloc (.cells #[.string ⟨#[97]⟩, .int .u64 1, .bool false, .string ⟨#[49]⟩, .string ⟨#[98]⟩, .int .u64 2, .bool false, .string ⟨#[50]⟩] 58)) ((w68.alloc (.cells #[.string ⟨#[97]⟩, .int .u64 1, .bool false, .string ⟨#[49]⟩, .string ⟨#[98]⟩, .int .u64 2, .bool false, .string ⟨#[50]⟩] 58)).alloc (.cells #[.string ⟨#[97]⟩, .int .u64 1, .bool false, .string ⟨#[49]⟩, .string ⟨#[98]⟩, .int .u64 2, .bool false, .string ⟨#[50]⟩] 58)) from (Below.refl _ _).alloc (Nat.le_refl _) _)) rfl (by omega) (by simp [Rec.ok, maxLen]) none 0 0 [] (EntsAt.nil _) (by omega) (by rfl) (some ⟨w68.heap.size + 1, 0, none⟩) 2 2 [⟨[97], 1, false, [49]⟩, ⟨[98], 2, false, [50]⟩] (recsAt_of (Q := [⟨[97], 1, false, [49]⟩, ⟨[98], 2, false, [50]⟩]) (show Blk ((w68.alloc (.cells #[.string ⟨#[97]⟩, .int .u64 1, .bool false, .string ⟨#[49]⟩, .string ⟨#[98]⟩, .int .u64 2, .bool false, .string ⟨#[50]⟩] 58)).alloc (.cells #[.string ⟨#[97]⟩, .int .u64 1, .bool false, .string ⟨#[49]⟩, .string ⟨#[98]⟩, .int .u64 2, .bool false, .string ⟨#[50]⟩] 58)) (w68.heap.size + 1) (recsCells [⟨[97], 1, false, [49]⟩, ⟨[98], 2, false, [50]⟩]) 58 from by have := Blk.new (w68.alloc (.cells #[.string ⟨#[97]⟩, .int .u64 1, .bool false, .string ⟨#[49]⟩, .string ⟨#[98]⟩, .int .u64 2, .bool false, .string ⟨#[50]⟩] 58)) (recsCells [⟨[97], 1, false, [49]⟩, ⟨[98], 2, false, [50]⟩]) 58; rw [World.size_alloc] at this; exact this) 2 rfl (by omega)) rfl (by omega) (by simp [Rec.ok, maxLen]) (-1) (by kernel_rfl))
  have HV := Lib.hid hv2
  clear hv0 hv1 hv2
  go_wp2_with fail
  refine (HA.out).mono ?_
  rintro e w69 ⟨rfl, hb⟩
  have hbx := HV.out.trans (hb.mono HV.out.size)
  have NHRA := Lib.hid (HRA.out.on hbx)
  have NHRB := Lib.hid (HRB.out.on hbx)
  have NHQ := Lib.hid (HQ.out.on hbx)
  have NHRN := Lib.hid (HRN.out.on hbx)
  have NHB := Lib.hid (HB.out.trans (hbx.mono HB.out.size))
  clear hbx HB HRA HRB HQ HRN
  have HRA := NHRA
  have HRB := NHRB
  have HQ := NHQ
  have HRN := NHRN
  have HB := NHB
  clear NHB NHRA NHRB NHQ NHRN
  clear hb HV HA qHRA0_0 qHRA0_1 qHRA0_2 qHRA0_3 qHRB0_0 qHRB0_1 qHRB0_2 qHRB0_3 qHRN0_0 qHRN0_1 qHRN0_2 qHRN0_3 qHRA1_0 qHRA1_1 qHRA1_2 qHRA1_3 qHRB1_0 qHRB1_1 qHRB1_2 qHRB1_3 qHRN1_0 qHRN1_1 qHRN1_2 qHRN1_3
  have hv0 : Below w69.heap.size w69 w69 := Below.refl _ _
  have hv1 : Below w69.heap.size w69 (w69.alloc (.cells #[.string ⟨#[97]⟩, .int .u64 1, .bool false, .string ⟨#[49]⟩] 58)) := hv0.alloc hv0.size _
  have hv2 : Below w69.heap.size w69 ((w69.alloc (.cells #[.string ⟨#[97]⟩, .int .u64 1, .bool false, .string ⟨#[49]⟩] 58)).alloc (.cells #[.string ⟨#[97]⟩, .int .u64 1, .bool false, .string ⟨#[49]⟩, .string ⟨#[98]⟩, .int .u64 2, .bool false, .string ⟨#[50]⟩] 58)) := hv1.alloc hv1.size _
  have qHRA0_0 : w69.cell? ⟨ab, 0, none⟩ = some (.string ⟨#[97]⟩) := by rw [(HRA.out.on hv0).cell]; rfl
  have qHRA0_1 : w69.cell? ⟨ab, 1, none⟩ = some (.int .u64 1) := by rw [(HRA.out.on hv0).cell]; rfl
  have qHRA0_2 : w69.cell? ⟨ab, 2, none⟩ = some (.bool false) := by rw [(HRA.out.on hv0).cell]; rfl
  have qHRA0_3 : w69.cell? ⟨ab, 3, none⟩ = some (.string ⟨#[49]⟩) := by rw [(HRA.out.on hv0).cell]; rfl
  have qHRB0_0 : w69.cell? ⟨(ab + 1), 0, none⟩ = some (.string ⟨#[98]⟩) := by rw [(HRB.out.on hv0).cell]; rfl
  have qHRB0_1 : w69.cell? ⟨(ab + 1), 1, none⟩ = some (.int .u64 2) := by rw [(HRB.out.on hv0).cell]; rfl
  have qHRB0_2 : w69.cell? ⟨(ab + 1), 2, none⟩ = some (.bool false) := by rw [(HRB.out.on hv0).cell]; rfl
  have qHRB0_3 : w69.cell? ⟨(ab + 1), 3, none⟩ = some (.string ⟨#[50]⟩) := by rw [(HRB.out.on hv0).cell]; rfl
  have qHRN0_0 : w69.cell? ⟨nb, 0, none⟩ = some (.string ⟨#[97]⟩) := by rw [(HRN.out.on hv0).cell]; rfl
  have qHRN0_1 : w69.cell? ⟨nb, 1, none⟩ = some (.int .u64 5) := by rw [(HRN.out.on hv0).cell]; rfl
  have qHRN0_2 : w69.cell? ⟨nb, 2, none⟩ = some (.bool false) := by rw [(HRN.out.on hv0).cell]; rfl
  have qHRN0_3 : w69.cell? ⟨nb, 3, none⟩ = some (.string ⟨#[49]⟩) := by rw [(HRN.out.on hv0).cell]; rfl
  have qHRA1_0 : (w69.alloc (.cells #[.string ⟨#[97]⟩, .int .u64 1, .bool false, .string ⟨#[49]⟩] 58)).cell? ⟨ab, 0, none⟩ = some (.string ⟨#[97]⟩) := by rw [(HRA.out.on hv1).cell]; rfl
  have qHRA1_1 : (w69.alloc (.cells #[.string ⟨#[97]⟩, .int .u64 1, .bool false, .string ⟨#[49]⟩] 58)).cell? ⟨ab, 1, none⟩ = some (.int .u64 1) := by rw [(HRA.out.on hv1).cell]; rfl
  have qHRA1_2 : (w69.alloc (.cells #[.string ⟨#[97]⟩, .int .u64 1, .bool false, .string ⟨#[49]⟩] 58)).cell? ⟨ab, 2, none⟩ = some (.bool false) := by rw [(HRA.out.on hv1).cell]; rfl
  have qHRA1_3 : (w69.alloc (.cells #[.string ⟨#[97]⟩, .int .u64 1, .bool false, .string ⟨#[49]⟩] 58)).cell? ⟨ab, 3, none⟩ = some (.string ⟨#[49]⟩) := by rw [(HRA.out.on hv1).cell]; rfl
  have qHRB1_0 : (w69.alloc (.cells #[.string ⟨#[97]⟩, .int .u64 1, .bool false, .string ⟨#[49]⟩] 58)).cell? ⟨(ab + 1), 0, none⟩ = some (.string ⟨#[98]⟩) := by rw [(HRB.out.on hv1).cell]; rfl
  have qHRB1_1 : (w69.alloc (.cells #[.string ⟨#[97]⟩, .int .u64 1, .bool false, .string ⟨#[49]⟩] 58)).cell? ⟨(ab + 1), 1, none⟩ = some (.int .u64 2) := by rw [(HRB.out.on hv1).cell]; rfl
  have qHRB1_2 : (w69.alloc (.cells #[.string ⟨#[97]⟩, .int .u64 1, .bool false, .string ⟨#[49]⟩] 58)).cell? ⟨(ab + 1), 2, none⟩ = some (.bool false) := by rw [(HRB.out.on hv1).cell]; rfl
  have qHRB1_3 : (w69.alloc (.cells #[.string ⟨#[97]⟩, .int .u64 1, .bool false, .string ⟨#[49]⟩] 58)).cell? ⟨(ab + 1), 3, none⟩ = some (.string ⟨#[50]⟩) := by rw [(HRB.out.on hv1).cell]; rfl
  have qHRN1_0 : (w69.alloc (.cells #[.string ⟨#[97]⟩, .int .u64 1, .bool false, .string ⟨#[49]⟩] 58)).cell? ⟨nb, 0, none⟩ = some (.string ⟨#[97]⟩) := by rw [(HRN.out.on hv1).cell]; rfl
  have qHRN1_1 : (w69.alloc (.cells #[.string ⟨#[97]⟩, .int .u64 1, .bool false, .string ⟨#[49]⟩] 58)).cell? ⟨nb, 1, none⟩ = some (.int .u64 5) := by rw [(HRN.out.on hv1).cell]; rfl
  have qHRN1_2 : (w69.alloc (.cells #[.string ⟨#[97]⟩, .int .u64 1, .bool false, .string ⟨#[49]⟩] 58)).cell? ⟨nb, 2, none⟩ = some (.bool false) := by rw [(HRN.out.on hv1).cell]; rfl
  have qHRN1_3 : (w69.alloc (.cells #[.string ⟨#[97]⟩, .int .u64 1, .bool false, .string ⟨#[49]⟩] 58)).cell? ⟨nb, 3, none⟩ = some (.string ⟨#[49]⟩) := by rw [(HRN.out.on hv1).cell]; rfl
  have HA := Lib.hid (contentK ((w69.alloc (.cells #[.string ⟨#[97]⟩, .int .u64 1, .bool false, .string ⟨#[49]⟩] 58)).alloc (.cells #[.string ⟨#[97]⟩, .int .u64 1, .bool false, .string ⟨#[49]⟩, .string ⟨#[98]⟩, .int .u64 2, .bool false, .string ⟨#[50]⟩] 58)) (some ⟨w69.heap.size, 0, none⟩) 1 1 [⟨[97], 1, false, [49]⟩] (RowsAt.on (recsAt_of (Q := [⟨[97], 1, false, [49]⟩]) (show Blk (w69.alloc (.cells #[.string ⟨#[97]⟩, .int .u64 1, .bool false, .string ⟨#[49]⟩] 58)) w69.heap.size (recsCells [⟨[97], 1, false, [49]⟩]) 58 from by have := Blk.new w69 (recsCells [⟨[97], 1, false, [49]⟩]) 58; exact this) 1 rfl (by omega)) (show Below (w69.alloc (.cells #[.string ⟨#[97]⟩, .int .u64 1, .bool false, .string ⟨#[49]⟩] 58)).heap.size (w69.alloc (.cells #[.string ⟨#[97]⟩, .int .u64 1, .bool false, .string ⟨#[49]⟩] 58)) ((w69.alloc (.cells #[.string ⟨#[97]⟩, .int .u64 1, .bool false, .string ⟨#[49]⟩] 58)).alloc (.cells #[.string ⟨#[97]⟩, .int .u64 1, .bool false, .string ⟨#[49]⟩, .string ⟨#[98]⟩, .int .u64 2, .bool false, .string ⟨#[50]⟩] 58)) from (Below.refl _ _).alloc (Nat.le_refl _) _)) rfl (by omega) (by simp [Rec.ok, maxLen]) none 0 0 [] (EntsAt.nil _) (by omega) (by rfl) (some ⟨w69.heap.size + 1, 0, none⟩) 2 2 [⟨[97], 1, false, [49]⟩, ⟨[98], 2, false, [50]⟩] (recsAt_of (Q := [⟨[97], 1, false, [49]⟩, ⟨[98], 2, false, [50]⟩]) (show Blk ((w69.alloc (.cells #[.string ⟨#[97]⟩, .int .u64 1, .bool false, .string ⟨#[49]⟩] 58)).alloc (.cells #[.string ⟨#[97]⟩, .int .u64 1, .bool false, .string ⟨#[49]⟩, .string ⟨#[98]⟩, .int .u64 2, .bool false, .string ⟨#[50]⟩] 58)) (w69.heap.size + 1) (recsCells [⟨[97], 1, false, [49]⟩, ⟨[98], 2, false, [50]⟩]) 58 from by have := Blk.new (w69.alloc (.cells #[.string ⟨#[97]⟩, .int .u64 1, .bool false, .string ⟨#[49]⟩] 58)) (recsCells [⟨[97], 1, false, [49]⟩, ⟨[98], 2, false, [50]⟩]) 58; rw [World.size_alloc] at this; exact this) 2 rfl (by omega)) rfl (by omega) (by simp [Rec.ok, maxLen]) 1 (by kernel_rfl))
  have HV := Lib.hid hv2
  clear hv0 hv1 hv2
  go_wp2_with fail
  refine (HA.out).mono ?_
  rintro e w70 ⟨rfl, hb⟩
  have hbx := HV.out.trans (hb.mono HV.out.size)
  have NHRA := Lib.hid (HRA.out.on hbx)
  have NHRB := Lib.hid (HRB.out.on hbx)
  have NHQ := Lib.hid (HQ.out.on hbx)
  have NHRN := Lib.hid (HRN.out.on hbx)
  have NHB := Lib.hid (HB.out.trans (hbx.mono HB.out.size))
  clear hbx HB HRA HRB HQ HRN
  have HRA := NHRA
  have HRB := NHRB
  have HQ := NHQ
  have HRN := NHRN
  have HB := NHB
  clear NHB NHRA NHRB NHQ NHRN
  clear hb HV HA qHRA0_0 qHRA0_1 qHRA0_2 qHRA0_3 qHRB0_0 qHRB0_1 qHRB0_2 qHRB0_3 qHRN0_0 qHRN0_1 qHRN0_2 qHRN0_3 qHRA1_0 qHRA1_1 qHRA1_2 qHRA1_3 qHRB1_0 qHRB1_1 qHRB1_2 qHRB1_3 qHRN1_0 qHRN1_1 qHRN1_2 qHRN1_3
  have hv0 : Below w70.heap.size w70 w70 := Below.refl _ _
  have hv1 : Below w70.heap.size w70 (w70.alloc (.cells #[.string ⟨#[97]⟩, .int .u64 1, .bool false, .string ⟨#[49]⟩, .string ⟨#[98]⟩, .int .u64 2, .bool false, .string ⟨#[50]⟩] 58)) := hv0.alloc hv0.size _
  have hv2 : Below w70.heap.size w70 ((w70.alloc (.cells #[.string ⟨#[97]⟩, .int .u64 1, .bool false, .string ⟨#[49]⟩, .string ⟨#[98]⟩, .int .u64 2, .bool false, .string ⟨#[50]⟩] 58)).alloc (.cells #[.string ⟨#[97]⟩, .int .u64 1, .bool false, .string ⟨#[49]⟩] 58)) := hv1.alloc hv1.size _
  have qHRA0_0 : w70.cell? ⟨ab, 0, none⟩ = some (.string ⟨#[97]⟩) := by rw [(HRA.out.on hv0).cell]; rfl
  have qHRA0_1 : w70.cell? ⟨ab, 1, none⟩ = some (.int .u64 1) := by rw [(HRA.out.on hv0).cell]; rfl
  have qHRA0_2 : w70.cell? ⟨ab, 2, none⟩ = some (.bool false) := by rw [(HRA.out.on hv0).cell]; rfl
  have qHRA0_3 : w70.cell? ⟨ab, 3, none⟩ = some (.string ⟨#[49]⟩) := by rw [(HRA.out.on hv0).cell]; rfl
  have qHRB0_0 : w70.cell? ⟨(ab + 1), 0, none⟩ = some (.string ⟨#[98]⟩) := by rw [(HRB.out.on hv0).cell]; rfl
  have qHRB0_1 : w70.cell? ⟨(ab + 1), 1, none⟩ = some (.int .u64 2) := by rw [(HRB.out.on hv0).cell]; rfl
  have qHRB0_2 : w70.cell? ⟨(ab + 1), 2, none⟩ = some (.bool false) := by rw [(HRB.out.on hv0).cell]; rfl
  have qHRB0_3 : w70.cell? ⟨(ab + 1), 3, none⟩ = some (.string ⟨#[50]⟩) := by rw [(HRB.out.on hv0).cell]; rfl
  have qHRN0_0 : w70.cell? ⟨nb, 0, none⟩ = some (.string ⟨#[97]⟩) := by rw [(HRN.out.on hv0).cell]; rfl
  have qHRN0_1 : w70.cell? ⟨nb, 1, none⟩ = some (.int .u64 5) := by rw [(HRN.out.on hv0).cell]; rfl
  have qHRN0_2 : w70.cell? ⟨nb, 2, none⟩ = some (.bool false) := by rw [(HRN.out.on hv0).cell]; rfl
  have qHRN0_3 : w70.cell? ⟨nb, 3, none⟩ = some (.string ⟨#[49]⟩) := by rw [(HRN.out.on hv0).cell]; rfl
  have qHRA1_0 : (w70.alloc (.cells #[.string ⟨#[97]⟩, .int .u64 1, .bool false, .string ⟨#[49]⟩, .string ⟨#[98]⟩, .int .u64 2, .bool false, .string ⟨#[50]⟩] 58)).cell? ⟨ab, 0, none⟩ = some (.string ⟨#[97]⟩) := by rw [(HRA.out.on hv1).cell]; rfl
  have qHRA1_1 : (w70.alloc (.cells #[.string ⟨#[97]⟩, .int .u64 1, .bool false, .string ⟨#[49]⟩, .string ⟨#[98]⟩, .int .u64 2, .bool false, .string ⟨#[50]⟩] 58)).cell? ⟨ab, 1, none⟩ = some (.int .u64 1) := by rw [(HRA.out.on hv1).cell]; rfl
  have qHRA1_2 : (w70.alloc (.cells #[.string ⟨#[97]⟩, .int .u64 1, .bool false, .string ⟨#[49]⟩, .string ⟨#[98]⟩, .int .u64 2, .bool false, .string ⟨#[50]⟩] 58)).cell? ⟨ab, 2, none⟩ = some (.bool false) := by rw [(HRA.out.on hv1).cell]; rfl
  have qHRA1_3 : (w70.alloc (.cells #[.string ⟨#[97]⟩, .int .u64 1, .bool false, .string ⟨#[49]⟩, .string ⟨#[98]⟩, .int .u64 2, .bool false, .string ⟨#[50]⟩] 58)).cell? ⟨ab, 3, none⟩ = some (.string ⟨#[49]⟩) := by rw [(HRA.out.on hv1).cell]; rfl
  have qHRB1_0 : (w70.alloc (.cells #[.string ⟨#[97]⟩, .int .u64 1, .bool false, .string ⟨#[49]⟩, .string ⟨#[98]⟩, .int .u64 2, .bool false, .string ⟨#[50]⟩] 58)).cell? ⟨(ab + 1), 0, none⟩ = some (.string ⟨#[98]⟩) := by rw [(HRB.out.on hv1).cell]; rfl
  have qHRB1_1 : (w70.alloc (.cells #[.string ⟨#[97]⟩, .int .u64 1, .bool false, .string ⟨#[49]⟩, .string ⟨#[98]⟩, .int .u64 2, .bool false, .string ⟨#[50]⟩] 58)).cell? ⟨(ab + 1), 1, none⟩ = some (.int .u64 2) := by rw [(HRB.out.on hv1).cell]; rfl
  have qHRB1_2 : (w70.alloc (.cells #[.string ⟨#[97]⟩, .int .u64 1, .bool false, .string ⟨#[49]⟩, .string ⟨#[98]⟩, .int .u64 2, .bool false, .string ⟨#[50]⟩] 58)).cell? ⟨(ab + 1), 2, none⟩ = some (.bool false) := by rw [(HRB.out.on hv1).cell]; rfl
  have qHRB1_3 : (w70.alloc (.cells #[.string ⟨#[97]⟩, .int .u64 1, .bool false, .string ⟨#[49]⟩, .string ⟨#[98]⟩, .int .u64 2, .bool false, .string ⟨#[50]⟩] 58)).cell? ⟨(ab + 1), 3, none⟩ = some (.string ⟨#[50]⟩) := by rw [(HRB.out.on hv1).cell]; rfl
  have qHRN1_0 : (w70.alloc (.cells #[.string ⟨#[97]⟩, .int .u64 1, .bool false, .string ⟨#[49]⟩, .string ⟨#[98]⟩, .int .u64 2, .bool false, .string ⟨#[50]⟩] 58)).cell? ⟨nb, 0, none⟩ = some (.string ⟨#[97]⟩) := by rw [(HRN.out.on hv1).cell]; rfl
  have qHRN1_1 : (w70.alloc (.cells #[.string ⟨#[97]⟩, .int .u64 1, .bool false, .string ⟨#[49]⟩, .string ⟨#[98]⟩, .int .u64 2, .bool false, .string ⟨#[50]⟩] 58)).cell? ⟨nb, 1, none⟩ = some (.int .u64 5) := by rw [(HRN.out.on hv1).cell]; rfl
  have qHRN1_2 : (w70.alloc (.cells #[.string ⟨#[97]⟩, .int .u64 1, .bool false, .string ⟨#[49]⟩, .string ⟨#[98]⟩, .int .u64 2, .bool false, .string ⟨#[50]⟩] 58)).cell? ⟨nb, 2, none⟩ = some (.bool false) := by rw [(HRN.out.on hv1).cell]; rfl
  have qHRN1_3 : (w70.alloc (.cells #[.string ⟨#[97]⟩, .int .u64 1, .bool false, .string ⟨#[49]⟩, .string ⟨#[98]⟩, .int .u64 2, .bool false, .string ⟨#[50]⟩] 58)).cell? ⟨nb, 3, none⟩ = some (.string ⟨#[49]⟩) := by rw [(HRN.out.on hv1).cell]; rfl
  have HA := Lib.hid (contentK ((w70.alloc (.cells #[.string ⟨#[97]⟩, .int .u64 1, .bool false, .string ⟨#[49]⟩, .string ⟨#[98]⟩, .int .u64 2, .bool false, .string ⟨#[50]⟩] 58)).alloc (.cells #[.string ⟨#[97]⟩, .int .u64 1, .bool false, .string ⟨#[49]⟩] 58)) (some ⟨w70.heap.size, 0, none⟩) 2 2 [⟨[97], 1, false, [49]⟩, ⟨[98], 2, false, [50]⟩] (RowsAt.on (recsAt_of (Q := [⟨[97], 1, false, [49]⟩, ⟨[98], 2, false, [50]⟩]) (show Blk (w70.alloc (.cells #[.string ⟨#[97]⟩, .int .u64 1, .bool false, .string ⟨#[49]⟩, .string ⟨#[98]⟩, .int .u64 2, .bool false, .string ⟨#[50]⟩] 58)) w70.heap.size (recsCells [⟨[97], 1, false, [49]⟩, ⟨[98], 2, false, [50]⟩]) 58 from by have := Blk.new w70 (recsCells [⟨[97], 1, false, [49]⟩, ⟨[98], 2, false, [50]⟩]) 58; exact this) 2 rfl (by omega)) (show Below (w70.alloc (.cells #[.string ⟨#[97]⟩, .int .u64 1, .bool false, .string ⟨#[49]⟩, .string ⟨#[98]⟩, .int .u64 2, .bool false, .string ⟨#[50]⟩] 58)).heap.size (w70.alloc (.cells #[.string ⟨#[97]⟩, .int .u64 1, .bool false, .string ⟨#[49]⟩, .string ⟨#[98]⟩, .int .u64 2, .bool false, .string ⟨#[50]⟩] 58)) ((w70.alloc (.cells #[.string ⟨#[97]⟩, .int .u64 1, .bool false, .string ⟨#[49]⟩, .string ⟨#[98]⟩, .int .u64 2, .bool false, .string ⟨#[50]⟩] 58)).alloc (.cells #[.string ⟨#[97]⟩, .int .u64 1, .bool false, .string ⟨#[49]⟩] 58)) from (Below.refl _ _).alloc (Nat.le_refl _) _)) rfl (by omega) (by simp [Rec.ok, maxLen]) none 0 0 [] (EntsAt.nil _) (by omega) (by rfl) (some ⟨w70.heap.size + 1, 0, none⟩) 1 1 [⟨[97], 1, false, [49]⟩] (recsAt_of (Q := [⟨[97], 1, false, [49]⟩]) (show Blk ((w70.alloc (.cells #[.string ⟨#[97]⟩, .int .u64 1, .bool false, .string ⟨#[49]⟩, .string ⟨#[98]⟩, .int .u64 2, .bool false, .string ⟨#[50]⟩] 58)).alloc (.cells #[.string ⟨#[97]⟩, .int .u64 1, .bool false, .string ⟨#[49]⟩] 58)) (w70.heap.size + 1) (recsCells [⟨[97], 1, false, [49]⟩]) 58 from by have := Blk.new (w70.alloc (.cells #[.string ⟨#[97]⟩, .int .u64 1, .bool false, .string ⟨#[49]⟩, .string ⟨#[98]⟩, .int .u64 2, .bool false, .string ⟨#[50]⟩] 58)) (recsCells [⟨[97], 1, false, [49]⟩]) 58; rw [World.size_alloc] at this; exact this) 1 rfl (by omega)) rfl (by omega) (by simp [Rec.ok, maxLen]) 2 (by kernel_rfl))
  have HV := Lib.hid hv2
  clear hv0 hv1 hv2
  go_wp2_with fail
  refine (HA.out).mono ?_
  rintro e w71 ⟨rfl, hb⟩
  have hbx := HV.out.trans (hb.mono HV.out.size)
  have NHRA := Lib.hid (HRA.out.on hbx)
  have NHRB := Lib.hid (HRB.out.on hbx)
  have NHQ := Lib.hid (HQ.out.on hbx)
  have NHRN := Lib.hid (HRN.out.on hbx)
  have NHB := Lib.hid (HB.out.trans (hbx.mono HB.out.size))
  clear hbx HB HRA HRB HQ HRN
  have HRA := NHRA
  have HRB := NHRB
  have HQ := NHQ
  have HRN := NHRN
  have HB := NHB
  clear NHB NHRA NHRB NHQ NHRN
  clear hb HV HA qHRA0_0 qHRA0_1 qHRA0_2 qHRA0_3 qHRB0_0 qHRB0_1 qHRB0_2 qHRB0_3 qHRN0_0 qHRN0_1 qHRN0_2 qHRN0_3 qHRA1_0 qHRA1_1 qHRA1_2 qHRA1_3 qHRB1_0 qHRB1_1 qHRB1_2 qHRB1_3 qHRN1_0 qHRN1_1 qHRN1_2 qHRN1_3
  have hv0 : Below w71.heap.size w71 w71 := Below.refl _ _
  have hv1 : Below w71.heap.size w71 (w71.alloc (.cells #[.string ⟨#[97]⟩, .int .u64 1, .bool false, .string ⟨#[49]⟩, .string ⟨#[98]⟩, .int .u64 2, .bool false, .string ⟨#[50]⟩] 58)) := hv0.alloc hv0.size _
  have hv2 : Below w71.heap.size w71 ((w71.alloc (.cells #[.string ⟨#[97]⟩, .int .u64 1, .bool false, .string ⟨#[49]⟩, .string ⟨#[98]⟩, .int .u64 2, .bool false, .string ⟨#[50]⟩] 58)).alloc (.cells #[.string ⟨#[97]⟩, .int .u64 5, .bool false, .string ⟨#[49]⟩] 58)) := hv1.alloc hv1.size _
  have qHRA0_0 : w71.cell? ⟨ab, 0, none⟩ = some (.string ⟨#[97]⟩) := by rw [(HRA.out.on hv0).cell]; rfl
  have qHRA0_1 : w71.cell? ⟨ab, 1, none⟩ = some (.int .u64 1) := by rw [(HRA.out.on hv0).cell]; rfl
  have qHRA0_2 : w71.cell? ⟨ab, 2, none⟩ = some (.bool false) := by rw [(HRA.out.on hv0).cell]; rfl
  have qHRA0_3 : w71.cell? ⟨ab, 3, none⟩ = some (.string ⟨#[49]⟩) := by rw [(HRA.out.on hv0).cell]; rfl
  have qHRB0_0 : w71.cell? ⟨(ab + 1), 0, none⟩ = some (.string ⟨#[98]⟩) := by rw [(HRB.out.on hv0).cell]; rfl
  have qHRB0_1 : w71.cell? ⟨(ab + 1), 1, none⟩ = some (.int .u64 2) := by rw [(HRB.out.on hv0).cell]; rfl
  have qHRB0_2 : w71.cell? ⟨(ab + 1), 2, none⟩ = some (.bool false) := by rw [(HRB.out.on hv0).cell]; rfl
  have qHRB0_3 : w71.cell? ⟨(ab + 1), 3, none⟩ = some (.string ⟨#[50]⟩) := by rw [(HRB.out.on hv0).cell]; rfl
  have qHRN0_0 : w71.cell? ⟨nb, 0, none⟩ = some (.string ⟨#[97]⟩) := by rw [(HRN.out.on hv0).cell]; rfl
  have qHRN0_1 : w71.cell? ⟨nb, 1, none⟩ = some (.int .u64 5) := by rw [(HRN.out.on hv0).cell]; rfl
  have qHRN0_2 : w71.cell? ⟨nb, 2, none⟩ = some (.bool false) := by rw [(HRN.out.on hv0).cell]; rfl
  have qHRN0_3 : w71.cell? ⟨nb, 3, none⟩ = some (.string ⟨#[49]⟩) := by rw [(HRN.out.on hv0).cell]; rfl
  have qHRA1_0 : (w71.alloc (.cells #[.string ⟨#[97]⟩, .int .u64 1, .bool false, .string ⟨#[49]⟩, .string ⟨#[98]⟩, .int .u64 2, .bool false, .string ⟨#[50]⟩] 58)).cell? ⟨ab, 0, none⟩ = some (.string ⟨#[97]⟩) := by rw [(HRA.out.on hv1).cell]; rfl
  have qHRA1_1 : (w71.alloc (.cells #[.string ⟨#[97]⟩, .int .u64 1, .bool false, .string ⟨#[49]⟩, .string ⟨#[98]⟩, .int .u64 2, .bool false, .string ⟨#[50]⟩] 58)).cell? ⟨ab, 1, none⟩ = some (.int .u64 1) := by rw [(HRA.out.on hv1).cell]; rfl
  have qHRA1_2 : (w71.alloc (.cells #[.string ⟨#[97]⟩, .int .u64 1, .bool false, .string ⟨#[49]⟩, .string ⟨#[98]⟩, .int .u64 2, .bool false, .string ⟨#[50]⟩] 58)).cell? ⟨ab, 2, none⟩ = some (.bool false) := by rw [(HRA.out.on hv1).cell]; rfl
  have qHRA1_3 : (w71.alloc (.cells #[.string ⟨#[97]⟩, .int .u64 1, .bool false, .string ⟨#[49]⟩, .string ⟨#[98]⟩, .int .u64 2, .bool false, .string ⟨#[50]⟩] 58)).cell? ⟨ab, 3, none⟩ = some (.string ⟨#[49]⟩) := by rw [(HRA.out.on hv1).cell]; rfl
  have qHRB1_0 : (w71.alloc (.cells #[.string ⟨#[97]⟩, .int .u64 1, .bool false, .string ⟨#[49]⟩, .string ⟨#[98]⟩, .int .u64 2, .bool false, .string ⟨#[50]⟩] 58)).cell? ⟨(ab + 1), 0, none⟩ = some (.string ⟨#[98]⟩) := by rw [(HRB.out.on hv1).cell]; rfl
  have qHRB1_1 : (w71.alloc (.cells #[.string ⟨#[97]⟩, .int .u64 1, .bool false, .string ⟨#[49]⟩, .string ⟨#[98]⟩, .int .u64 2, .bool false, .string ⟨#[50]⟩] 58)).cell? ⟨(ab + 1), 1, none⟩ = some (.int .u64 2) := by rw [(HRB.out.on hv1).cell]; rfl
  have qHRB1_2 : (w71.alloc (.cells #[.string ⟨#[97]⟩, .int .u64 1, .bool false, .string ⟨#[49]⟩, .string ⟨#[98]⟩, .int .u64 2, .bool false, .string ⟨#[50]⟩] 58)).cell? ⟨(ab + 1), 2, none⟩ = some (.bool false) := by rw [(HRB.out.on hv1).cell]; rfl
  have qHRB1_3 : (w71.alloc (.cells #[.string ⟨#[97]⟩, .int .u64 1, .bool false, .string ⟨#[49]⟩, .string ⟨#[98]⟩, .int .u64 2, .bool false, .string ⟨#[50]⟩] 58)).cell? ⟨(ab + 1), 3, none⟩ = some (.string ⟨#[50]⟩) := by rw [(HRB.out.on hv1).cell]; rfl
  have qHRN1_0 : (w71.alloc (.cells #[.string ⟨#[97]⟩, .int .u64 1, .bool false, .string ⟨#[49]⟩, .string ⟨#[98]⟩, .int .u64 2, .bool false, .string ⟨#[50]⟩] 58)).cell? ⟨nb, 0, none⟩ = some (.string ⟨#[97]⟩) := by rw [(HRN.out.on hv1).cell]; rfl
  have qHRN1_1 : (w71.alloc (.cells #[.string ⟨#[97]⟩, .int .u64 1, .bool false, .string ⟨#[49]⟩, .string ⟨#[98]⟩, .int .u64 2, .bool false, .string ⟨#[50]⟩] 58)).cell? ⟨nb, 1, none⟩ = some (.int .u64 5) := by rw [(HRN.out.on hv1).cell]; rfl
  have qHRN1_2 : (w71.alloc (.cells #[.string ⟨#[97]⟩, .int .u64 1, .bool false, .string ⟨#[49]⟩, .string ⟨#[98]⟩, .int .u64 2, .bool false, .string ⟨#[50]⟩] 58)).cell? ⟨nb, 2, none⟩ = some (.bool false) := by rw [(HRN.out.on hv1).cell]; rfl
  have qHRN1_3 : (w71.alloc (.cells #[.string ⟨#[97]⟩, .int .u64 1, .bool false, .string ⟨#[49]⟩, .string ⟨#[98]⟩, .int .u64 2, .bool false, .string ⟨#[50]⟩] 58)).cell? ⟨nb, 3, none⟩ = some (.string ⟨#[49]⟩) := by rw [(HRN.out.on hv1).cell]; rfl
  have HA := Lib.hid (contentK ((w71.alloc (.cells #[.string ⟨#[97]⟩, .int .u64 1, .bool false, .string ⟨#[49]⟩, .string ⟨#[98]⟩, .int .u64 2, .bool false, .string ⟨#[50]⟩] 58)).alloc (.cells #[.string ⟨#[97]⟩, .int .u64 5, .bool false, .string ⟨#[49]⟩] 58)) (some ⟨w71.heap.size, 0, none⟩) 2 2 [⟨[97], 1, false, [49]⟩, ⟨[98], 2, false, [50]⟩] (RowsAt.on (recsAt_of (Q := [⟨[97], 1, false, [49]⟩, ⟨[98], 2, false, [50]⟩]) (show Blk (w71.alloc (.cells #[.string ⟨#[97]⟩, .int .u64 1, .bool false, .string ⟨#[49]⟩, .string ⟨#[98]⟩, .int .u64 2, .bool false, .string ⟨#[50]⟩] 58)) w71.heap.size (recsCells [⟨[97], 1, false, [49]⟩, ⟨[98], 2, false, [50]⟩]) 58 from by have := Blk.new w71 (recsCells [⟨[97], 1, false, [49]⟩, ⟨[98], 2, false, [50]⟩]) 58; exact this) 2 rfl (by omega)) (show Below (w71.alloc (.cells #[.string ⟨#[97]⟩, .int .u64 1, .bool false, .string ⟨#[49]⟩, .string ⟨#[98]⟩, .int .u64 2, .bool false, .string ⟨#[50]⟩] 58)).heap.size (w71.alloc (.cells #[.string ⟨#[97]⟩, .int .u64 1, .bool false, .string ⟨#[49]⟩, .string ⟨#[98]⟩, .int .u64 2, .bool false, .string ⟨#[50]⟩] 58)) ((w71.alloc (.cells #[.string ⟨#[97]⟩, .int .u64 1, .bool false, .string ⟨#[49]⟩, .string ⟨#[98]⟩, .int .u64 2, .bool false, .string ⟨#[50]⟩] 58)).alloc (.cells #[.string ⟨#[97]⟩, .int .u64 5, .bool false, .string ⟨#[49]⟩] 58)) from (Below.refl _ _).alloc (Nat.le_refl _) _)) rfl (by omega) (by simp [Rec.ok, maxLen]) (some ⟨gb + 1, 0, none⟩) 2 2 [((⟨5, 5, a33, n33, c33⟩ : Ent), mkE 5 [97] [49]), ((⟨7, 0, some ⟨gb, 0, none⟩, 1, 1⟩ : Ent), (⟨7, 0, [⟨[98], 9, true, []⟩]⟩ : Entry))] (HQ.out.on hv2) (by omega) (by rfl) (some ⟨w71.heap.size + 1, 0, none⟩) 1 1 [⟨[97], 5, false, [49]⟩] (recsAt_of (Q := [⟨[97], 5, false, [49]⟩]) (show Blk ((w71.alloc (.cells #[.string ⟨#[97]⟩, .int .u64 1, .bool false, .string ⟨#[49]⟩, .string ⟨#[98]⟩, .int .u64 2, .bool false, .string ⟨#[50]⟩] 58)).alloc (.cells #[.string ⟨#[97]⟩, .int .u64 5, .bool false, .string ⟨#[49]⟩] 58)) (w71.heap.size + 1) (recsCells [⟨[97], 5, false, [49]⟩]) 58 from by have := Blk.new (w71.alloc (.cells #[.string ⟨#[97]⟩, .int .u64 1, .bool false, .string ⟨#[49]⟩, .string ⟨#[98]⟩, .int .u64 2, .bool false, .string ⟨#[50]⟩] 58)) (recsCells [⟨[97], 5, false, [49]⟩]) 58; rw [World.size_alloc] at this; exact this) 1 rfl (by omega)) rfl (by omega) (by simp [Rec.ok, maxLen]) (-1) (by kernel_rfl))
  have HV := Lib.hid hv2
  clear hv0 hv1 hv2
  go_wp2_with fail
  refine (HA.out).mono ?_
  rintro e w72 ⟨rfl, hb⟩
  have hbx := HV.out.trans (hb.mono HV.out.size)
  have NHRA := Lib.hid (HRA.out.on hbx)
  have NHRB := Lib.hid (HRB.out.on hbx)
  have NHQ := Lib.hid (HQ.out.on hbx)
  have NHRN := Lib.hid (HRN.out.on hbx)
  have NHB := Lib.hid (HB.out.trans (hbx.mono HB.out.size))
  clear hbx HB HRA HRB HQ HRN
  have HRA := NHRA
  have HRB := NHRB
  have HQ := NHQ
  have HRN := NHRN
  have HB := NHB
  clear NHB NHRA NHRB NHQ NHRN
  clear hb HV HA qHRA0_0 qHRA0_1 qHRA0_2 qHRA0_3 qHRB0_0 qHRB0_1 qHRB0_2 qHRB0_3 qHRN0_0 qHRN0_1 qHRN0_2 qHRN0_3 qHRA1_0 qHRA1_1 qHRA1_2 qHRA1_3 qHRB1_0 qHRB1_1 qHRB1_2 qHRB1_3 qHRN1_0 qHRN1_1 qHRN1_2 qHRN1_3
  have hv0 : Below w72.heap.size w72 w72 := Below.refl _ _
  have hv1 : Below w72.heap.size w72 (w72.alloc (.cells #[.string ⟨#[97]⟩, .int .u64 5, .bool false, .string ⟨#[49]⟩, .string ⟨#[98]⟩, .int .u64 2, .bool false, .string ⟨#[50]⟩] 58)) := hv0.alloc hv0.size _
  have hv2 : Below w72.heap.size w72 ((w72.alloc (.cells #[.string ⟨#[97]⟩, .int .u64 5, .bool false, .string ⟨#[49]⟩, .string ⟨#[98]⟩, .int .u64 2, .bool false, .string ⟨#[50]⟩] 58)).alloc (.cells #[.string ⟨#[97]⟩, .int .u64 1, .bool false, .string ⟨#[49]⟩, .string ⟨#[98]⟩, .int .u64 2, .bool false, .string ⟨#[50]⟩] 58)) := hv1.alloc hv1.size _
  have qHRA0_0 : w72.cell? ⟨ab, 0, none⟩ = some (.string ⟨#[97]⟩) := by rw [(HRA.out.on hv0).cell]; rfl
  have qHRA0_1 : w72.cell? ⟨ab, 1, none⟩ = some (.int .u64 1) := by rw [(HRA.out.on hv0).cell]; rfl
  have qHRA0_2 : w72.cell? ⟨ab, 2, none⟩ = some (.bool false) := by rw [(HRA.out.on hv0).cell]; rfl
  have qHRA0_3 : w72.cell? ⟨ab, 3, none⟩ = some (.string ⟨#[49]⟩) := by rw [(HRA.out.on hv0).cell]; rfl
  have qHRB0_0 : w72.cell? ⟨(ab + 1), 0, none⟩ = some (.string ⟨#[98]⟩) := by rw [(HRB.out.on hv0).cell]; rfl
  have qHRB0_1 : w72.cell? ⟨(ab + 1), 1, none⟩ = some (.int .u64 2) := by rw [(HRB.out.on hv0).cell]; rfl
  have qHRB0_2 : w72.cell? ⟨(ab + 1), 2, none⟩ = some (.bool false) := by rw [(HRB.out.on hv0).cell]; rfl
  have qHRB0_3 : w72.cell? ⟨(ab + 1), 3, none⟩ = some (.string ⟨#[50]⟩) := by rw [(HRB.out.on hv0).cell]; rfl
  have qHRN0_0 : w72.cell? ⟨nb, 0, none⟩ = some (.string ⟨#[97]⟩) := by rw [(HRN.out.on hv0).cell]; rfl
  have qHRN0_1 : w72.cell? ⟨nb, 1, none⟩ = some (.int .u64 5) := by rw [(HRN.out.on hv0).cell]; rfl
  have qHRN0_2 : w72.cell? ⟨nb, 2, none⟩ = some (.bool false) := by rw [(HRN.out.on hv0).cell]; rfl
  have qHRN0_3 : w72.cell? ⟨nb, 3, none⟩ = some (.string ⟨#[49]⟩) := by rw [(HRN.out.on hv0).cell]; rfl
  have qHRA1_0 : (w72.alloc (.cells #[.string ⟨#[97]⟩, .int .u64 5, .bool false, .string ⟨#[49]⟩, .string ⟨#[98]⟩, .int .u64 2, .bool false, .string ⟨#[50]⟩] 58)).cell? ⟨ab, 0, none⟩ = some (.string ⟨#[97]⟩) := by rw [(HRA.out.on hv1).cell]; rfl
  have qHRA1_1 : (w72.alloc (.cells #[.string ⟨#[97]⟩, .int .u64 5, .bool false, .string ⟨#[49]⟩, .string ⟨#[98]⟩, .int .u64 2, .bool false, .string ⟨#[50]⟩] 58)).cell? ⟨ab, 1, none⟩ = some (.int .u64 1) := by rw [(HRA.out.on hv1).cell]; rfl
  have qHRA1_2 : (w72.alloc (.cells #[.string ⟨#[97]⟩, .int .u64 5, .bool false, .string ⟨#[49]⟩, .string ⟨#[98]⟩, .int .u64 2, .bool false, .string ⟨#[50]⟩] 58)).cell? ⟨ab, 2, none⟩ = some (.bool false) := by rw [(HRA.out.on hv1).cell]; rfl
  have qHRA1_3 : (w72.alloc (.cells #[.string ⟨#[97]⟩, .int .u64 5, .bool false, .string ⟨#[49]⟩, .string ⟨#[98]⟩, .int .u64 2, .bool false, .string ⟨#[50]⟩] 58)).cell? ⟨ab, 3, none⟩ = some (.string ⟨#[49]⟩) := by rw [(HRA.out.on hv1).cell]; rfl
  have qHRB1_0 : (w72.alloc (.cells #[.string ⟨#[97]⟩, .int .u64 5, .bool false, .string ⟨#[49]⟩, .string ⟨#[98]⟩, .int .u64 2, .bool false, .string ⟨#[50]⟩] 58)).cell? ⟨(ab + 1), 0, none⟩ = some (.string ⟨#[98]⟩) := by rw [(HRB.out.on hv1).cell]; rfl
  have qHRB1_1 : (w72.alloc (.cells #[.string ⟨#[97]⟩, .int .u64 5, .bool false, .string ⟨#[49]⟩, .string ⟨#[98]⟩, .int .u64 2, .bool false, .string ⟨#[50]⟩] 58)).cell? ⟨(ab + 1), 1, none⟩ = some (.int .u64 2) := by rw [(HRB.out.on hv1).cell]; rfl
  have qHRB1_2 : (w72.alloc (.cells #[.string ⟨#[97]⟩, .int .u64 5, .bool false, .string ⟨#[49]⟩, .string ⟨#[98]⟩, .int .u64 2, .bool false, .string ⟨#[50]⟩] 58)).cell? ⟨(ab + 1), 2, none⟩ = some (.bool false) := by rw [(HRB.out.on hv1).cell]; rfl
  have qHRB1_3 : (w72.alloc (.cells #[.string ⟨#[97]⟩, .int .u64 5, .bool false, .string ⟨#[49]⟩, .string ⟨#[98]⟩, .int .u64 2, .bool false, .string ⟨#[50]⟩] 58)).cell? ⟨(ab + 1), 3, none⟩ = some (.string ⟨#[50]⟩) := by rw [(HRB.out.on hv1).cell]; rfl
  have qHRN1_0 : (w72.alloc (.cells #[.string ⟨#[97]⟩, .int .u64 5, .bool false, .string ⟨#[49]⟩, .string ⟨#[98]⟩, .int .u64 2, .bool false, .string ⟨#[50]⟩] 58)).cell? ⟨nb, 0, none⟩ = some (.string ⟨#[97]⟩) := by rw [(HRN.out.on hv1).cell]; rfl
  have qHRN1_1 : (w72.alloc (.cells #[.string ⟨#[97]⟩, .int .u64 5, .bool false, .string ⟨#[49]⟩, .string ⟨#[98]⟩, .int .u64 2, .bool false, .string ⟨#[50]⟩] 58)).cell? ⟨nb, 1, none⟩ = some (.int .u64 5) := by rw [(HRN.out.on hv1).cell]; rfl
  have qHRN1_2 : (w72.alloc (.cells #[.string ⟨#[97]⟩, .int .u64 5, .bool false, .string ⟨#[49]⟩, .string ⟨#[98]⟩, .int .u64 2, .bool false, .string ⟨#[50]⟩] 58)).cell? ⟨nb, 2, none⟩ = some (.bool false) := by rw [(HRN.out.on hv1).cell]; rfl
  have qHRN1_3 : (w72.alloc (.cells #[.string ⟨#[97]⟩, .int .u64 5, .bool false, .string ⟨#[49]⟩, .string ⟨#[98]⟩, .int .u64 2, .bool false, .string ⟨#[50]⟩] 58)).cell? ⟨nb, 3, none⟩ = some (.string ⟨#[49]⟩) := by rw [(HRN.out.on hv1).cell]; rfl
  have HA := Lib.hid (contentK ((w72.alloc (.cells #[.string ⟨#[97]⟩, .int .u64 5, .bool false, .string ⟨#[49]⟩, .string ⟨#[98]⟩, .int .u64 2, .bool false, .string ⟨#[50]⟩] 58)).alloc (.cells #[.string ⟨#[97]⟩, .int .u64 1, .bool false, .string ⟨#[49]⟩, .string ⟨#[98]⟩, .int .u64 2, .bool false, .string ⟨#[50]⟩] 58)) (some ⟨w72.heap.size, 0, none⟩) 2 2 [⟨[97], 5, false, [49]⟩, ⟨[98], 2, false, [50]⟩] (RowsAt.on (recsAt_of (Q := [⟨[97], 5, false, [49]⟩, ⟨[98], 2, false, [50]⟩]) (show Blk (w72.alloc (.cells #[.string ⟨#[97]⟩, .int .u64 5, .bool false, .string ⟨#[49]⟩, .string ⟨#[98]⟩, .int .u64 2, .bool false, .string ⟨#[50]⟩] 58)) w72.heap.size (recsCells [⟨[97], 5, false, [49]⟩, ⟨[98], 2, false, [50]⟩]) 58 from by have := Blk.new w72 (recsCells [⟨[97], 5, false, [49]⟩, ⟨[98], 2, false, [50]⟩]) 58; exact this) 2 rfl (by omega)) (show Below (w72.alloc (.cells #[.string ⟨#[97]⟩, .int .u64 5, .bool false, .string ⟨#[49]⟩, .string ⟨#[98]⟩, .int .u64 2, .bool false, .string ⟨#[50]⟩] 58)).heap.size (w72.alloc (.cells #[.string ⟨#[97]⟩, .int .u64 5, .bool false, .string ⟨#[49]⟩, .string ⟨#[98]⟩, .int .u64 2, .bool false, .string ⟨#[50]⟩] 58)) ((w72.alloc (.cells #[.string ⟨#[97]⟩, .int .u64 5, .bool false, .string ⟨#[49]⟩, .string ⟨#[98]⟩, .int .u64 2, .bool false, .string ⟨#[50]⟩] 58)).alloc (.cells #[.string ⟨#[97]⟩, .int .u64 1, .bool false, .string ⟨#[49]⟩, .string ⟨#[98]⟩, .int .u64 2, .bool false, .string ⟨#[50]⟩] 58)) from (Below.refl _ _).alloc (Nat.le_refl _) _)) rfl (by omega) (by simp [Rec.ok, maxLen]) (some ⟨gb + 1, 0, none⟩) 2 2 [((⟨5, 5, a33, n33, c33⟩ : Ent), mkE 5 [97] [49]), ((⟨7, 0, some ⟨gb, 0, none⟩, 1, 1⟩ : Ent), (⟨7, 0, [⟨[98], 9, true, []⟩]⟩ : Entry))] (HQ.out.on hv2) (by omega) (by rfl) (some ⟨w72.heap.size + 1, 0, none⟩) 2 2 [⟨[97], 1, false, [49]⟩, ⟨[98], 2, false, [50]⟩] (recsAt_of (Q := [⟨[97], 1, false, [49]⟩, ⟨[98], 2, false, [50]⟩]) (show Blk ((w72.alloc (.cells #[.string ⟨#[97]⟩, .int .u64 5, .bool false, .string ⟨#[49]⟩, .string ⟨#[98]⟩, .int .u64 2, .bool false, .string ⟨#[50]⟩] 58)).alloc (.cells #[.string ⟨#[97]⟩, .int .u64 1, .bool false, .string ⟨#[49]⟩, .string ⟨#[98]⟩, .int .u64 2, .bool false, .string ⟨#[50]⟩] 58)) (w72.heap.size + 1) (recsCells [⟨[97], 1, false, [49]⟩, ⟨[98], 2, false, [50]⟩]) 58 from by have := Blk.new (w72.alloc (.cells #[.string ⟨#[97]⟩, .int .u64 5, .bool false, .string ⟨#[49]⟩, .string ⟨#[98]⟩, .int .u64 2, .bool false, .string ⟨#[50]⟩] 58)) (recsCells [⟨[97], 1, false, [49]⟩, ⟨[98], 2, false, [50]⟩]) 58; rw [World.size_alloc] at this; exact this) 2 rfl (by omega)) rfl (by omega) (by simp [Rec.ok, maxLen]) 0 (by kernel_rfl))
  have HV := Lib.hid hv2
  clear hv0 hv1 hv2
  go_wp2_with fail
  refine (HA.out).mono ?_
  rintro e w73 ⟨rfl, hb⟩
  have hbx := HV.out.trans (hb.mono HV.out.size)
  have NHRA := Lib.hid (HRA.out.on hbx)
  have NHRB := Lib.hid (HRB.out.on hbx)
  have NHQ := Lib.hid (HQ.out.on hbx)
  have NHRN := Lib.hid (HRN.out.on hbx)
  have NHB := Lib.hid (HB.out.trans (hbx.mono HB.out.size))
  clear hbx HB HRA HRB HQ HRN
  have HRA := NHRA
  have HRB := NHRB
  have HQ := NHQ
  have HRN := NHRN
  have HB := NHB
  clear NHB NHRA NHRB NHQ NHRN
  clear hb HV HA qHRA0_0 qHRA0_1 qHRA0_2 qHRA0_3 qHRB0_0 qHRB0_1 qHRB0_2 qHRB0_3 qHRN0_0 qHRN0_1 qHRN0_2 qHRN0_3 qHRA1_0 qHRA1_1 qHRA1_2 qHRA1_3 qHRB1_0 qHRB1_1 qHRB1_2 qHRB1_3 qHRN1_0 qHRN1_1 qHRN1_2 qHRN1_3
  have hv0 : Below w73.heap.size w73 w73 := Below.refl _ _
  have hv1 : Below w73.heap.size w73 (w73.alloc (.cells #[.string ⟨#[98]⟩, .int .u64 10, .bool false, .string ⟨#[50]⟩] 58)) := hv0.alloc hv0.size _
  have qHRA0_0 : w73.cell? ⟨ab, 0, none⟩ = some (.string ⟨#[97]⟩) := by rw [(HRA.out.on hv0).cell]; rfl
  have qHRA0_1 : w73.cell? ⟨ab, 1, none⟩ = some (.int .u64 1) := by rw [(HRA.out.on hv0).cell]; rfl
  have qHRA0_2 : w73.cell? ⟨ab, 2, none⟩ = some (.bool false) := by rw [(HRA.out.on hv0).cell]; rfl
  have qHRA0_3 : w73.cell? ⟨ab, 3, none⟩ = some (.string ⟨#[49]⟩) := by rw [(HRA.out.on hv0).cell]; rfl
  have qHRB0_0 : w73.cell? ⟨(ab + 1), 0, none⟩ = some (.string ⟨#[98]⟩) := by rw [(HRB.out.on hv0).cell]; rfl
  have qHRB0_1 : w73.cell? ⟨(ab + 1), 1, none⟩ = some (.int .u64 2) := by rw [(HRB.out.on hv0).cell]; rfl
  have qHRB0_2 : w73.cell? ⟨(ab + 1), 2, none⟩ = some (.bool false) := by rw [(HRB.out.on hv0).cell]; rfl
  have qHRB0_3 : w73.cell? ⟨(ab + 1), 3, none⟩ = some (.string ⟨#[50]⟩) := by rw [(HRB.out.on hv0).cell]; rfl
  have qHRN0_0 : w73.cell? ⟨nb, 0, none⟩ = some (.string ⟨#[97]⟩) := by rw [(HRN.out.on hv0).cell]; rfl
  have qHRN0_1 : w73.cell? ⟨nb, 1, none⟩ = some (.int .u64 5) := by rw [(HRN.out.on hv0).cell]; rfl
  have qHRN0_2 : w73.cell? ⟨nb, 2, none⟩ = some (.bool false) := by rw [(HRN.out.on hv0).cell]; rfl
  have qHRN0_3 : w73.cell? ⟨nb, 3, none⟩ = some (.string ⟨#[49]⟩) := by rw [(HRN.out.on hv0).cell]; rfl
  have HA := Lib.hid (contentK (w73.alloc (.cells #[.string ⟨#[98]⟩, .int .u64 10, .bool false, .string ⟨#[50]⟩] 58)) (some ⟨w73.heap.size, 0, none⟩) 1 1 [⟨[98], 10, false, [50]⟩] (recsAt_of (Q := [⟨[98], 10, false, [50]⟩]) (show Blk (w73.alloc (.cells #[.string ⟨#[98]⟩, .int .u64 10, .bool false, .string ⟨#[50]⟩] 58)) w73.heap.size (recsCells [⟨[98], 10, false, [50]⟩]) 58 from by have := Blk.new w73 (recsCells [⟨[98], 10, false, [50]⟩]) 58; exact this) 1 rfl (by omega)) rfl (by omega) (by simp [Rec.ok, maxLen]) (some ⟨gb + 1, 0, none⟩) 2 2 [((⟨5, 5, a33, n33, c33⟩ : Ent), mkE 5 [97] [49]), ((⟨7, 0, some ⟨gb, 0, none⟩, 1, 1⟩ : Ent), (⟨7, 0, [⟨[98], 9, true, []⟩]⟩ : Entry))] (HQ.out.on hv1) (by omega) (by rfl) none 0 0 [] (RowsAt.nil _ _) rfl (by omega) (by simp [Rec.ok, maxLen]) 0 (by kernel_rfl))
  have HV := Lib.hid hv1
  clear hv0 hv1
  go_wp2_with fail
  refine (HA.out).mono ?_
  rintro e w74 ⟨rfl, hb⟩
  have hbx := HV.out.trans (hb.mono HV.out.size)
  have NHRA := Lib.hid (HRA.out.on hbx)
  have NHRB := Lib.hid (HRB.out.on hbx)
  have NHQ := Lib.hid (HQ.out.on hbx)
  have NHRN := Lib.hid (HRN.out.on hbx)
  have NHB := Lib.hid (HB.out.trans (hbx.mono HB.out.size))
  clear hbx HB HRA HRB HQ HRN
  have HRA := NHRA
  have HRB := NHRB
  have HQ := NHQ
  have HRN := NHRN
  have HB := NHB
  clear NHB NHRA NHRB NHQ NHRN
  clear hb HV HA qHRA0_0 qHRA0_1 qHRA0_2 qHRA0_3 qHRB0_0 qHRB0_1 qHRB0_2 qHRB0_3 qHRN0_0 qHRN0_1 qHRN0_2 qHRN0_3
  have hv0 : Below w74.heap.size w74 w74 := Below.refl _ _
  have hv1 : Below w74.heap.size w74 (w74.alloc (.cells #[.string ⟨#[98]⟩, .int .u64 10, .bool true, .string ⟨#[]⟩] 58)) := hv0.alloc hv0.size _
  have qHRA0_0 : w74.cell? ⟨ab, 0, none⟩ = some (.string ⟨#[97]⟩) := by rw [(HRA.out.on hv0).cell]; rfl
  have qHRA0_1 : w74.cell? ⟨ab, 1, none⟩ = some (.int .u64 1) := by rw [(HRA.out.on hv0).cell]; rfl
  have qHRA0_2 : w74.cell? ⟨ab, 2, none⟩ = some (.bool false) := by rw [(HRA.out.on hv0).cell]; rfl
  have qHRA0_3 : w74.cell? ⟨ab, 3, none⟩ = some (.string ⟨#[49]⟩) := by rw [(HRA.out.on hv0).cell]; rfl
  have qHRB0_0 : w74.cell? ⟨(ab + 1), 0, none⟩ = some (.string ⟨#[98]⟩) := by rw [(HRB.out.on hv0).cell]; rfl
  have qHRB0_1 : w74.cell? ⟨(ab + 1), 1, none⟩ = some (.int .u64 2) := by rw [(HRB.out.on hv0).cell]; rfl
  have qHRB0_2 : w74.cell? ⟨(ab + 1), 2, none⟩ = some (.bool false) := by rw [(HRB.out.on hv0).cell]; rfl
  have qHRB0_3 : w74.cell? ⟨(ab + 1), 3, none⟩ = some (.string ⟨#[50]⟩) := by rw [(HRB.out.on hv0).cell]; rfl
  have qHRN0_0 : w74.cell? ⟨nb, 0, none⟩ = some (.string ⟨#[97]⟩) := by rw [(HRN.out.on hv0).cell]; rfl
  have qHRN0_1 : w74.cell? ⟨nb, 1, none⟩ = some (.int .u64 5) := by rw [(HRN.out.on hv0).cell]; rfl
  have qHRN0_2 : w74.cell? ⟨nb, 2, none⟩ = some (.bool false) := by rw [(HRN.out.on hv0).cell]; rfl
  have qHRN0_3 : w74.cell? ⟨nb, 3, none⟩ = some (.string ⟨#[49]⟩) := by rw [(HRN.out.on hv0).cell]; rfl
  have HA := Lib.hid (contentK (w74.alloc (.cells #[.string ⟨#[98]⟩, .int .u64 10, .bool true, .string ⟨#[]⟩] 58)) (some ⟨w74.heap.size, 0, none⟩) 1 1 [⟨[98], 10, true, []⟩] (recsAt_of (Q := [⟨[98], 10, true, []⟩]) (show Blk (w74.alloc (.cells #[.string ⟨#[98]⟩, .int .u64 10, .bool true, .string ⟨#[]⟩] 58)) w74.heap.size (recsCells [⟨[98], 10, true, []⟩]) 58 from by have := Blk.new w74 (recsCells [⟨[98], 10, true, []⟩]) 58; exact this) 1 rfl (by omega)) rfl (by omega) (by simp [Rec.ok, maxLen]) none 0 0 [] (EntsAt.nil _) (by omega) (by rfl) none 0 0 [] (RowsAt.nil _ _) rfl (by omega) (by simp [Rec.ok, maxLen]) (-1) (by kernel_rfl))
  have HV := Lib.hid hv1
  clear hv0 hv1
  go_wp2_with fail
  refine (HA.out).mono ?_
  rintro e w75 ⟨rfl, hb⟩
  have hbx := HV.out.trans (hb.mono HV.out.size)
  have NHRA := Lib.hid (HRA.out.on hbx)
  have NHRB := Lib.hid (HRB.out.on hbx)
  have NHQ := Lib.hid (HQ.out.on hbx)
  have NHRN := Lib.hid (HRN.out.on hbx)
  have NHB := Lib.hid (HB.out.trans (hbx.mono HB.out.size))
  clear hbx HB HRA HRB HQ HRN
  have HRA := NHRA
  have HRB := NHRB
  have HQ := NHQ
  have HRN := NHRN
  have HB := NHB
  clear NHB NHRA NHRB NHQ NHRN
  clear hb HV HA qHRA0_0 qHRA0_1 qHRA0_2 qHRA0_3 qHRB0_0 qHRB0_1 qHRB0_2 qHRB0_3 qHRN0_0 qHRN0_1 qHRN0_2 qHRN0_3
  go_wp2_with fail
  refine (works_any w75).mono ?_
  rintro e w76 ⟨rfl, hb⟩
  have hbx := hb
  have NHRA := Lib.hid (HRA.out.on hbx)
  have NHRB := Lib.hid (HRB.out.on hbx)
  have NHQ := Lib.hid (HQ.out.on hbx)
  have NHRN := Lib.hid (HRN.out.on hbx)
  have NHB := Lib.hid (HB.out.trans (hbx.mono HB.out.size))
  clear hbx HB HRA HRB HQ HRN
  have HRA := NHRA
  have HRB := NHRB
  have HQ := NHQ
  have HRN := NHRN
  have HB := NHB
  clear NHB NHRA NHRB NHQ NHRN
  clear hb
  go_wp2_with fail
  go_ret
  exact ⟨rfl, HB.out⟩
end Go.Proofs.Ytffianjbljgnaaa
