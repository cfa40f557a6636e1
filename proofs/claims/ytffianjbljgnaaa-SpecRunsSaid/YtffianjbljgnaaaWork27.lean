/-
  The law's own two transactions: works is true. No condition.
-/
import Derived.Test.YtffianjbljgnaaaWork27a
namespace Go.Proofs.Ytffianjbljgnaaa
set_option linter.unusedVariables false
set_option linter.unusedSimpArgs false
open Go.RowKit Go.Maps

set_option maxRecDepth 100000 in
set_option maxHeartbeats 8000000 in
theorem works_any (w : World) : Calls Try.prog 12 #[] w fun e w' => e = .returned (.bool true) ∧ Below w.heap.size w w' := by
  have HC := Lib.hid (fun ts n kind key val w' => callM_any ts n kind key val w')
  have HF := Lib.hid (fun ts n key val w' => foundM_any ts n key val w')
  have HW1 := Lib.hid (show ∀ w', Calls Try.prog 21 #[.int .u64 5, .string ⟨#[97]⟩, .string ⟨#[49]⟩] w' fun e w'' => ∃ (a : Option Addr) (n c : Nat), e = .returned (.agg #[.int .u64 5, .int .u64 5, .slice a n c]) ∧ EntIs w'' ⟨5, 5, a, n, c⟩ (mkE 5 [97] [49]) ∧ (∀ g o, a = some ⟨g, o, none⟩ → w'.heap.size ≤ g) ∧ Below w'.heap.size w' w'' from fun w' => writeE_any 5 [97] [49] (by omega) (by decide) (by decide) w')
  have HW2 := Lib.hid (show ∀ w', Calls Try.prog 21 #[.int .u64 4, .string ⟨#[97]⟩, .string ⟨#[48]⟩] w' fun e w'' => ∃ (a : Option Addr) (n c : Nat), e = .returned (.agg #[.int .u64 4, .int .u64 4, .slice a n c]) ∧ EntIs w'' ⟨4, 4, a, n, c⟩ (mkE 4 [97] [48]) ∧ (∀ g o, a = some ⟨g, o, none⟩ → w'.heap.size ≤ g) ∧ Below w'.heap.size w' w'' from fun w' => writeE_any 4 [97] [48] (by omega) (by decide) (by decide) w')
  go_enter Try.func12, Try.ntmps12
  go_wp2_with fail
  refine (HC.out 5 1 3 [97] [49] _).mono ?_
  rintro e w1 ⟨rfl, hb1⟩
  have HB1 := Lib.hid hb1
  clear hb1
  go_wp2_with fail
  refine (HC.out 5 2 5 [] [] _).mono ?_
  rintro e w2 ⟨rfl, hb2⟩
  have HB2 := Lib.hid (HB1.out.trans (hb2.mono HB1.out.size))
  clear hb2
  go_wp2_with fail
  refine (HF.out 6 1 [97] [49] _).mono ?_
  rintro e w3 ⟨rfl, hb3⟩
  have HB3 := Lib.hid (HB2.out.trans (hb3.mono HB2.out.size))
  clear hb3
  go_wp2_with fail
  refine (HC.out 6 2 5 [] [] _).mono ?_
  rintro e w4 ⟨rfl, hb4⟩
  have HB4 := Lib.hid (HB3.out.trans (hb4.mono HB3.out.size))
  clear hb4
  go_upto_region 2 with ((with_reducible refine wpList_buildM4 rfl _ _ _ _ rfl (mkC 5 1 3 [97] [49]) (mkC 5 2 5 [] []) (mkF 6 1 [97] [49]) (mkC 6 2 5 [] []) ?_ ?_ ?_ ?_ ?_); rfl; rfl; rfl; rfl)
  have hX := Blk.new w4 (mdsCells [mkC 5 1 3 [97] [49], mkC 5 2 5 [] [], mkF 6 1 [97] [49], mkC 6 2 5 [] []]) 37
  have hb5 := HB4.out.trans (((Below.refl w4.heap.size w4).alloc (Nat.le_refl _) (.cells (mdsCells [mkC 5 1 3 [97] [49], mkC 5 2 5 [] [], mkF 6 1 [97] [49], mkC 6 2 5 [] []]).toArray 37)).mono HB4.out.size)
  obtain ⟨xb, hxb⟩ : ∃ xb, w4.heap.size = xb := ⟨_, rfl⟩
  rw [hxb] at hX
  rw [hxb]
  generalize w4.alloc (.cells (mdsCells [mkC 5 1 3 [97] [49], mkC 5 2 5 [] [], mkF 6 1 [97] [49], mkC 6 2 5 [] []]).toArray 37) = w5 at *
  have HX := Lib.hid hX
  have HB5 := Lib.hid hb5
  have HXb := Lib.hid (show w.heap.size ≤ xb by rw [← hxb]; exact HB4.out.size)
  clear hX hb5 hxb
  go_wp2_with fail
  refine (HW1.out _).mono ?_
  rintro e w6 ⟨a1, n1, c1, rfl, he1, ho1, hb6⟩
  have hX6 := HX.out.on hb6
  have hL : Blk (w6.alloc (.cells #[.int .u64 5, .int .u64 5, .slice a1 n1 c1] 40)) w6.heap.size (entCells ⟨5, 5, a1, n1, c1⟩) 40 := Blk.new w6 (entCells ⟨5, 5, a1, n1, c1⟩) 40
  have hbL := (Below.refl w6.heap.size w6).alloc (Nat.le_refl _) (.cells #[.int .u64 5, .int .u64 5, .slice a1 n1 c1] 40)
  have HX7 := Lib.hid (hX6.on hbL)
  have HB7 := Lib.hid ((HB5.out.trans (hb6.mono HB5.out.size)).trans (hbL.mono (Nat.le_trans HB5.out.size hb6.size)))
  have HE1 := Lib.hid (he1.on hbL)
  have HO1 := Lib.hid (show ∀ g o, a1 = some ⟨g, o, none⟩ → xb < g from fun g o e => Nat.lt_of_lt_of_le HX.out.lt (ho1 g o e))
  have HXl := Lib.hid (show xb < w6.heap.size from Nat.lt_of_lt_of_le HX.out.lt hb6.size)
  clear hX6 he1 ho1 hb6 hbL
  have HL := Lib.hid hL
  clear hL
  go_upto_region 3 with fail
  obtain ⟨lb, hlb⟩ : ∃ lb, w6.heap.size = lb := ⟨_, rfl⟩
  rw [hlb] at HXl HL
  rw [hlb]
  generalize w6.alloc (.cells #[.int .u64 5, .int .u64 5, .slice a1 n1 c1] 40) = w7 at *
  go_wp2_with fail
  refine (HW2.out _).mono ?_
  rintro e w8 ⟨a2, n2, c2, rfl, he2, ho2, hb8⟩
  have hQ : Blk (w8.alloc (.cells #[.int .u64 4, .int .u64 4, .slice a2 n2 c2] 40)) w8.heap.size (entCells ⟨4, 4, a2, n2, c2⟩) 40 := Blk.new w8 (entCells ⟨4, 4, a2, n2, c2⟩) 40
  have hb9 := (Below.refl w8.heap.size w8).alloc (Nat.le_refl _) (.cells #[.int .u64 4, .int .u64 4, .slice a2 n2 c2] 40)
  have hL9 := (HL.out.on hb8).on hb9
  obtain ⟨c', w10, hrun, hrow, hb10⟩ := append_new 25 40 25 (.agg #[.int .u64 0, .int .u64 0, .slice none 0 0]) 3 40 Try.underlying25 info_entry (by omega) (n := 1) (cap := 1) (cells := entCells ⟨5, 5, a1, n1, c1⟩) rfl (fun j v hv => by rw [hL9.cell]; exact hv) (by omega) ⟨w8.heap.size, 0, none⟩ 1 1 (entCells ⟨4, 4, a2, n2, c2⟩) (by omega) rfl (fun j u hu => by rw [addr_add', Nat.zero_add, hQ.cell]; exact hu) (by omega)
  rw [World.size_alloc] at hrun hrow
  have hb89 := (hb8.trans (hb9.mono hb8.size))
  have hbA := hb89.trans (hb10.mono hb89.size)
  have HE9 : Hid (EntsAt w10 (some ⟨w8.heap.size + 1, 0, none⟩) 2 c' [(⟨5, 5, a1, n1, c1⟩, mkE 5 [97] [49]), (⟨4, 4, a2, n2, c2⟩, mkE 4 [97] [48])]) := Lib.hid ⟨rfl, hrow, fun q hq => by
    simp only [List.mem_cons, List.not_mem_nil, or_false] at hq
    rcases hq with rfl | rfl
    · exact HE1.out.on hbA
    · exact (he2.on hb9).on hb10⟩
  have HL10 := Lib.hid ((hL9.on hb10))
  have HX10 := Lib.hid (HX7.out.on hbA)
  have HB10 := Lib.hid (HB7.out.trans (hbA.mono HB7.out.size))
  have HE10 := Lib.hid (HE1.out.on hbA)
  have HO2 := Lib.hid (show ∀ g o, a2 = some ⟨g, o, none⟩ → xb < g from fun g o e => Nat.lt_of_lt_of_le HX7.out.lt (ho2 g o e))
  have HX8 := Lib.hid (show xb < w8.heap.size + 1 from Nat.lt_succ_of_lt (Nat.lt_of_lt_of_le HX7.out.lt hb8.size))
  have hA := after_any w10 _ 2 c' _ HE9.out (by unfold BoundE; omega) (fun q hq => by
    simp only [List.mem_cons, List.not_mem_nil, or_false] at hq
    rcases hq with rfl | rfl <;> (show 1 ≤ 1000; omega))
  have hAf : afterL ([((⟨5, 5, a1, n1, c1⟩ : Ent), mkE 5 [97] [49]), (⟨4, 4, a2, n2, c2⟩, mkE 4 [97] [48])].map (·.2)) = [([97], [49])] := by kernel_rfl
  rw [hAf] at hA
  have HA := Lib.hid hA
  clear hA hAf
  clear hQ hb9 hL9 hrow hb10 hb89 hbA he2 ho2 hb8
  go_wp2_with (at_builtin; (with_reducible refine wpList_append_run rfl _ _ _ rfl _ _ _ _ ?_ ?_ hrun ?_); rfl; rfl)
  refine HA.out.mono ?_
  rintro e w11 ⟨ap, cp, rfl, hrp, hgp, hb11⟩
  have hX11 := HX10.out.on hb11
  have hL11 := HL10.out.on hb11
  have hE11 := HE10.out.on hb11
  have hB11 := HB10.out.trans (hb11.mono HB10.out.size)
  obtain ⟨pb, po, rfl, hpl, hpc⟩ := hrp.at_ (by decide)
  have hpx : pb ≠ xb := fun e => by have := hgp pb po rfl; have := HX10.out.lt; omega
  have hcmp : ∀ w, _ := fun w => run_neq_pair ([97], [49]) ([97], [49]) w
  rw [show decide ((([97], [49]) : KV) ≠ ([97], [49])) = false from rfl] at hcmp
  unfold pairV at hcmp
  have hcmp' : ∀ w, (binOp .neq 47 (.agg #[.string ⟨#[97]⟩, .string ⟨#[49]⟩]) (.agg #[.string ⟨#[97]⟩, .string ⟨#[49]⟩])).run Try.prog w = .ok (.bool false) w := hcmp
  clear hcmp
  have f0 : w11.cell? ⟨pb, po, none⟩ = some (.string ⟨#[97]⟩) := hpc 0 _ rfl
  have f1 : w11.cell? ⟨pb, po + 1, none⟩ = some (.string ⟨#[49]⟩) := hpc 1 _ rfl
  have HZ1 : Hid (EntsAt w11 (some ⟨lb, 0, none⟩) 1 1 [((⟨5, 5, a1, n1, c1⟩ : Ent), mkE 5 [97] [49])]) := Lib.hid ⟨rfl, RowsAt.of_blk (rest := []) (by simpa [entsCells] using hL11) rfl (by omega) (by omega), fun q hq => by
    simp only [List.mem_cons, List.not_mem_nil, or_false] at hq
    subst hq
    exact hE11⟩
  have hops : ∀ q ∈ [((⟨5, 5, a1, n1, c1⟩ : Ent), mkE 5 [97] [49])], q.2.ops.length ≤ 1000 := fun q hq => by
    simp only [List.mem_cons, List.not_mem_nil, or_false] at hq
    subst hq
    show 1 ≤ 1000
    omega
  have hMA : MadeAt w11 (some ⟨xb, 0, none⟩) 4 4 [(mkC 5 1 3 [97] [49], []), (mkC 5 2 5 [] [], []), (mkF 6 1 [97] [49], []), (mkC 6 2 5 [] [], [])] := by
    refine ⟨rfl, RowsAt.of_blk (rest := []) (by simpa using hX11) rfl (by omega) (by omega), fun q hq => ?_⟩
    simp only [List.mem_cons, List.not_mem_nil, or_false] at hq
    rcases hq with rfl | rfl | rfl | rfl <;> exact ⟨rfl, RowsAt.nil _ _, by decide, by decide⟩
  have hOk : MadeOk [(mkC 5 1 3 [97] [49], []), (mkC 5 2 5 [] [], []), (mkF 6 1 [97] [49], []), (mkC 6 2 5 [] [], [])] := ⟨fun q hq => by
    simp only [List.mem_cons, List.not_mem_nil, or_false] at hq
    rcases hq with rfl | rfl | rfl | rfl <;> decide, fun q hq => by
    simp only [List.mem_cons, List.not_mem_nil, or_false] at hq
    rcases hq with rfl | rfl | rfl | rfl <;> decide⟩
  have hS := serial_any w11 _ 1 1 _ HZ1.out (by omega) hops _ 4 4 _ hMA (by omega) hOk (by have := commL_le ([((⟨5, 5, a1, n1, c1⟩ : Ent), mkE 5 [97] [49])].map (·.1.ts)) [(mkC 5 1 3 [97] [49], []), (mkC 5 2 5 [] [], []), (mkF 6 1 [97] [49], []), (mkC 6 2 5 [] [], [])]; unfold BoundU; exact Nat.le_trans this (by decide)) (fun ts => by have := indsP_le ts [(mkC 5 1 3 [97] [49], []), (mkC 5 2 5 [] [], []), (mkF 6 1 [97] [49], []), (mkC 6 2 5 [] [], [])] 4; unfold BoundC; exact Nat.lt_of_le_of_lt this (by decide))
  have hs : serialL [(mkC 5 1 3 [97] [49], []), (mkC 5 2 5 [] [], []), (mkF 6 1 [97] [49], []), (mkC 6 2 5 [] [], [])] [((⟨5, 5, a1, n1, c1⟩ : Ent), mkE 5 [97] [49])] [] (commL ([((⟨5, 5, a1, n1, c1⟩ : Ent), mkE 5 [97] [49])].map (·.1.ts)) [(mkC 5 1 3 [97] [49], []), (mkC 5 2 5 [] [], []), (mkF 6 1 [97] [49], []), (mkC 6 2 5 [] [], [])]) = -1 := by kernel_rfl
  rw [hs] at hS
  have HS := Lib.hid hS
  have HX11 := Lib.hid hX11
  have HB11 := Lib.hid hB11
  have HOps := Lib.hid hops
  clear hX11 hL11 hE11 hB11 hb11 hrp hgp hpc hpl hMA hOk hS hs hops
  go_wp2_with fail
  refine HS.out.mono ?_
  rintro e w12 ⟨rfl, hb12⟩
  have hX12 := HX11.out.on hb12
  have hZ12 := HZ1.out.on hb12
  have hB12 := HB11.out.trans (hb12.mono HB11.out.size)
  have hX13 := hX12.set 44 (.string ⟨#[50]⟩)
  have hm : Mod [xb] w12 (w12.setCell ⟨xb, 44, none⟩ (.string ⟨#[50]⟩)) := (Mod.refl _ _).setCell _ _ (.inl (by simp))
  have hZ13 := hZ12.mod hm (fun g o e => by cases e; have := HXl.out; simp; omega) (fun q hq g o e => by
    simp only [List.mem_cons, List.not_mem_nil, or_false] at hq
    subst hq
    have := HO1.out g o e
    simp
    omega)
  have hMA : MadeAt (w12.setCell ⟨xb, 44, none⟩ (.string ⟨#[50]⟩)) (some ⟨xb, 0, none⟩) 4 4 [(mkC 5 1 3 [97] [49], []), (mkC 5 2 5 [] [], []), (mkF 6 1 [97] [50], []), (mkC 6 2 5 [] [], [])] := by
    refine ⟨rfl, RowsAt.of_blk (rest := []) (by rw [List.append_nil]; exact hX13) rfl (by omega) (by omega), fun q hq => ?_⟩
    simp only [List.mem_cons, List.not_mem_nil, or_false] at hq
    rcases hq with rfl | rfl | rfl | rfl <;> exact ⟨rfl, RowsAt.nil _ _, by decide, by decide⟩
  have hOk : MadeOk [(mkC 5 1 3 [97] [49], []), (mkC 5 2 5 [] [], []), (mkF 6 1 [97] [50], []), (mkC 6 2 5 [] [], [])] := ⟨fun q hq => by
    simp only [List.mem_cons, List.not_mem_nil, or_false] at hq
    rcases hq with rfl | rfl | rfl | rfl <;> decide, fun q hq => by
    simp only [List.mem_cons, List.not_mem_nil, or_false] at hq
    rcases hq with rfl | rfl | rfl | rfl <;> decide⟩
  have hS := serial_any (w12.setCell ⟨xb, 44, none⟩ (.string ⟨#[50]⟩)) _ 1 1 _ hZ13 (by omega) HOps.out _ 4 4 _ hMA (by omega) hOk (by have := commL_le ([((⟨5, 5, a1, n1, c1⟩ : Ent), mkE 5 [97] [49])].map (·.1.ts)) [(mkC 5 1 3 [97] [49], []), (mkC 5 2 5 [] [], []), (mkF 6 1 [97] [50], []), (mkC 6 2 5 [] [], [])]; unfold BoundU; exact Nat.le_trans this (by decide)) (fun ts => by have := indsP_le ts [(mkC 5 1 3 [97] [49], []), (mkC 5 2 5 [] [], []), (mkF 6 1 [97] [50], []), (mkC 6 2 5 [] [], [])] 4; unfold BoundC; exact Nat.lt_of_le_of_lt this (by decide))
  have hs : serialL [(mkC 5 1 3 [97] [49], []), (mkC 5 2 5 [] [], []), (mkF 6 1 [97] [50], []), (mkC 6 2 5 [] [], [])] [((⟨5, 5, a1, n1, c1⟩ : Ent), mkE 5 [97] [49])] [] (commL ([((⟨5, 5, a1, n1, c1⟩ : Ent), mkE 5 [97] [49])].map (·.1.ts)) [(mkC 5 1 3 [97] [49], []), (mkC 5 2 5 [] [], []), (mkF 6 1 [97] [50], []), (mkC 6 2 5 [] [], [])]) = 2 := by kernel_rfl
  rw [hs] at hS
  have HS2 := Lib.hid hS
  have HB13 := Lib.hid (show Below w.heap.size w (w12.setCell ⟨xb, 44, none⟩ (.string ⟨#[50]⟩)) from hB12.trans (hm.below (fun x hx => by simp at hx; have := HXb.out; omega) hB12.size))
  have f2 := hX12.free 44
  have f3 : w12.cell? ⟨xb, 44, none⟩ = some (.string ⟨#[49]⟩) := by rw [hX12.cell]; rfl
  clear hX12 hZ12 hB12 hX13 hm hZ13 hMA hOk hS hs hb12
  go_wp2_with fail
  refine HS2.out.mono ?_
  rintro e w14 ⟨rfl, hb14⟩
  have HB14 := Lib.hid (HB13.out.trans (hb14.mono HB13.out.size))
  clear hb14
  go_wp2_with fail
  exact bodyPost_ret (results_tmp (by rfl) _ _ _) rfl ⟨rfl, HB14.out⟩
end Go.Proofs.Ytffianjbljgnaaa
