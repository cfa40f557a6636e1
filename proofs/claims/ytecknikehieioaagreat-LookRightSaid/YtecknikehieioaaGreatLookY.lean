/-
  The law's own rows: works is true. No condition. (Printed by gen_looky.py.)
-/
import Derived.Test.YtecknikehieioaaGreatLookX
namespace Go.Proofs.YtecknikehieioaaGreat
set_option linter.unusedVariables false
set_option linter.unusedSimpArgs false
open Go.RowKit Go.Maps

theorem keptK (w : World) (am : Option Addr) (nm cm : Nat) (zm : List MZ) (hm : MadeAt w am nm cm zm) (hnm : nm ≤ 100000) (a : Option Addr) (n c : Nat) (z : List EZ) (h : EntsAt w a n c z) (hn : n ≤ 100000) (hops : z.all (fun q => decide (q.2.ops.length ≤ 1000)) = true) (v : Int) (hv : keptL zm (z.map (·.2)) = v) :
    Calls Tryz.prog 13 #[.slice am nm cm, .slice a n c] w fun e w' => e = .returned (.int .i64 v) ∧ Below w.heap.size w w' :=
  (kept_any w am nm cm zm hm hnm a n c z h hn (fun q hq => by have := of_decide_eq_true (List.all_eq_true.1 hops q hq); omega)).mono fun e w' h => ⟨by rw [← hv]; exact h.1, h.2⟩
theorem treeK (w : World) (s : Sn) (N : List Rec) (hN : RowsAt w s.ca s.cn s.cc 4 (recsCells N)) (eN : s.cn = N.length) (bN : s.cn ≤ 100000) (oN : ∀ r ∈ N, r.ok) (a : Option Addr) (n c : Nat) (z : List EZ) (h : EntsAt w a n c z) (hn : n ≤ 1000) (hops : z.all (fun q => decide (q.2.ops.length ≤ 1000)) = true) (v : Int) (hv : treeL (s.dcUp && s.sync) s.last s.stable s.low N (opsOf (z.map (·.2))) = v) :
    Calls Tryz.prog 17 #[.agg (snCells s).toArray, .slice a n c] w fun e w' => e = .returned (.int .i64 v) ∧ Below w.heap.size w w' :=
  (tree_any w s N hN eN bN oN a n c z h hn (fun q hq => of_decide_eq_true (List.all_eq_true.1 hops q hq))).mono fun e w' h => ⟨by rw [← hv]; exact h.1, h.2⟩
theorem boundsK (w : World) (s : Sn) (T : List Nat) (hT : RowsAt w s.aa s.an s.ac 1 (u64s T)) (hl : T.length = s.an) (b : Bool) (hv : boundsL s T = b) :
    Calls Tryz.prog 19 #[.agg (snCells s).toArray] w fun e w' => e = .returned (.bool b) ∧ Below w.heap.size w w' :=
  (bounds_any w s T hT hl).mono fun e w' h => ⟨by rw [← hv]; exact h.1, h.2⟩
theorem lserial_any (w : World) (am : Option Addr) (nm cm : Nat) (a : Option Addr) (n c : Nat) (v : Int) (h : Calls Tryz.prog 26 #[.slice a n c, .slice am nm cm] w fun e w' => e = .returned (.int .i64 v) ∧ Below w.heap.size w w') :
    Calls Tryz.prog 9 #[.slice am nm cm, .slice a n c] w fun e w' => e = .returned (.int .i64 v) ∧ Below w.heap.size w w' := by
  have H := Lib.hid h
  clear h
  go_enter Tryz.func9, Tryz.ntmps9
  go_wp2_with fail
  refine H.out.mono ?_
  rintro e w1 ⟨rfl, hb⟩
  have HB := Lib.hid hb
  clear hb
  go_wp2_with fail
  go_ret
  exact ⟨by try rfl, HB.out⟩
theorem lorder_any (w : World) (am : Option Addr) (nm cm : Nat) (v : Int) (h : Calls Tryz.prog 28 #[.slice am nm cm] w fun e w' => e = .returned (.int .i64 v) ∧ Below w.heap.size w w') :
    Calls Tryz.prog 11 #[.slice am nm cm] w fun e w' => e = .returned (.int .i64 v) ∧ Below w.heap.size w w' := by
  have H := Lib.hid h
  clear h
  go_enter Tryz.func11, Tryz.ntmps11
  go_wp2_with fail
  refine H.out.mono ?_
  rintro e w1 ⟨rfl, hb⟩
  have HB := Lib.hid hb
  clear hb
  go_wp2_with fail
  go_ret
  exact ⟨by try rfl, HB.out⟩
set_option maxRecDepth 100000 in
set_option maxHeartbeats 16000000 in
theorem works28_any (w : World) : Calls Tryz.prog 15 #[] w fun e w' => e = .returned (.bool true) ∧ Below w.heap.size w w' := by
  have HC := Lib.hid (fun ts n kind key val w' => call28_any ts n kind key val w')
  have HE1 := Lib.hid (show ∀ w', Calls Tryz.prog 24 #[.int .u64 5, .int .u64 1, .string ⟨#[97]⟩, .string ⟨#[120]⟩] w' fun e w'' => ∃ (a : Option Addr) (n c : Nat), e = .returned (.agg #[.int .u64 5, .int .u64 1, .slice a n c]) ∧ EntIs w'' ⟨5, 1, a, n, c⟩ (mkE28 5 1 [97] [120]) ∧ (∀ g o, a = some ⟨g, o, none⟩ → w'.heap.size ≤ g) ∧ Below w'.heap.size w' w'' from fun w' => entry28_any 5 1 [97] [120] (by omega) (by omega) (by decide) (by decide) w')
  have HE2 := Lib.hid (show ∀ w', Calls Tryz.prog 24 #[.int .u64 5, .int .u64 2, .string ⟨#[97]⟩, .string ⟨#[120]⟩] w' fun e w'' => ∃ (a : Option Addr) (n c : Nat), e = .returned (.agg #[.int .u64 5, .int .u64 2, .slice a n c]) ∧ EntIs w'' ⟨5, 2, a, n, c⟩ (mkE28 5 2 [97] [120]) ∧ (∀ g o, a = some ⟨g, o, none⟩ → w'.heap.size ≤ g) ∧ Below w'.heap.size w' w'' from fun w' => entry28_any 5 2 [97] [120] (by omega) (by omega) (by decide) (by decide) w')
  go_enter Tryz.func15, Tryz.ntmps15
  go_wp2_with fail
  refine (HC.out 5 1 3 [97] [120] _).mono ?_
  rintro e w1 ⟨rfl, hb1⟩
  have HB1 := Lib.hid hb1
  clear hb1
  go_wp2_with fail
  refine (HC.out 5 2 5 [] [] _).mono ?_
  rintro e w2 ⟨rfl, hb2⟩
  have HB2 := Lib.hid (HB1.out.trans (hb2.mono HB1.out.size))
  clear hb2 HB1
  go_upto_region 2 with ((with_reducible refine wpList_buildM2 rfl _ _ rfl (mk28 5 1 3 [97] [120]) (mk28 5 2 5 [] []) ?_ ?_ ?_); rfl; rfl)
  have hX := Blk.new w2 (mdsCells [(mk28 5 1 3 [97] [120]), (mk28 5 2 5 [] [])]) 40
  have hbX := (Below.refl w2.heap.size w2).alloc (Nat.le_refl _) (.cells (mdsCells [(mk28 5 1 3 [97] [120]), (mk28 5 2 5 [] [])]).toArray 40)
  obtain ⟨xb, hxb⟩ : ∃ x, w2.heap.size = x := ⟨_, rfl⟩
  have HB3 := Lib.hid (HB2.out.trans (hbX.mono HB2.out.size))
  rw [hxb] at hX ⊢
  generalize w2.alloc (.cells (mdsCells [(mk28 5 1 3 [97] [120]), (mk28 5 2 5 [] [])]).toArray 40) = w3 at *
  have HX3 := Lib.hid hX
  clear hX hbX hxb HB2
  go_upto_region 3 with ((with_reducible refine wpList_buildM1 rfl _ rfl open28 ?_ ?_); rfl)
  have hY := Blk.new w3 (mdsCells [open28]) 40
  have hbY := (Below.refl w3.heap.size w3).alloc (Nat.le_refl _) (.cells (mdsCells [open28]).toArray 40)
  obtain ⟨yb, hyb⟩ : ∃ x, w3.heap.size = x := ⟨_, rfl⟩
  have HB4 := Lib.hid (HB3.out.trans (hbY.mono HB3.out.size))
  have HX4 := Lib.hid (HX3.out.on hbY)
  rw [hyb] at hY ⊢
  generalize w3.alloc (.cells (mdsCells [open28]).toArray 40) = w4 at *
  have HY4 := Lib.hid hY
  clear hY hbY hyb HB3 HX3
  go_wp2_with fail
  refine (HE1.out _).mono ?_
  rintro e w5 ⟨a1, n1, c1, rfl, he1, ho1, hb5⟩
  have HX5 := Lib.hid (HX4.out.on hb5)
  have HY5 := Lib.hid (HY4.out.on hb5)
  have HB5 := Lib.hid (HB4.out.trans (hb5.mono HB4.out.size))
  have HI5 := Lib.hid he1
  clear he1 ho1 hb5 HX4 HY4 HB4
  go_upto_region 4 with fail
  have hL : Blk (w5.alloc (.cells #[.int .u64 5, .int .u64 1, .slice a1 n1 c1] 43)) w5.heap.size (entCells ⟨5, 1, a1, n1, c1⟩) 43 := Blk.new w5 (entCells ⟨5, 1, a1, n1, c1⟩) 43
  have hbL := (Below.refl w5.heap.size w5).alloc (Nat.le_refl _) (.cells #[.int .u64 5, .int .u64 1, .slice a1 n1 c1] 43)
  obtain ⟨lb, hlb⟩ : ∃ x, w5.heap.size = x := ⟨_, rfl⟩
  have HB6 := Lib.hid (HB5.out.trans (hbL.mono HB5.out.size))
  have HX6 := Lib.hid (HX5.out.on hbL)
  have HY6 := Lib.hid (HY5.out.on hbL)
  have HI6 := Lib.hid (HI5.out.on hbL)
  rw [hlb] at hL
  simp only [hlb]
  generalize w5.alloc (.cells #[.int .u64 5, .int .u64 1, .slice a1 n1 c1] 43) = w6 at *
  have HL6 := Lib.hid hL
  clear hL hbL hlb HB5 HX5 HY5 HI5
  go_upto_region 5 with fail
  have hS : Blk (w6.alloc (.cells #[.bool true, .bool true, .bool false, .bool false, .int .u64 1, .int .u64 2, .int .u64 3, .int .u64 2, .int .u64 1, .slice none 0 0, .slice none 0 0, .int .i64 0] 47)) w6.heap.size (snCells ⟨true, true, false, false, 1, 2, 3, 2, 1, none, 0, 0, none, 0, 0, 0⟩) 47 := Blk.new w6 (snCells ⟨true, true, false, false, 1, 2, 3, 2, 1, none, 0, 0, none, 0, 0, 0⟩) 47
  have hbS := (Below.refl w6.heap.size w6).alloc (Nat.le_refl _) (.cells #[.bool true, .bool true, .bool false, .bool false, .int .u64 1, .int .u64 2, .int .u64 3, .int .u64 2, .int .u64 1, .slice none 0 0, .slice none 0 0, .int .i64 0] 47)
  obtain ⟨bb, hbb⟩ : ∃ x, w6.heap.size = x := ⟨_, rfl⟩
  rw [hbb] at hS
  have HB7 := Lib.hid (HB6.out.trans (hbS.mono HB6.out.size))
  have HX7 := Lib.hid (HX6.out.on hbS)
  have HY7 := Lib.hid (HY6.out.on hbS)
  have HI7 := Lib.hid (HI6.out.on hbS)
  have HL7 := Lib.hid (HL6.out.on hbS)
  simp only [hbb]
  generalize w6.alloc (.cells #[.bool true, .bool true, .bool false, .bool false, .int .u64 1, .int .u64 2, .int .u64 3, .int .u64 2, .int .u64 1, .slice none 0 0, .slice none 0 0, .int .i64 0] 47) = w7 at *
  have HS7 := Lib.hid (show SnAt w7 bb ⟨true, true, false, false, 1, 2, 3, 2, 1, none, 0, 0, none, 0, 0, 0⟩ from ⟨hS⟩)
  clear hS hbS hbb HB6 HX6 HY6 HI6 HL6
  obtain ⟨s0, s1, s2, s3, s4, s5, s6, s7, s8, s9, s10, s11⟩ := HS7.out.cells
  simp only at s0 s1 s2 s3 s4 s5 s6 s7 s8 s9 s10 s11
  go_upto_region 6 with fail
  clear s0 s1 s2 s3 s4 s5 s6 s7 s8 s9 s10 s11
  have hS := HS7.out.blk
  have hC0 : Blk (w7.alloc (.cells #[.bool true, .bool true, .bool false, .bool false, .int .u64 1, .int .u64 2, .int .u64 3, .int .u64 2, .int .u64 1, .slice none 0 0, .slice none 0 0, .int .i64 0] 47)) w7.heap.size (snCells ⟨true, true, false, false, 1, 2, 3, 2, 1, none, 0, 0, none, 0, 0, 0⟩) 47 := Blk.new w7 (snCells ⟨true, true, false, false, 1, 2, 3, 2, 1, none, 0, 0, none, 0, 0, 0⟩) 47
  have hbC := (Below.refl w7.heap.size w7).alloc (Nat.le_refl _) (.cells #[.bool true, .bool true, .bool false, .bool false, .int .u64 1, .int .u64 2, .int .u64 3, .int .u64 2, .int .u64 1, .slice none 0 0, .slice none 0 0, .int .i64 0] 47)
  obtain ⟨cb, hcb⟩ : ∃ x, w7.heap.size = x := ⟨_, rfl⟩
  rw [hcb] at hC0
  have HB8 := Lib.hid (HB7.out.trans (hbC.mono HB7.out.size))
  have HX8 := Lib.hid (HX7.out.on hbC)
  have HY8 := Lib.hid (HY7.out.on hbC)
  have HI8 := Lib.hid (HI7.out.on hbC)
  have HL8 := Lib.hid (HL7.out.on hbC)
  have HS8 := Lib.hid (HS7.out.on hbC)
  simp only [hcb]
  have HN := Lib.hid (show w.heap.size ≤ cb ∧ xb < cb ∧ yb < cb ∧ lb < cb ∧ bb < cb ∧ (∀ g o, a1 = some ⟨g, o, none⟩ → g < cb) from ⟨by rw [← hcb]; exact HB7.out.size, by rw [← hcb]; exact HX7.out.lt, by rw [← hcb]; exact HY7.out.lt, by rw [← hcb]; exact HL7.out.lt, by rw [← hcb]; exact HS7.out.blk.lt, fun g o e => by
    obtain ⟨g', o', e', hg, _⟩ := HI7.out.rows.at_ (by rw [HI7.out.n]; decide)
    rw [e] at e'
    cases e'
    rw [← hcb]
    exact hg⟩)
  generalize w7.alloc (.cells #[.bool true, .bool true, .bool false, .bool false, .int .u64 1, .int .u64 2, .int .u64 3, .int .u64 2, .int .u64 1, .slice none 0 0, .slice none 0 0, .int .i64 0] 47) = w8 at *
  have f7 := hC0.free 7
  have g7 : w8.cell? ⟨cb, 7, none⟩ = some (.int .u64 2) := by rw [hC0.cell]; rfl
  have hC1 := hC0.set 7 (.int .u64 3)
  have hmC : Mod [cb] w8 (w8.setCell ⟨cb, 7, none⟩ (.int .u64 3)) := (Mod.refl _ _).setCell _ _ (.inl (by simp))
  have HC9 := Lib.hid (show SnAt (w8.setCell ⟨cb, 7, none⟩ (.int .u64 3)) cb ⟨true, true, false, false, 1, 2, 3, 3, 1, none, 0, 0, none, 0, 0, 0⟩ from ⟨hC1⟩)
  have hnn := HN.out
  have HB9 := Lib.hid (HB8.out.trans (hmC.below (fun x hx => by simp at hx; omega) HB8.out.size))
  have HX9 := Lib.hid (HX8.out.mod hmC (by simp only [List.mem_singleton]; omega))
  have HY9 := Lib.hid (HY8.out.mod hmC (by simp only [List.mem_singleton]; omega))
  have HL9 := Lib.hid (HL8.out.mod hmC (by simp only [List.mem_singleton]; omega))
  have HS9 := Lib.hid (HS8.out.mod hmC (by simp only [List.mem_singleton]; omega))
  have HI9 := Lib.hid (HI8.out.mod hmC (fun g o e => by have := hnn.2.2.2.2.2 g o e; simp only [List.mem_singleton]; omega))
  clear hC0 hC1 hmC hbC hcb HB7 HX7 HY7 HI7 HL7 HS7 HB8 HX8 HY8 HI8 HL8 HS8 hS hnn HN
  go_upto_region 7 with fail
  clear f7 g7
  generalize w8.setCell ⟨cb, 7, none⟩ (.int .u64 3) = w9 at *
  have HZ := Lib.hid (show ∀ w', Below w9.heap.size w9 w' → MadeAt w' (some ⟨xb, 0, none⟩) 2 2 [((mk28 5 1 3 [97] [120]), []), ((mk28 5 2 5 [] []), [])] ∧ MadeAt w' (some ⟨yb, 0, none⟩) 1 1 [(open28, [])] ∧ EntsAt w' (some ⟨lb, 0, none⟩) 1 1 [((⟨5, 1, a1, n1, c1⟩ : Ent), mkE28 5 1 [97] [120])] ∧ SnAt w' bb ⟨true, true, false, false, 1, 2, 3, 2, 1, none, 0, 0, none, 0, 0, 0⟩ ∧ SnAt w' cb ⟨true, true, false, false, 1, 2, 3, 3, 1, none, 0, 0, none, 0, 0, 0⟩ from fun w' hb => by
    refine ⟨madeAt_of (Q := [((mk28 5 1 3 [97] [120]), []), ((mk28 5 2 5 [] []), [])]) (HX9.out.on hb) (fun q hq => ?_) 2 rfl (by omega), madeAt_of (Q := [(open28, [])]) (HY9.out.on hb) (fun q hq => ?_) 1 rfl (by omega), entsAt_of (Q := [((⟨5, 1, a1, n1, c1⟩ : Ent), mkE28 5 1 [97] [120])]) (by simpa [entsCells] using HL9.out.on hb) (fun q hq => ?_) 1 rfl (by omega), HS9.out.on hb, HC9.out.on hb⟩
    · simp only [List.mem_cons, List.not_mem_nil, or_false] at hq
      rcases hq with rfl | rfl
      · exact ⟨rfl, RowsAt.nil _ _, by show 5 < 18446744073709551616; omega, by decide⟩
      · exact ⟨rfl, RowsAt.nil _ _, by show 5 < 18446744073709551616; omega, by decide⟩
    · simp only [List.mem_cons, List.not_mem_nil, or_false] at hq
      subst hq
      exact ⟨rfl, RowsAt.nil _ _, by show 5 < 18446744073709551616; omega, by decide⟩
    · simp only [List.mem_cons, List.not_mem_nil, or_false] at hq
      subst hq
      exact HI9.out.on hb)
  have HR9 := Lib.hid (Below.refl w9.heap.size w9)
  clear HX9 HY9 HL9 HS9 HC9 HI9
  have HK := Lib.hid (keptK w9 (some ⟨xb, 0, none⟩) 2 2 [((mk28 5 1 3 [97] [120]), []), ((mk28 5 2 5 [] []), [])] (HZ.out w9 HR9.out).1 (by omega) none 0 0 [] (EntsAt.nil _) (by omega) rfl 1 (by kernel_rfl))
  go_wp2_with fail
  refine HK.out.mono ?_
  rintro e w10 ⟨rfl, hb⟩
  have HR10 := Lib.hid (HR9.out.trans (hb.mono HR9.out.size))
  clear hb HK
  have HK := Lib.hid (keptK w10 (some ⟨xb, 0, none⟩) 2 2 [((mk28 5 1 3 [97] [120]), []), ((mk28 5 2 5 [] []), [])] (HZ.out w10 HR10.out).1 (by omega) (some ⟨lb, 0, none⟩) 1 1 [((⟨5, 1, a1, n1, c1⟩ : Ent), mkE28 5 1 [97] [120])] (HZ.out w10 HR10.out).2.2.1 (by omega) rfl (-1) (by kernel_rfl))
  go_wp2_with fail
  refine HK.out.mono ?_
  rintro e w11 ⟨rfl, hb⟩
  have HR11 := Lib.hid (HR10.out.trans (hb.mono HR10.out.size))
  clear hb HK
  have HK := Lib.hid (keptK w11 none 0 0 [] (MadeAt.nil _) (by omega) (some ⟨lb, 0, none⟩) 1 1 [((⟨5, 1, a1, n1, c1⟩ : Ent), mkE28 5 1 [97] [120])] (HZ.out w11 HR11.out).2.2.1 (by omega) rfl 0 (by kernel_rfl))
  go_wp2_with fail
  refine HK.out.mono ?_
  rintro e w12 ⟨rfl, hb⟩
  have HR12 := Lib.hid (HR11.out.trans (hb.mono HR11.out.size))
  clear hb HK
  go_wp2_with fail
  refine (HE2.out _).mono ?_
  rintro e w13 ⟨a2, n2, c2, rfl, he2, ho2, hb⟩
  have hbA := (Below.refl w13.heap.size w13).alloc (Nat.le_refl _) (.cells #[.int .u64 5, .int .u64 2, .slice a2 n2 c2] 43)
  have hA : Blk (w13.alloc (.cells #[.int .u64 5, .int .u64 2, .slice a2 n2 c2] 43)) w13.heap.size (entCells ⟨5, 2, a2, n2, c2⟩) 43 := Blk.new w13 (entCells ⟨5, 2, a2, n2, c2⟩) 43
  have hb13 := HR12.out.trans (hb.mono HR12.out.size)
  have HR14 := Lib.hid (hb13.trans (hbA.mono hb13.size))
  have HEA := Lib.hid (entsAt_of (Q := [((⟨5, 2, a2, n2, c2⟩ : Ent), mkE28 5 2 [97] [120])]) (by simpa [entsCells] using hA) (fun q hq => by
    simp only [List.mem_cons, List.not_mem_nil, or_false] at hq
    subst hq
    exact he2.on hbA) 1 rfl (by omega))
  have HK := Lib.hid (keptK (w13.alloc (.cells #[.int .u64 5, .int .u64 2, .slice a2 n2 c2] 43)) (some ⟨yb, 0, none⟩) 1 1 [(open28, [])] (HZ.out _ HR14.out).2.1 (by omega) (some ⟨w13.heap.size, 0, none⟩) 1 1 _ HEA.out (by omega) rfl 1 (by kernel_rfl))
  clear he2 ho2 hb hbA hA hb13 HEA
  go_wp2_with fail
  refine HK.out.mono ?_
  rintro e w14 ⟨rfl, hb⟩
  have HR15 := Lib.hid (HR14.out.trans (hb.mono HR14.out.size))
  clear hb HK
  have HR14 := Lib.hid HR15.out
  clear HR15
  have HK := Lib.hid (seen28_any none 0 0 w14)
  go_wp2_with fail
  refine HK.out.mono ?_
  rintro e w15 ⟨rfl, hb⟩
  have HR15 := Lib.hid (HR14.out.trans (hb.mono HR14.out.size))
  clear hb HK
  have HK := Lib.hid (treeK w15 (seen28 none 0 0) [] (RowsAt.nil _ _) rfl (by show 0 ≤ 100000; omega) (by simp) (some ⟨lb, 0, none⟩) 1 1 [((⟨5, 1, a1, n1, c1⟩ : Ent), mkE28 5 1 [97] [120])] (HZ.out w15 HR15.out).2.2.1 (by omega) rfl 0 (by kernel_rfl))
  go_wp2_with fail
  refine HK.out.mono ?_
  rintro e w16 ⟨rfl, hb⟩
  have HR16 := Lib.hid (HR15.out.trans (hb.mono HR15.out.size))
  clear hb HK
  have hbR := (Below.refl w16.heap.size w16).alloc (Nat.le_refl _) (.cells #[.string ⟨#[97]⟩, .int .u64 1, .bool false, .string ⟨#[120]⟩] 49)
  have hRr : Blk (w16.alloc (.cells #[.string ⟨#[97]⟩, .int .u64 1, .bool false, .string ⟨#[120]⟩] 49)) w16.heap.size (recsCells [⟨[97], 1, false, [120]⟩]) 49 := Blk.new w16 (recsCells [⟨[97], 1, false, [120]⟩]) 49
  have HRows := Lib.hid (recsAt_of hRr 1 rfl (by omega))
  have HRa := Lib.hid (HR16.out.trans (hbR.mono HR16.out.size))
  have HK := Lib.hid (seen28_any (some ⟨w16.heap.size, 0, none⟩) 1 1 (w16.alloc (.cells #[.string ⟨#[97]⟩, .int .u64 1, .bool false, .string ⟨#[120]⟩] 49)))
  clear hbR hRr
  go_wp2_with fail
  refine HK.out.mono ?_
  rintro e w17 ⟨rfl, hb⟩
  have HR17 := Lib.hid (HRa.out.trans (hb.mono HRa.out.size))
  have HRows2 := Lib.hid (HRows.out.on hb)
  obtain ⟨rb, hrb⟩ : ∃ x, w16.heap.size = x := ⟨_, rfl⟩
  simp only [hrb] at HRows2 ⊢
  clear hb HK HRows HRa hrb
  have HK := Lib.hid (treeK w17 (seen28 (some ⟨rb, 0, none⟩) 1 1) [⟨[97], 1, false, [120]⟩] HRows2.out rfl (by show 1 ≤ 100000; omega) (fun r hr => by simp only [List.mem_cons, List.not_mem_nil, or_false] at hr; subst hr; exact ⟨by decide, by decide, by show 1 < 18446744073709551616; omega⟩) (some ⟨lb, 0, none⟩) 1 1 [((⟨5, 1, a1, n1, c1⟩ : Ent), mkE28 5 1 [97] [120])] (HZ.out w17 HR17.out).2.2.1 (by omega) rfl (-1) (by kernel_rfl))
  go_wp2_with fail
  refine HK.out.mono ?_
  rintro e w18 ⟨rfl, hb⟩
  have HR18 := Lib.hid (HR17.out.trans (hb.mono HR17.out.size))
  clear hb HK
  clear HRows2
  have hbR := (Below.refl w18.heap.size w18).alloc (Nat.le_refl _) (.cells #[.string ⟨#[97]⟩, .int .u64 1, .bool false, .string ⟨#[121]⟩] 49)
  have hRr : Blk (w18.alloc (.cells #[.string ⟨#[97]⟩, .int .u64 1, .bool false, .string ⟨#[121]⟩] 49)) w18.heap.size (recsCells [⟨[97], 1, false, [121]⟩]) 49 := Blk.new w18 (recsCells [⟨[97], 1, false, [121]⟩]) 49
  have HRows := Lib.hid (recsAt_of hRr 1 rfl (by omega))
  have HRa := Lib.hid (HR18.out.trans (hbR.mono HR18.out.size))
  have HK := Lib.hid (seen28_any (some ⟨w18.heap.size, 0, none⟩) 1 1 (w18.alloc (.cells #[.string ⟨#[97]⟩, .int .u64 1, .bool false, .string ⟨#[121]⟩] 49)))
  clear hbR hRr
  go_wp2_with fail
  refine HK.out.mono ?_
  rintro e w19 ⟨rfl, hb⟩
  have HR19 := Lib.hid (HRa.out.trans (hb.mono HRa.out.size))
  have HRows2 := Lib.hid (HRows.out.on hb)
  obtain ⟨rb, hrb⟩ : ∃ x, w18.heap.size = x := ⟨_, rfl⟩
  simp only [hrb] at HRows2 ⊢
  clear hb HK HRows HRa hrb
  have HK := Lib.hid (treeK w19 (seen28 (some ⟨rb, 0, none⟩) 1 1) [⟨[97], 1, false, [121]⟩] HRows2.out rfl (by show 1 ≤ 100000; omega) (fun r hr => by simp only [List.mem_cons, List.not_mem_nil, or_false] at hr; subst hr; exact ⟨by decide, by decide, by show 1 < 18446744073709551616; omega⟩) (some ⟨lb, 0, none⟩) 1 1 [((⟨5, 1, a1, n1, c1⟩ : Ent), mkE28 5 1 [97] [120])] (HZ.out w19 HR19.out).2.2.1 (by omega) rfl 0 (by kernel_rfl))
  go_wp2_with fail
  refine HK.out.mono ?_
  rintro e w20 ⟨rfl, hb⟩
  have HR20 := Lib.hid (HR19.out.trans (hb.mono HR19.out.size))
  clear hb HK
  clear HRows2
  obtain ⟨s0, s1, s2, s3, s4, s5, s6, s7, s8, s9, s10, s11⟩ := (HZ.out w20 HR20.out).2.2.2.1.cells
  simp only at s0 s1 s2 s3 s4 s5 s6 s7 s8 s9 s10 s11
  have HK := Lib.hid (show Calls Tryz.prog 19 #[.agg #[.bool true, .bool true, .bool false, .bool false, .int .u64 1, .int .u64 2, .int .u64 3, .int .u64 2, .int .u64 1, .slice none 0 0, .slice none 0 0, .int .i64 0]] w20 (fun e w2 => e = .returned (.bool true) ∧ Below w20.heap.size w20 w2) from boundsK w20 ⟨true, true, false, false, 1, 2, 3, 2, 1, none, 0, 0, none, 0, 0, 0⟩ [] (RowsAt.nil _ _) rfl true (by kernel_rfl))
  go_wp2_with fail
  refine HK.out.mono ?_
  rintro e w21 ⟨rfl, hb⟩
  have HR21 := Lib.hid (HR20.out.trans (hb.mono HR20.out.size))
  clear hb HK
  clear s0 s1 s2 s3 s4 s5 s6 s7 s8 s9 s10 s11
  obtain ⟨s0, s1, s2, s3, s4, s5, s6, s7, s8, s9, s10, s11⟩ := (HZ.out w21 HR21.out).2.2.2.2.cells
  simp only at s0 s1 s2 s3 s4 s5 s6 s7 s8 s9 s10 s11
  have HK := Lib.hid (show Calls Tryz.prog 19 #[.agg #[.bool true, .bool true, .bool false, .bool false, .int .u64 1, .int .u64 2, .int .u64 3, .int .u64 3, .int .u64 1, .slice none 0 0, .slice none 0 0, .int .i64 0]] w21 (fun e w2 => e = .returned (.bool false) ∧ Below w21.heap.size w21 w2) from boundsK w21 ⟨true, true, false, false, 1, 2, 3, 3, 1, none, 0, 0, none, 0, 0, 0⟩ [] (RowsAt.nil _ _) rfl false (by kernel_rfl))
  go_wp2_with fail
  refine HK.out.mono ?_
  rintro e w22 ⟨rfl, hb⟩
  have HR22 := Lib.hid (HR21.out.trans (hb.mono HR21.out.size))
  clear hb HK
  clear s0 s1 s2 s3 s4 s5 s6 s7 s8 s9 s10 s11
  have HK := Lib.hid (lserial_any w22 (some ⟨xb, 0, none⟩) 2 2 (some ⟨lb, 0, none⟩) 1 1 (-1) (serialK w22 (some ⟨lb, 0, none⟩) 1 1 [((⟨5, 1, a1, n1, c1⟩ : Ent), mkE28 5 1 [97] [120])] (HZ.out w22 HR22.out).2.2.1 (by omega) rfl (some ⟨xb, 0, none⟩) 2 2 [((mk28 5 1 3 [97] [120]), []), ((mk28 5 2 5 [] []), [])] (HZ.out w22 HR22.out).1 (by omega) rfl (-1) (by kernel_rfl)))
  go_wp2_with fail
  refine HK.out.mono ?_
  rintro e w23 ⟨rfl, hb⟩
  have HR23 := Lib.hid (HR22.out.trans (hb.mono HR22.out.size))
  clear hb HK
  have HK := Lib.hid (lserial_any w23 (some ⟨xb, 0, none⟩) 2 2 none 0 0 1 (serialK w23 none 0 0 [] (EntsAt.nil _) (by omega) rfl (some ⟨xb, 0, none⟩) 2 2 [((mk28 5 1 3 [97] [120]), []), ((mk28 5 2 5 [] []), [])] (HZ.out w23 HR23.out).1 (by omega) rfl 1 (by kernel_rfl)))
  go_wp2_with fail
  refine HK.out.mono ?_
  rintro e w24 ⟨rfl, hb⟩
  have HR24 := Lib.hid (HR23.out.trans (hb.mono HR23.out.size))
  clear hb HK
  have HK := Lib.hid (lorder_any w24 none 0 0 (-1) (orderK w24 none 0 0 [] (MadeAt.nil _) (by omega) (-1) (by kernel_rfl)))
  go_wp2_with fail
  refine HK.out.mono ?_
  rintro e w25 ⟨rfl, hb⟩
  have HR25 := Lib.hid (HR24.out.trans (hb.mono HR24.out.size))
  clear hb HK
  have HE := Lib.hid (HB9.out.trans (HR25.out.mono HB9.out.size))
  go_wp2_with fail
  go_ret
  exact ⟨by try rfl, HE.out⟩
end Go.Proofs.YtecknikehieioaaGreat
