/-
  spec.Content. Conditions: at most a million records, a million entries, a thousand operations in each. (Printed by gen_cont.py.)
-/
import Derived.Test.YtffianjbljgnaaaContI
namespace Go.Proofs.Ytffianjbljgnaaa
set_option linter.unusedVariables false
set_option linter.unusedSimpArgs false
open Go.RowKit Go.Maps

def doneOps (L : List Entry) (j : Nat) : List Rec := opsOf (L.take j)
theorem doneOps_next (L : List Entry) (j : Nat) (x : Entry) (h : L[j]? = some x) : doneOps L (j + 1) = doneOps L j ++ x.ops := by
  unfold doneOps opsOf
  rw [List.take_add_one, h, List.flatMap_append]
  simp
theorem take_next {α : Type} (l : List α) (k : Nat) (q : α) (h : l[k]? = some q) : l.take (k + 1) = l.take k ++ [q] := by
  rw [List.take_add_one, h]
  rfl
/-- The three maps that entries fill: what was there or came (W, A), the keys that were struck, and when. -/
structure Cmaps (w : World) (pb db gb : Nat) (W A : List Rec) (m : Nat) : Prop where
  ops : ∃ k, VMap recKey w pb k (opsF fun r => isR W r || isR A r) ∧ k ≤ 1000000 + m
  del : ∃ k, VMap textKey w db k (delF A) ∧ k ≤ m
  gone : ∃ k, VMap textKey w gb k (goneF A) ∧ k ≤ m
theorem Cmaps.on {w w' : World} {pb db gb : Nat} {W A : List Rec} {m : Nat} (h : Cmaps w pb db gb W A m) (hb : Below w.heap.size w w') : Cmaps w' pb db gb W A m := by
  obtain ⟨⟨k1, h1, e1⟩, ⟨k2, h2, e2⟩, ⟨k3, h3, e3⟩⟩ := h
  exact ⟨⟨k1, h1.on hb, e1⟩, ⟨k2, h2.on hb, e2⟩, ⟨k3, h3.on hb, e3⟩⟩
theorem Cmaps.more {w : World} {pb db gb : Nat} {W A : List Rec} {m m' : Nat} (h : Cmaps w pb db gb W A m) (hm : m ≤ m') : Cmaps w pb db gb W A m' := by
  obtain ⟨⟨k1, h1, e1⟩, ⟨k2, h2, e2⟩, ⟨k3, h3, e3⟩⟩ := h
  exact ⟨⟨k1, h1, by omega⟩, ⟨k2, h2, by omega⟩, ⟨k3, h3, by omega⟩⟩
theorem isR_snoc (B : List Rec) (r q : Rec) : isR (B ++ [r]) q = (isR B q || decide (r = q)) := by unfold isR; rw [List.any_append]; simp
theorem firstR_ge (f : Rec → Bool) (i : Nat) (l : List Rec) : -1 ≤ firstR f i l := by
  induction l generalizing i with
  | nil => exact Int.le_refl _
  | cons q t ih =>
    unfold firstR
    split
    · omega
    · exact ih (i + 1)
theorem firstR_le (f : Rec → Bool) (i : Nat) (l : List Rec) : firstR f i l ≤ (i : Int) + l.length := by
  induction l generalizing i with
  | nil => show (-1 : Int) ≤ _; omega
  | cons q t ih =>
    unfold firstR
    split
    · omega
    · have := ih (i + 1)
      rw [List.length_cons]
      omega
theorem foldSetR_length (W acc : List Rec) : (W.foldl setR acc).length ≤ acc.length + W.length := by
  induction W generalizing acc with
  | nil => simp
  | cons r t ih =>
    rw [List.foldl_cons, List.length_cons]
    have h1 := ih (setR acc r)
    have h2 : (setR acc r).length ≤ acc.length + 1 := by rw [setR_length]; split <;> omega
    omega
set_option maxRecDepth 100000 in
set_option maxHeartbeats 32000000 in
theorem content_any (w : World) (aw : Option Addr) (nw cw : Nat) (W : List Rec) (hW : RowsAt w aw nw cw 4 (recsCells W)) (eW : nw = W.length) (bW : nw ≤ 1000000) (oW : ∀ r ∈ W, r.ok)
    (a : Option Addr) (n c : Nat) (z : List EZ) (h : EntsAt w a n c z) (hn : n ≤ 1000000) (hops : ∀ q ∈ z, q.2.ops.length ≤ 1000)
    (am : Option Addr) (nm cm : Nat) (N : List Rec) (hN : RowsAt w am nm cm 4 (recsCells N)) (eN : nm = N.length) (bN : nm ≤ 1000000) (oN : ∀ r ∈ N, r.ok) :
    Calls Try.prog 19 #[.slice aw nw cw, .slice a n c, .slice am nm cm] w fun e w' => e = .returned (.int .i64 (contentS W (opsOf (z.map (·.2))) N)) ∧ Below w.heap.size w w' := by
  have HW := Lib.hid hW
  have EW := Lib.hid eW
  have OW := Lib.hid oW
  have HH := Lib.hid h
  have HO := Lib.hid hops
  have HN := Lib.hid hN
  have EN := Lib.hid eN
  have ON := Lib.hid oN
  have hM0 := VMap.made_run (w := w) (k := 9) (e := 58) (t := 73) Try.underlying73
  have hM1 := VMap.made_run (w := w.alloc (.map #[] 0)) (k := 58) (e := 3) (t := 92) Try.underlying92
  have hM2 := VMap.made_run (w := (w.alloc (.map #[] 0)).alloc (.map #[] 0)) (k := 9) (e := 3) (t := 93) Try.underlying93
  rw [World.size_alloc] at hM1
  rw [World.size_alloc, World.size_alloc] at hM2
  clear hW eW oW h hops hN eN oN
  go_enter Try.func19, Try.ntmps19
  go_upto_region 2 with fail
  clear hM0 hM1 hM2
  have hb0 := (Below.refl w.heap.size w).alloc (Nat.le_refl _) (.map #[] 0)
  have hb1 := hb0.alloc hb0.size (.map #[] 0)
  have hb2 := hb1.alloc hb1.size (.map #[] 0)
  have hb3 := hb2.alloc hb2.size (.cells #[.map (some (w.heap.size + 1 + 1))] 93)
  have q1 := (Below.refl (w.alloc (.map #[] 0)).heap.size (w.alloc (.map #[] 0))).alloc (Nat.le_refl _) (.map #[] 0)
  have q2 := (Below.refl ((w.alloc (.map #[] 0)).alloc (.map #[] 0)).heap.size ((w.alloc (.map #[] 0)).alloc (.map #[] 0))).alloc (Nat.le_refl _) (.map #[] 0)
  have q3 := (Below.refl (((w.alloc (.map #[] 0)).alloc (.map #[] 0)).alloc (.map #[] 0)).heap.size (((w.alloc (.map #[] 0)).alloc (.map #[] 0)).alloc (.map #[] 0))).alloc (Nat.le_refl _) (.cells #[.map (some (w.heap.size + 1 + 1))] 93)
  have v0 := (((WroteAt.made w).on q1).on q2).on q3
  have v1 : VMap recKey _ _ 0 (opsF (isR [])) := (((VMap.made recKey (w.alloc (.map #[] 0))).congr (g := opsF (isR [])) (fun x => rfl)).on q2).on q3
  have v2 : VMap textKey _ _ 0 (thereF []) := ((VMap.made textKey ((w.alloc (.map #[] 0)).alloc (.map #[] 0))).congr (g := thereF []) (fun x => rfl)).on q3
  have v3 := Blk.new (((w.alloc (.map #[] 0)).alloc (.map #[] 0)).alloc (.map #[] 0)) [.map (some (w.heap.size + 1 + 1))] 93
  simp only [World.size_alloc] at v1 v2 v3
  have hsz : ((((w.alloc (.map #[] 0)).alloc (.map #[] 0)).alloc (.map #[] 0)).alloc (.cells #[.map (some (w.heap.size + 1 + 1))] 93)).heap.size = w.heap.size + 4 := by simp
  change Blk ((((w.alloc (.map #[] 0)).alloc (.map #[] 0)).alloc (.map #[] 0)).alloc (.cells #[.map (some (w.heap.size + 1 + 1))] 93)) _ _ _ at v3
  generalize (((w.alloc (.map #[] 0)).alloc (.map #[] 0)).alloc (.map #[] 0)).alloc (.cells #[.map (some (w.heap.size + 1 + 1))] 93) = w1 at *
  have V0 := Lib.hid v0
  have V1 := Lib.hid v1
  have V2 := Lib.hid v2
  have V3 := Lib.hid v3
  have HB1 := Lib.hid hb3
  have HSZ := Lib.hid hsz
  clear hb0 hb1 hb2 hb3 q1 q2 q3 v0 v1 v2 v3 hsz
  go_wp2_with fail
  go_loopw [11, 28] (fun _ s28 wr => ∃ (i k : Nat), i ≤ nw ∧ s28 = .int .i64 i ∧ WroteAt wr w.heap.size ((W.take i).foldl setR []) ∧ VMap recKey wr (w.heap.size + 1) k (opsF (isR (W.take i))) ∧ k ≤ i ∧ Mod [w.heap.size, w.heap.size + 1] w1 wr) (fun _ s28 _ => nw - (intOf s28).toNat)
  case atStart => exact ⟨0, 0, by omega, rfl, V0.out, V1.out, by omega, Mod.refl _ _⟩
  case round =>
    obtain ⟨i, k, hi, rfl, hold, hops, hk, hm⟩ := hrel
    have hs1 := hm.size
    have hsz := HSZ.out
    have hbw : Below w.heap.size w wr := HB1.out.trans (hm.below (fun x hx => by simp at hx; omega) (by omega))
    by_cases hlt : i < nw
    · have hil : (i : Int) < (nw : Int) := by omega
      obtain ⟨r, g, o, hr, hrl, rfl, hg, d0, d1, d2, d3⟩ := recs_row (HW.out.on hbw) EW.out hlt
      have HRk := Lib.hid (OW.out r hrl)
      have HNx := Lib.hid (take_next W i r hr)
      have HLen := Lib.hid (show ((W.take i).foldl setR []).length ≤ 1000000 from Nat.le_trans (foldSetR_length _ _) (by rw [List.length_take]; simp; omega))
      obtain ⟨rk, rl, rd, rv⟩ := r
      simp only at d0 d1 d2 d3
      have hbn := (Below.refl wr.heap.size wr).alloc (Nat.le_refl _) (.cells #[.string ⟨rk.toArray⟩, .int .u64 (rl : Nat), .bool rd, .string ⟨rv.toArray⟩] 58)
      have hA : Blk (wr.alloc (.cells #[.string ⟨rk.toArray⟩, .int .u64 (rl : Nat), .bool rd, .string ⟨rv.toArray⟩] 58)) wr.heap.size [.string ⟨rk.toArray⟩, .int .u64 (rl : Nat), .bool rd, .string ⟨rv.toArray⟩] 58 := Blk.new wr [.string ⟨rk.toArray⟩, .int .u64 (rl : Nat), .bool rd, .string ⟨rv.toArray⟩] 58
      have HOld := Lib.hid (hold.on hbn)
      have HOps := Lib.hid (hops.on hbn)
      have HA := Lib.hid hA
      have HM3 := Lib.hid (hm.thenBelow hbn)
      clear hr hrl hold hops hA hbn hm hbw
      go_upto_region 5 with fail
      generalize hw3 : wr.alloc (.cells #[.string ⟨rk.toArray⟩, .int .u64 (rl : Nat), .bool rd, .string ⟨rv.toArray⟩] 58) = w3 at *
      have HW3 := Lib.hid (show wr.heap.size < w3.heap.size by rw [← hw3]; simp)
      clear hw3 d0 d1 d2 d3
      have HF := Lib.hid (show ∀ w', Mod [w.heap.size] w3 w' → (w'.cell? ⟨wr.heap.size, 0, none⟩ = some (.string ⟨rk.toArray⟩) ∧ w'.cell? ⟨wr.heap.size, 1, none⟩ = some (.int .u64 (rl : Nat)) ∧ w'.cell? ⟨wr.heap.size, 2, none⟩ = some (.bool rd) ∧ w'.cell? ⟨wr.heap.size, 3, none⟩ = some (.string ⟨rv.toArray⟩)) from fun w' hm => by
        have hx := HA.out.mod hm (by simp; omega)
        exact ⟨by rw [hx.cell]; rfl, by rw [hx.cell]; rfl, by rw [hx.cell]; rfl, by rw [hx.cell]; rfl⟩)
      have hold4 : WroteAt { w3 with drawn := w3.drawn + 1 } w.heap.size ((W.take i).foldl setR []) := HOld.out.on (below_drew (Below.refl _ _))
      have hops4 : VMap recKey { w3 with drawn := w3.drawn + 1 } (w.heap.size + 1) k (opsF (isR (W.take i))) := HOps.out.on (below_drew (Below.refl _ _))
      refine wp_region_float [0, 1, 2, 3, 4, 5] [6, 7] [7] (fun w' => Mod [w.heap.size] w3 w') (by kernel_rfl) (by kernel_rfl) (by kernel_rfl) (by kernel_rfl) (fun c a d v w h => by cases d <;> exact h) ((Mod.refl _ _).drew) ?_
      have hS : Mod [w.heap.size] w3 { w3 with drawn := w3.drawn + 1 } := (Mod.refl _ _).drew
      have hS2 : Mod [w.heap.size, w.heap.size + 1] w3 { w3 with drawn := w3.drawn + 1 } := (Mod.refl _ _).drew
      generalize ({ w3 with drawn := w3.drawn + 1 } : World) = w4 at *
      simp only [pick, List.map_cons, List.map_nil, List.getD_cons_zero, List.getD_cons_succ]
      repeat (
        refine takes_val (v := ?_) ?_ (fun w' hS => ?_) ?_
        rotate_left
        · rfl
        · obtain ⟨k0, k1, k2, k3⟩ := HF.out w' hS
          go_simp
          with_reducible rfl
        simp only [Act.put, List.setIfInBounds_toArray, List.set_cons_zero, List.set_cons_succ])
      refine takes_nil ?_
      obtain ⟨w5, hrun, hW5, hm5⟩ := hold4.put HLen.out ⟨rk, rl, rd, rv⟩ HRk.out.1
      obtain ⟨w6, k', hrun2, hO6, hk6, hm6⟩ := ops_store (hops4.mod hm5 (by simp)) (by omega) ⟨rk, rl, rd, rv⟩ HRk.out
      unfold recV at hrun hrun2
      simp only at hrun hrun2
      have HW6 := Lib.hid (show WroteAt w6 w.heap.size ((W.take (i + 1)).foldl setR []) by rw [HNx.out, List.foldl_append]; exact hW5.mod hm6 (by simp))
      have HO6 := Lib.hid (show VMap recKey w6 (w.heap.size + 1) k' (opsF (isR (W.take (i + 1)))) from hO6.congr (fun x => by unfold opsF; simp only [HNx.out, isR_snoc]))
      have HM6 := Lib.hid ((HM3.out.trans hS2).trans ((hm5.mono (S' := [w.heap.size, w.heap.size + 1]) (fun x hx => by simp at hx; left; simp [hx])).trans (hm6.mono (S' := [w.heap.size, w.heap.size + 1]) (fun x hx => by simp at hx; left; simp [hx]))))
      clear hW5 hO6 hold4 hops4 hS2
      refine seqW_step (by rfl) (fun K hK => ?_)
      go_simp
      refine hK.out _ _ (.inr (hS.trans hm5)) ?_
      clear hK K
      refine seqW_step (by rfl) (fun K hK => ?_)
      go_simp
      refine hK.out _ _ (.inl (by rfl)) (seqW_nil ?_)
      clear hK K HF hS hrun hrun2 hm5 hm6
      go_wp2_with fail
      go_roundw
      case rel => exact ⟨i + 1, k', by omega, by go_num, HW6.out, HO6.out, by omega, HM6.out⟩
      case measure => simp [intOf]; omega
    · have hge : ¬ (i : Int) < (nw : Int) := by omega
      rw [List.take_of_length_le (show W.length ≤ i by have := EW.out; omega)] at hold hops
      have hM3 := VMap.made_run (w := wr) (k := 9) (e := 29) (t := 94) Try.underlying94
      have hM4 := VMap.made_run (w := (wr.alloc (.map #[] 0)).alloc (.cells #[.map (some wr.heap.size)] 94)) (k := 9) (e := 3) (t := 93) Try.underlying93
      rw [World.size_alloc, World.size_alloc] at hM4
      go_upto_region 9 with fail
      clear hM3 hM4
      have q0 := (Below.refl wr.heap.size wr).alloc (Nat.le_refl _) (.map #[] 0)
      have q1 := (Below.refl (wr.alloc (.map #[] 0)).heap.size (wr.alloc (.map #[] 0))).alloc (Nat.le_refl _) (.cells #[.map (some wr.heap.size)] 94)
      have q2 := (Below.refl ((wr.alloc (.map #[] 0)).alloc (.cells #[.map (some wr.heap.size)] 94)).heap.size ((wr.alloc (.map #[] 0)).alloc (.cells #[.map (some wr.heap.size)] 94))).alloc (Nat.le_refl _) (.map #[] 0)
      have q3 := (Below.refl (((wr.alloc (.map #[] 0)).alloc (.cells #[.map (some wr.heap.size)] 94)).alloc (.map #[] 0)).heap.size (((wr.alloc (.map #[] 0)).alloc (.cells #[.map (some wr.heap.size)] 94)).alloc (.map #[] 0))).alloc (Nat.le_refl _) (.cells #[.map (some (wr.heap.size + 1 + 1))] 93)
      have q03 := ((q0.trans (q1.mono q0.size)).trans (q2.mono (Nat.le_trans q0.size q1.size))).trans (q3.mono (Nat.le_trans q0.size (Nat.le_trans q1.size q2.size)))
      have v0 : VMap textKey _ _ 0 (goneF []) := ((((VMap.made textKey wr).congr (g := goneF []) (fun x => rfl)).on q1).on q2).on q3
      have v1 := ((Blk.new (wr.alloc (.map #[] 0)) [.map (some wr.heap.size)] 94).on q2).on q3
      have v2 : VMap textKey _ _ 0 (delF []) := ((VMap.made textKey ((wr.alloc (.map #[] 0)).alloc (.cells #[.map (some wr.heap.size)] 94))).congr (g := delF []) (fun x => rfl)).on q3
      have v3 := Blk.new (((wr.alloc (.map #[] 0)).alloc (.cells #[.map (some wr.heap.size)] 94)).alloc (.map #[] 0)) [.map (some (wr.heap.size + 1 + 1))] 93
      simp only [World.size_alloc] at v1 v2 v3
      change Blk ((((wr.alloc (.map #[] 0)).alloc (.cells #[.map (some wr.heap.size)] 94)).alloc (.map #[] 0)).alloc (.cells #[.map (some (wr.heap.size + 1 + 1))] 93)) _ _ _ at v3
      have v4 := hold.on q03
      have v5 := hops.on q03
      have hm9 := hm.thenBelow q03
      have hsz9 : ((((wr.alloc (.map #[] 0)).alloc (.cells #[.map (some wr.heap.size)] 94)).alloc (.map #[] 0)).alloc (.cells #[.map (some (wr.heap.size + 1 + 1))] 93)).heap.size = wr.heap.size + 4 := by simp
      generalize (((wr.alloc (.map #[] 0)).alloc (.cells #[.map (some wr.heap.size)] 94)).alloc (.map #[] 0)).alloc (.cells #[.map (some (wr.heap.size + 1 + 1))] 93) = w9 at *
      generalize wr.heap.size = gb at *
      have hgb : w.heap.size + 4 ≤ gb := by omega
      have G0 := Lib.hid v0
      have G1 := Lib.hid v1
      have G2 := Lib.hid v2
      have G3 := Lib.hid v3
      have V4 := Lib.hid v4
      have V5 := Lib.hid v5
      have V3' := Lib.hid (V3.out.mod hm9 (by simp only [List.mem_cons, List.not_mem_nil, or_false]; omega))
      have V2' := Lib.hid (V2.out.mod hm9 (by simp only [List.mem_cons, List.not_mem_nil, or_false]; omega))
      have HB9 := Lib.hid (show Below w.heap.size w w9 from HB1.out.trans (hm9.below (fun x hx => by simp at hx; omega) (by omega)))
      have HSZ9 := Lib.hid hsz9
      have hk1 : k ≤ 1000000 := by omega
      clear q0 q1 q2 q3 q03 v0 v1 v2 v3 v4 v5 hm9 hm hold hops hbw hs1 hsz hsz9 hge hlt V0 V1 V2 V3 HSZ
      go_wp2_with fail
      generalize hLd : z.map (·.2) = L at *
      have HLd := Lib.hid hLd
      clear hLd
      go_loopw [15, 43] (fun _ s43 wr => ∃ j : Nat, j ≤ n ∧ s43 = .int .i64 j ∧ Cmaps wr (w.heap.size + 1) (gb + 1 + 1) gb W (doneOps L j) (j * 1000) ∧ Mod [w.heap.size + 1, gb + 1 + 1, gb] w9 wr) (fun _ s43 _ => n - (intOf s43).toNat)
      case atStart => exact ⟨0, by omega, rfl, ⟨⟨k, V5.out.congr (fun x => by rw [show doneOps L 0 = [] from by simp [doneOps, opsOf]]; unfold opsF isR; simp), by omega⟩, ⟨0, G2.out.congr (fun x => by rw [show doneOps L 0 = [] from by simp [doneOps, opsOf]]), by omega⟩, ⟨0, G0.out.congr (fun x => by rw [show doneOps L 0 = [] from by simp [doneOps, opsOf]]), by omega⟩⟩, Mod.refl _ _⟩
      case round =>
        obtain ⟨j, hj, rfl, hC, hm⟩ := hrel
        have hs1 := hm.size
        have hsz := HSZ9.out
        have hbw : Below w.heap.size w wr := HB9.out.trans (hm.below (fun x hx => by simp at hx; omega) (by omega))
        have HC := Lib.hid hC
        have HM := Lib.hid hm
        have HBW := Lib.hid hbw
        clear hC hm hbw
        by_cases hlt : j < n
        · have hjl : (j : Int) < (n : Int) := by omega
          obtain ⟨q, ge, oe, hq, hqz, rfl, hge, c0, c1, c2⟩ := (HH.out.on HBW.out).row hlt
          have HQO := Lib.hid (HO.out q hqz)
          have HQE := Lib.hid (HH.out.each q hqz)
          have HNe := Lib.hid (doneOps_next L j q.2 (by rw [← HLd.out, List.getElem?_map, hq]; rfl))
          obtain ⟨⟨ets, ef, ea, en, ec⟩, x⟩ := q
          simp only at c0 c1 c2
          have hen : en ≤ 1000 := by have h1 := HQE.out.n; have h2 := HQO.out; simp only at h1 h2; omega
          have hbn := (Below.refl wr.heap.size wr).alloc (Nat.le_refl _) (.cells #[.int .u64 (ets : Nat), .int .u64 (ef : Nat), .slice ea en ec] 40)
          have HC2 := Lib.hid (HC.out.on hbn)
          have HM2 := Lib.hid (HM.out.thenBelow hbn)
          clear hq hqz hbn HC HM
          go_wp2_with fail
          clear c0 c1 c2
          go_loopw [17, 50] (fun _ s50 wx => ∃ t : Nat, t ≤ en ∧ s50 = .int .i64 t ∧ Cmaps wx (w.heap.size + 1) (gb + 1 + 1) gb W (doneOps L j ++ x.ops.take t) (j * 1000 + t) ∧ Mod [w.heap.size + 1, gb + 1 + 1, gb] w9 wx) (fun _ s50 _ => en - (intOf s50).toNat)
          case atStart => exact ⟨0, by omega, rfl, by simpa using HC2.out, HM2.out⟩
          case round =>
            clear HC2 HM2 HBW hs1
            obtain ⟨t, ht, rfl, hC, hm⟩ := hrel
            have hs1 := hm.size
            have hbw : Below w.heap.size w wr := HB9.out.trans (hm.below (fun x hx => by simp at hx; omega) (by omega))
            have HC := Lib.hid hC
            have HM := Lib.hid hm
            have HBW := Lib.hid hbw
            clear hC hm hbw
            by_cases htn : t < en
            · have htl : (t : Int) < (en : Int) := by omega
              obtain ⟨r, gq, oq, hr, hrl, hea, hgq, d0, d1, d2, d3⟩ := recs_row (HQE.out.rows.on HBW.out) HQE.out.n htn
              have HRk := Lib.hid (HQE.out.ok.ops r hrl)
              have HNx := Lib.hid (take_next x.ops t r hr)
              obtain ⟨rk, rl, rd, rv⟩ := r
              simp only at hea d0 d1 d2 d3
              subst hea
              have hbn := (Below.refl wr.heap.size wr).alloc (Nat.le_refl _) (.cells #[.string ⟨rk.toArray⟩, .int .u64 (rl : Nat), .bool rd, .string ⟨rv.toArray⟩] 58)
              have hA : Blk (wr.alloc (.cells #[.string ⟨rk.toArray⟩, .int .u64 (rl : Nat), .bool rd, .string ⟨rv.toArray⟩] 58)) wr.heap.size [.string ⟨rk.toArray⟩, .int .u64 (rl : Nat), .bool rd, .string ⟨rv.toArray⟩] 58 := Blk.new wr [.string ⟨rk.toArray⟩, .int .u64 (rl : Nat), .bool rd, .string ⟨rv.toArray⟩] 58
              have HA := Lib.hid hA
              have HC3 := Lib.hid (HC.out.on hbn)
              have HM3 := Lib.hid (HM.out.thenBelow hbn)
              clear hr hrl hA hbn HC HM HBW
              go_upto_region 15 with fail
              generalize hxb : wr.heap.size = xb at *
              generalize hw3 : wr.alloc (.cells #[.string ⟨rk.toArray⟩, .int .u64 (rl : Nat), .bool rd, .string ⟨rv.toArray⟩] 58) = w3 at *
              have hw3s : w3.heap.size = xb + 1 := by rw [← hw3, ← hxb]; simp
              clear hw3 hxb d0 d1 d2 d3
              obtain ⟨⟨ko, ho, eo⟩, ⟨kd, hd, ed⟩, ⟨kg, hg, eg⟩⟩ := HC3.out
              obtain ⟨w5, ko', hrun, ho5, eo5, hm5⟩ := ops_store ho (by omega) ⟨rk, rl, rd, rv⟩ HRk.out
              unfold recV at hrun
              simp only at hrun
              have k0 : w3.cell? ⟨xb, 0, none⟩ = some (.string ⟨rk.toArray⟩) := by rw [HA.out.cell]; rfl
              have k1 : w3.cell? ⟨xb, 1, none⟩ = some (.int .u64 (rl : Nat)) := by rw [HA.out.cell]; rfl
              have k2 : w3.cell? ⟨xb, 2, none⟩ = some (.bool rd) := by rw [HA.out.cell]; rfl
              have k3 : w3.cell? ⟨xb, 3, none⟩ = some (.string ⟨rv.toArray⟩) := by rw [HA.out.cell]; rfl
              have hA5 := HA.out.mod hm5 (by simp; omega)
              have HO5 := Lib.hid (show VMap recKey w5 (w.heap.size + 1) ko' (opsF fun q => isR W q || isR (doneOps L j ++ x.ops.take (t + 1)) q) from ho5.congr (fun q => by unfold opsF; simp only [HNx.out, ← List.append_assoc, isR_snoc, Bool.or_assoc]))
              have HD5 := Lib.hid (hd.mod hm5 (by simp; omega))
              have HG5 := Lib.hid (hg.mod hm5 (by simp; omega))
              have HA5 := Lib.hid hA5
              have HM5 := Lib.hid (HM3.out.trans (hm5.mono (S' := [w.heap.size + 1, gb + 1 + 1, gb]) (fun x hx => by simp at hx; left; simp [hx])))
              have hs5 := hm5.size
              clear hA5 ho hd hg ho5 hm5 HC3 HM3
              go_upto_region 16 with fail
              clear hrun k0 k1 k2 k3
              have k2 : w5.cell? ⟨xb, 2, none⟩ = some (.bool rd) := by rw [HA5.out.cell]; rfl
              cases rd with
              | false =>
                have HC' := Lib.hid (show Cmaps w5 (w.heap.size + 1) (gb + 1 + 1) gb W (doneOps L j ++ x.ops.take (t + 1)) (j * 1000 + (t + 1)) from
                  ⟨⟨ko', HO5.out, by omega⟩, ⟨kd, HD5.out.congr (fun k => by rw [HNx.out, ← List.append_assoc, del_skip _ _ rfl]), by omega⟩, ⟨kg, HG5.out.congr (fun k => by rw [HNx.out, ← List.append_assoc, gone_skip _ _ rfl]), by omega⟩⟩)
                go_wp2_with fail
                go_roundw
                case rel => exact ⟨t + 1, by omega, by go_num, HC'.out, HM5.out⟩
                case measure => simp [intOf]; omega
              | true =>
                go_upto_region 17 with fail
                clear k2
                have hG1 := G1.out.mod HM5.out (by simp; omega)
                have hG3 := G3.out.mod HM5.out (by simp; omega)
                have HG1 := Lib.hid hG1
                have HG3 := Lib.hid hG3
                clear hG1 hG3
                have HF := Lib.hid (show ∀ w', Mod [gb + 1 + 1] w5 w' → (w'.cell? ⟨xb, 0, none⟩ = some (.string ⟨rk.toArray⟩) ∧ w'.cell? ⟨xb, 1, none⟩ = some (.int .u64 (rl : Nat)) ∧ w'.cell? ⟨gb + 1, 0, none⟩ = some (.map (some gb)) ∧ w'.cell? ⟨gb + 1 + 1 + 1, 0, none⟩ = some (.map (some (gb + 1 + 1))) ∧
                    (Instr.lookup 94 (.map (some gb)) (.string ⟨rk.toArray⟩) false).run Try.prog w' = .ok (.int .u64 (gmax (doneOps L j ++ x.ops.take t) rk : Nat)) w') from fun w' hm => by
                  have hx := HA5.out.mod hm (by simp; omega)
                  exact ⟨by rw [hx.cell]; rfl, by rw [hx.cell]; rfl, by rw [(HG1.out.mod hm (by simp)).cell]; rfl, by rw [(HG3.out.mod hm (by simp)).cell]; rfl, gone_look (HG5.out.mod hm (by simp; omega)) rk HRk.out.1⟩)
                have hd6 : VMap textKey { w5 with drawn := w5.drawn + 1 } (gb + 1 + 1) kd (delF (doneOps L j ++ x.ops.take t)) := HD5.out.on (below_drew (Below.refl _ _))
                have hg6 : VMap textKey { w5 with drawn := w5.drawn + 1 } gb kg (goneF (doneOps L j ++ x.ops.take t)) := HG5.out.on (below_drew (Below.refl _ _))
                have ho6 : VMap recKey { w5 with drawn := w5.drawn + 1 } (w.heap.size + 1) ko' (opsF fun q => isR W q || isR (doneOps L j ++ x.ops.take (t + 1)) q) := HO5.out.on (below_drew (Below.refl _ _))
                have hmx : ∀ w, (Builtin.max_ #[29, 29] 29 #[.int .u64 (gmax (doneOps L j ++ x.ops.take t) rk : Nat), .int .u64 (rl : Nat)]).run Try.prog w = .ok (.int .u64 (max (gmax (doneOps L j ++ x.ops.take t) rk) rl : Nat)) w := fun w => by
                  rw [run_max_int2, show (if (rl : Int) > (gmax (doneOps L j ++ x.ops.take t) rk : Nat) then (rl : Int) else (gmax (doneOps L j ++ x.ops.take t) rk : Nat)) = ((max (gmax (doneOps L j ++ x.ops.take t) rk) rl : Nat) : Int) from by split <;> omega]
                refine wp_region_float [0, 1, 2, 3, 4, 5, 6, 7, 8, 9, 10, 11, 12] [13, 14] [14] (fun w' => Mod [gb + 1 + 1] w5 w') (by kernel_rfl) (by kernel_rfl) (by kernel_rfl) (by kernel_rfl) (fun c a d v w h => by cases d <;> exact h) ((Mod.refl _ _).drew) ?_
                have hS : Mod [gb + 1 + 1] w5 { w5 with drawn := w5.drawn + 1 } := (Mod.refl _ _).drew
                have hS2 : Mod [w.heap.size + 1, gb + 1 + 1, gb] w5 { w5 with drawn := w5.drawn + 1 } := (Mod.refl _ _).drew
                generalize ({ w5 with drawn := w5.drawn + 1 } : World) = w6 at *
                simp only [pick, List.map_cons, List.map_nil, List.getD_cons_zero, List.getD_cons_succ]
                obtain ⟨w7, kd', hrun, hd7, ekd, hm7⟩ := del_store hd6 (by omega) ⟨rk, rl, true, rv⟩ HRk.out rfl
                obtain ⟨w8, kg', hrun2, hg8, ekg, hm8⟩ := gone_store (hg6.mod hm7 (by simp; omega)) (by omega) ⟨rk, rl, true, rv⟩ HRk.out rfl
                simp only at hrun hrun2
                have HC' := Lib.hid (show Cmaps w8 (w.heap.size + 1) (gb + 1 + 1) gb W (doneOps L j ++ x.ops.take (t + 1)) (j * 1000 + (t + 1)) from
                  ⟨⟨ko', (ho6.mod hm7 (by simp; omega)).mod hm8 (by simp; omega), by omega⟩, ⟨kd', (hd7.mod hm8 (by simp; omega)).congr (fun k => by rw [HNx.out, ← List.append_assoc]), by omega⟩, ⟨kg', hg8.congr (fun k => by rw [HNx.out, ← List.append_assoc]), by omega⟩⟩)
                have HM8 := Lib.hid ((HM5.out.trans hS2).trans ((hm7.mono (S' := [w.heap.size + 1, gb + 1 + 1, gb]) (fun x hx => by simp at hx; left; simp [hx])).trans (hm8.mono (S' := [w.heap.size + 1, gb + 1 + 1, gb]) (fun x hx => by simp at hx; left; simp [hx]))))
                clear hd6 hg6 ho6 hd7 hg8 hS2
                generalize gmax (doneOps L j ++ x.ops.take t) rk = gm at *
                repeat (
                  refine takes_val (v := ?_) ?_ (fun w' hS => ?_) ?_
                  rotate_left
                  · rfl
                  · obtain ⟨k0, k1, k2, k3, k4⟩ := HF.out w' hS
                    go_simp
                    with_reducible rfl
                  simp only [Act.put, List.setIfInBounds_toArray, List.set_cons_zero, List.set_cons_succ])
                refine takes_nil ?_
                refine seqW_step (by rfl) (fun K hK => ?_)
                go_simp
                refine hK.out _ _ (.inr (hS.trans hm7)) ?_
                clear hK K
                refine seqW_step (by rfl) (fun K hK => ?_)
                go_simp
                refine hK.out _ _ (.inl (by rfl)) (seqW_nil ?_)
                clear hK K HF hS hrun hrun2 hm7 hm8 hmx
                go_wp2_with fail
                go_roundw
                case rel => exact ⟨t + 1, by omega, by go_num, HC'.out, HM8.out⟩
                case measure => simp [intOf]; omega
            · have hte : ¬ (t : Int) < (en : Int) := by omega
              have HC' := Lib.hid (show Cmaps wr (w.heap.size + 1) (gb + 1 + 1) gb W (doneOps L (j + 1)) ((j + 1) * 1000) from by
                have := HC.out
                rw [List.take_of_length_le (show x.ops.length ≤ t by have := HQE.out.n; simp only at this; omega), ← HNe.out] at this
                exact this.more (by omega))
              clear HC
              go_wp2_with fail
              go_roundw
              case rel => exact ⟨j + 1, by omega, by go_num, HC'.out, HM.out⟩
              case measure => simp [intOf]; omega
        · have hje : ¬ (j : Int) < (n : Int) := by omega
          have HC' := Lib.hid (show Cmaps wr (w.heap.size + 1) (gb + 1 + 1) gb W (opsOf L) (j * 1000) from by
            have := HC.out
            unfold doneOps at this
            rw [List.take_of_length_le (show L.length ≤ j by rw [← HLd.out, List.length_map]; have := HH.out.len; omega)] at this
            exact this)
          clear HC
          go_wp2_with fail
          clear hje hlt
          have HX3 := Lib.hid (V3'.out.mod HM.out (by simp only [List.mem_cons, List.not_mem_nil, or_false]; omega))
          have HX1 := Lib.hid (G1.out.mod HM.out (by simp only [List.mem_cons, List.not_mem_nil, or_false]; omega))
          have HXd := Lib.hid (G3.out.mod HM.out (by simp only [List.mem_cons, List.not_mem_nil, or_false]; omega))
          have HT := Lib.hid (V2'.out.mod HM.out (by simp only [List.mem_cons, List.not_mem_nil, or_false]; omega))
          have HOl := Lib.hid (V4.out.mod HM.out (by simp only [List.mem_cons, List.not_mem_nil, or_false]; omega))
          have hw10 : gb + 4 ≤ wr.heap.size := by omega
          clear G0 G1 G2 G3 V4 V5 V3' V2' HB9 HSZ9 hsz hs1 HM hk1 hj hi hk
          generalize wr = w10 at *
          go_loopw [18, 19, 20, 21, 75] (fun _ _ _ _ s75 wr => ∃ (i k : Nat), i ≤ nm ∧ s75 = .int .i64 i ∧ VMap textKey wr (w.heap.size + 1 + 1) k (thereF (N.take i)) ∧ k ≤ i ∧ firstBad (okS W (opsOf L)) N 0 = firstBad (okS W (opsOf L)) (N.drop i) i ∧ Mod [w.heap.size + 1 + 1] w10 wr) (fun _ _ _ _ s75 _ => nm - (intOf s75).toNat)
          case atStart => exact ⟨0, 0, by omega, rfl, HT.out, by omega, rfl, Mod.refl _ _⟩
          case round =>
            obtain ⟨i, k, hi, rfl, hV, hk, hfb, hm⟩ := hrel
            have hs1 := hm.size
            have hbw : Below w.heap.size w wr := HBW.out.trans (hm.below (fun x hx => by simp at hx; omega) (by omega))
            have HC := Lib.hid (show Cmaps wr (w.heap.size + 1) (gb + 1 + 1) gb W (opsOf L) (j * 1000) from by
              obtain ⟨⟨k1, h1, e1⟩, ⟨k2, h2, e2⟩, ⟨k3, h3, e3⟩⟩ := HC'.out
              exact ⟨⟨k1, h1.mod hm (by simp only [List.mem_cons, List.not_mem_nil, or_false]; omega), e1⟩, ⟨k2, h2.mod hm (by simp only [List.mem_cons, List.not_mem_nil, or_false]; omega), e2⟩, ⟨k3, h3.mod hm (by simp only [List.mem_cons, List.not_mem_nil, or_false]; omega), e3⟩⟩)
            have HOl2 := Lib.hid (HOl.out.mod hm (by simp only [List.mem_cons, List.not_mem_nil, or_false]; omega))
            have HX32 := Lib.hid (HX3.out.mod hm (by simp only [List.mem_cons, List.not_mem_nil, or_false]; omega))
            have HV := Lib.hid hV
            have HM := Lib.hid hm
            have HFb := Lib.hid hfb
            have HBW2 := Lib.hid hbw
            clear hV hm hfb hbw
            by_cases hlt : i < nm
            · have hil : (i : Int) < (nm : Int) := by omega
              obtain ⟨r, gq, oq, hr, hrl, rfl, hgq, d0, d1, d2, d3⟩ := recs_row (HN.out.on HBW2.out) EN.out hlt
              have HRk := Lib.hid (ON.out r hrl)
              have HNx := Lib.hid (take_next N i r hr)
              have HStep := Lib.hid (show firstBad (okS W (opsOf L)) N 0 = if okS W (opsOf L) r then firstBad (okS W (opsOf L)) (N.drop (i + 1)) (i + 1) else some i by rw [HFb.out]; exact firstBad_step _ _ _ _ hr)
              obtain ⟨rk, rl, rd, rv⟩ := r
              simp only at d0 d1 d2 d3
              have hbn := (Below.refl wr.heap.size wr).alloc (Nat.le_refl _) (.cells #[.string ⟨rk.toArray⟩, .int .u64 (rl : Nat), .bool rd, .string ⟨rv.toArray⟩] 58)
              have hA : Blk (wr.alloc (.cells #[.string ⟨rk.toArray⟩, .int .u64 (rl : Nat), .bool rd, .string ⟨rv.toArray⟩] 58)) wr.heap.size [.string ⟨rk.toArray⟩, .int .u64 (rl : Nat), .bool rd, .string ⟨rv.toArray⟩] 58 := Blk.new wr [.string ⟨rk.toArray⟩, .int .u64 (rl : Nat), .bool rd, .string ⟨rv.toArray⟩] 58
              have HA := Lib.hid hA
              have HV3 := Lib.hid (HV.out.on hbn)
              have HC3 := Lib.hid (HC.out.on hbn)
              have HO3 := Lib.hid (HOl2.out.on hbn)
              have HT3 := Lib.hid (HX32.out.on hbn)
              have HM3 := Lib.hid (HM.out.thenBelow hbn)
              have HB3 := Lib.hid (HBW2.out.trans (hbn.mono HBW2.out.size))
              clear hr hrl hA hbn HV HC HM HBW2 HOl2 HX32 HFb
              go_upto_region 23 with fail
              generalize hxb : wr.heap.size = xb at *
              generalize hw3 : wr.alloc (.cells #[.string ⟨rk.toArray⟩, .int .u64 (rl : Nat), .bool rd, .string ⟨rv.toArray⟩] 58) = w3 at *
              have hw3s : w3.heap.size = xb + 1 := by rw [← hw3, ← hxb]; simp
              clear hw3 hxb d0 d1 d2 d3
              have kx : w3.cell? ⟨w.heap.size + 1 + 1 + 1, 0, none⟩ = some (.map (some (w.heap.size + 1 + 1))) := by rw [HT3.out.cell]; rfl
              have k0 : w3.cell? ⟨xb, 0, none⟩ = some (.string ⟨rk.toArray⟩) := by rw [HA.out.cell]; rfl
              obtain ⟨w5, k', hrun, hV5, hk5, hm5⟩ := there_store HV3.out (by omega) ⟨rk, rl, rd, rv⟩ HRk.out
              rw [← HNx.out] at hV5
              simp only at hrun
              have HV5 := Lib.hid hV5
              have hA5 := HA.out.mod hm5 (by simp only [List.mem_cons, List.not_mem_nil, or_false]; omega)
              have HO5 := Lib.hid (HO3.out.mod hm5 (by simp only [List.mem_cons, List.not_mem_nil, or_false]; omega))
              have HM5 := Lib.hid (HM3.out.trans hm5)
              have HB5 := Lib.hid (HB3.out.trans (hm5.below (fun x hx => by simp at hx; omega) (by have := HB3.out.size; omega)))
              have hs5 := hm5.size
              have HC5 := Lib.hid (show ∃ k, VMap recKey w5 (w.heap.size + 1) k (opsF fun r => isR W r || isR (opsOf L) r) from by
                obtain ⟨⟨k1, h1, e1⟩, _, _⟩ := HC3.out
                exact ⟨k1, h1.mod hm5 (by simp only [List.mem_cons, List.not_mem_nil, or_false]; omega)⟩)
              have HA5 := Lib.hid hA5
              clear hV5 hm5 hA5 HC3 HO3 HT3 HV3
              go_upto_region 24 with fail
              clear hrun kx k0
              have k0 : w5.cell? ⟨xb, 0, none⟩ = some (.string ⟨rk.toArray⟩) := by rw [HA5.out.cell]; rfl
              have hlk := HO5.out.looks rk HRk.out.1
              have HOk := Lib.hid (show okS W (opsOf L) ⟨rk, rl, rd, rv⟩ = ((isR W ⟨rk, rl, rd, rv⟩ || isR (opsOf L) ⟨rk, rl, rd, rv⟩) && !((findR (W.foldl setR []) rk).isSome && decide (rl < ((findR (W.foldl setR []) rk).getD zeroR).lsn))) by
                unfold okS
                simp only
                cases findR (W.foldl setR []) rk <;> rfl)
              unfold recV at hlk
              generalize (findR (W.foldl setR []) rk).getD zeroR = y at *
              generalize (findR (W.foldl setR []) rk).isSome = is at *
              obtain ⟨yk, yl, yd, yv⟩ := y
              simp only at hlk HOk
              have hbn := (Below.refl w5.heap.size w5).alloc (Nat.le_refl _) (.cells #[.string ⟨yk.toArray⟩, .int .u64 (yl : Nat), .bool yd, .string ⟨yv.toArray⟩] 58)
              have hY : Blk (w5.alloc (.cells #[.string ⟨yk.toArray⟩, .int .u64 (yl : Nat), .bool yd, .string ⟨yv.toArray⟩] 58)) w5.heap.size [.string ⟨yk.toArray⟩, .int .u64 (yl : Nat), .bool yd, .string ⟨yv.toArray⟩] 58 := Blk.new w5 [.string ⟨yk.toArray⟩, .int .u64 (yl : Nat), .bool yd, .string ⟨yv.toArray⟩] 58
              have HY := Lib.hid hY
              have HA6 := Lib.hid (HA5.out.on hbn)
              have HV6 := Lib.hid (HV5.out.on hbn)
              have HM6 := Lib.hid (HM5.out.thenBelow hbn)
              have HB6 := Lib.hid (HB5.out.trans (hbn.mono HB5.out.size))
              have HC6 := Lib.hid (show ∃ k, VMap recKey (w5.alloc (.cells #[.string ⟨yk.toArray⟩, .int .u64 (yl : Nat), .bool yd, .string ⟨yv.toArray⟩] 58)) (w.heap.size + 1) k (opsF fun r => isR W r || isR (opsOf L) r) from by
                obtain ⟨k1, h1⟩ := HC5.out
                exact ⟨k1, h1.on hbn⟩)
              clear hbn hY
              go_upto_region 25 with fail
              clear k0 hlk
              generalize w5.heap.size = yb at *
              generalize w5.alloc (.cells #[.string ⟨yk.toArray⟩, .int .u64 (yl : Nat), .bool yd, .string ⟨yv.toArray⟩] 58) = w6 at *
              have k0 : w6.cell? ⟨xb, 0, none⟩ = some (.string ⟨rk.toArray⟩) := by rw [HA6.out.cell]; rfl
              have k1 : w6.cell? ⟨xb, 1, none⟩ = some (.int .u64 (rl : Nat)) := by rw [HA6.out.cell]; rfl
              have k2 : w6.cell? ⟨xb, 2, none⟩ = some (.bool rd) := by rw [HA6.out.cell]; rfl
              have k3 : w6.cell? ⟨xb, 3, none⟩ = some (.string ⟨rv.toArray⟩) := by rw [HA6.out.cell]; rfl
              have y1 : w6.cell? ⟨yb, 1, none⟩ = some (.int .u64 (yl : Nat)) := by rw [HY.out.cell]; rfl
              obtain ⟨ko, hko⟩ := HC6.out
              have hlo := ops_look hko ⟨rk, rl, rd, rv⟩ HRk.out
              unfold recV at hlo
              simp only at hlo
              clear hko
              generalize (isR W ⟨rk, rl, rd, rv⟩ || isR (opsOf L) ⟨rk, rl, rd, rv⟩) = fl at *
              cases fl with
              | false =>
                rw [if_neg (by decide)] at hlo
                have HZ := Lib.hid (show contentS W (opsOf L) N = (i : Int) by unfold contentS; rw [HStep.out, if_neg (by rw [HOk.out]; simp)])
                go_wp2_with fail
                go_ret
                exact ⟨by rw [HLd.out, HZ.out]; try rfl, HB6.out⟩
              | true =>
                rw [if_pos rfl] at hlo
                cases is with
                | false =>
                  have HZ := Lib.hid (show firstBad (okS W (opsOf L)) N 0 = firstBad (okS W (opsOf L)) (N.drop (i + 1)) (i + 1) by rw [HStep.out, if_pos (by rw [HOk.out]; rfl)])
                  go_wp2_with fail
                  go_roundw
                  case rel => exact ⟨i + 1, k', by omega, by go_num, HV6.out, by omega, HZ.out, HM6.out⟩
                  case measure => simp [intOf]; omega
                | true =>
                  by_cases hl : rl < yl
                  · have hgt : (rl : Int) < (yl : Int) := by omega
                    have HZ := Lib.hid (show contentS W (opsOf L) N = (i : Int) by unfold contentS; rw [HStep.out, if_neg (by rw [HOk.out, decide_eq_true hl]; decide)])
                    clear hl
                    go_wp2_with fail
                    go_ret
                    exact ⟨by rw [HLd.out, HZ.out]; try rfl, HB6.out⟩
                  · have hgt : ¬ (rl : Int) < (yl : Int) := by omega
                    have HZ := Lib.hid (show firstBad (okS W (opsOf L)) N 0 = firstBad (okS W (opsOf L)) (N.drop (i + 1)) (i + 1) by rw [HStep.out, if_pos (by rw [HOk.out, decide_eq_false hl]; rfl)])
                    clear hl
                    go_wp2_with fail
                    go_roundw
                    case rel => exact ⟨i + 1, k', by omega, by go_num, HV6.out, by omega, HZ.out, HM6.out⟩
                    case measure => simp [intOf]; omega
            · have hge : ¬ (i : Int) < (nm : Int) := by omega
              have HBx : Hid (Boxes wr (w.heap.size + 1 + 1 + 1) (gb + 1 + 1 + 1) (gb + 1) (w.heap.size + 1 + 1) (gb + 1 + 1) gb N (opsOf L)) := Lib.hid (by
                have hx1 := HX1.out.mod HM.out (by simp only [List.mem_cons, List.not_mem_nil, or_false]; omega)
                have hxd := HXd.out.mod HM.out (by simp only [List.mem_cons, List.not_mem_nil, or_false]; omega)
                have hv := HV.out
                rw [List.take_of_length_le (show N.length ≤ i by have := EN.out; omega)] at hv
                obtain ⟨_, ⟨k2, h2, _⟩, ⟨k3, h3, _⟩⟩ := HC.out
                exact ⟨by rw [HX32.out.cell]; rfl, by rw [hxd.cell]; rfl, by rw [hx1.cell]; rfl, by omega, by omega, by omega, ⟨k, hv⟩, ⟨k2, h2⟩, ⟨k3, h3⟩⟩)
              have HI := Lib.hid (indexR_any wr _ _ _ _ _ _ N (opsOf L) HBx.out aw nw cw W (HW.out.on HBW2.out) EW.out bW OW.out)
              have HN0 := Lib.hid (show firstBad (okS W (opsOf L)) N 0 = none by rw [HFb.out]; exact firstBad_end _ _ _ (by have := EN.out; omega))
              have hrng : ∃ v : Int, firstR (askW N (opsOf L)) 0 W = v ∧ -1 ≤ v ∧ v ≤ 1000000 := ⟨_, rfl, firstR_ge _ _ _, by have := firstR_le (askW N (opsOf L)) 0 W; have := EW.out; omega⟩
              obtain ⟨v, hv, hv1, hv2⟩ := hrng
              rw [hv] at HI
              have HVal := Lib.hid (show contentS W (opsOf L) N = if v < 0 then -1 else (nm : Int) + v by unfold contentS; rw [HN0.out, hv, EN.out])
              clear hv
              go_wp2_with fail
              refine HI.out.mono ?_
              rintro e w11 ⟨rfl, hb11⟩
              have HB11 := Lib.hid (HBW2.out.trans (hb11.mono HBW2.out.size))
              clear hb11
              by_cases hneg : v < 0
              · have HA := Lib.hid (show contentS W (opsOf L) N = -1 by rw [HVal.out, if_pos hneg])
                go_wp2_with fail
                go_ret
                exact ⟨by rw [HLd.out, HA.out]; try rfl, HB11.out⟩
              · have HA := Lib.hid (show contentS W (opsOf L) N = (nm : Int) + v by rw [HVal.out, if_neg hneg])
                go_wp2_with fail
                go_ret
                exact ⟨by rw [HLd.out, HA.out]; go_num, HB11.out⟩
end Go.Proofs.Ytffianjbljgnaaa
