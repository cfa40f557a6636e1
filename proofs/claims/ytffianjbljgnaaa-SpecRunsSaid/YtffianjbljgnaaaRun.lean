/-
  The law's own run: transactions, one behind the other. No condition but sizes that a machine has. (Printed by gen_run.py.)
-/
import Derived.Test.YtffianjbljgnaaaRunD
namespace Go.Proofs.Ytffianjbljgnaaa
set_option linter.unusedVariables false
set_option linter.unusedSimpArgs false
open Go.RowKit Go.Maps

/-- What a run ends with. -/
def RunEnd (n : Nat) (w : World) (e : Ending) (w' : World) : Prop :=
  ∃ (mb : Nat) (v4 v5 : Value) (l : List (Option Nat)) (C : List Nat) (X : List MZ) (Z : List EZ) (M : List KV), e = .returned (.tuple #[v4, v5]) ∧ RunAt w.heap.size w' mb v4 v5 l C X Z M ∧ Hist (min n 10) X (Z.map (·.2)) M ∧ Below w.heap.size w w'
set_option maxRecDepth 100000 in
set_option maxHeartbeats 16000000 in
theorem run_any (w : World) (a : Option Addr) (n c : Nat) (z : List DZ) (h : DeedsAt w a n c z) (hn : n ≤ 9223372036854775807) :
    Calls Try.prog 7 #[.slice a n c] w (RunEnd n w) := by
  have hM0 := VMap.made_run (w := w) (k := 9) (e := 47) (t := 63) Try.underlying63
  have HH := Lib.hid h
  have HR0 := Lib.hid (show RunAt w.heap.size (w.alloc (.map #[] 0)) w.heap.size (.slice none 0 0) (.slice none 0 0) [some w.heap.size, none, none] [] [] [] [] from
    ⟨⟨fun i j x hij hi hj => by
        rcases i with _ | _ | _ | i <;> rcases j with _ | _ | _ | j <;> simp at hi hj hij, fun i x hx => by
        rcases i with _ | _ | _ | i <;> simp at hx; subst hx; simp, by simp⟩, rfl, rfl, rfl, PMapAt.made w, World.ownsRow_nil _ _ _ _, World.ownsRow_nil _ _ _ _, by simp, by simp, by simp, by simp, List.Pairwise.nil, by simp, by simp⟩)
  have HB0 := Lib.hid ((Below.refl w.heap.size w).alloc (Nat.le_refl _) (.map #[] 0))
  clear h
  go_enter Try.func7, Try.ntmps7
  go_wp2_with fail
  clear hM0
  generalize hB : w.heap.size = B at *
  go_loopw [4, 5, 7] (fun s4 s5 s7 wr => ∃ (i : Nat) (l : List (Option Nat)) (C : List Nat) (X : List MZ) (Z : List EZ) (M : List KV), i ≤ n ∧ i ≤ 10 ∧ s7 = .int .i64 i ∧ RunAt B wr B s4 s5 l C X Z M ∧ Hist i X (Z.map (·.2)) M ∧ l.length = 3 ∧ M.length ≤ i * 6 ∧ LetM M ∧ Below B w wr) (fun _ _ s7 _ => n - (intOf s7).toNat)
  case atStart => exact ⟨0, _, _, _, _, _, by omega, by omega, rfl, HR0.out, Hist.nil, rfl, by simp, LetM.nil, HB0.out⟩
  case round =>
    obtain ⟨i, l0, C0, X0, Z0, M0, hi, hi10, rfl, hR, hH, hl0, hM0l, hLet0, hb⟩ := hrel
    by_cases hlt : i < n ∧ i < 10
    · obtain ⟨hlt, hlm⟩ := hlt
      have hil : (i : Int) < (n : Int) := by omega
      have hml : (i : Int) < 10 := by omega
      obtain ⟨q, g, o, hq, hqz, rfl, hg, cw⟩ := HH.out.row hlt
      have HQ := Lib.hid (HH.out.each q hqz)
      have HC0 := Lib.hid (show ∀ w', Below B w w' → w'.cell? ⟨g, o + i, none⟩ = some (.slice q.1.a q.1.n q.1.c) from fun w' h => (h.cell (p := ⟨g, o + i, none⟩) (by rw [← hB]; exact hg)).trans cw)
      have HTs := Lib.hid (show (10 + (i : Int)) = ((10 + i : Nat) : Int) by omega)
      have HH1 := Lib.hid hH
      have hX0 := hH.length
      have hb1 := (Below.refl wr.heap.size wr).alloc (Nat.le_refl _) (.cells #[.int .u64 ((10 + i : Nat) : Int), .int .u64 ((10 + i : Nat) : Int), .slice none 0 0] 40)
      have hE1 : Blk (wr.alloc (.cells #[.int .u64 ((10 + i : Nat) : Int), .int .u64 ((10 + i : Nat) : Int), .slice none 0 0] 40)) wr.heap.size [.int .u64 ((10 + i : Nat) : Int), .int .u64 ((10 + i : Nat) : Int), .slice none 0 0] 40 := Blk.new wr _ _
      have hR1 := (hR.more hb1 (some wr.heap.size) (fun x hx => by cases hx; simp)).more (Below.refl _ _) none (fun x hx => by cases hx)
      rw [List.append_assoc] at hR1
      have hT1 : TxAt B (wr.alloc (.cells #[.int .u64 ((10 + i : Nat) : Int), .int .u64 ((10 + i : Nat) : Int), .slice none 0 0] 40)) (l0 ++ ([some wr.heap.size] ++ [none])) wr.heap.size (10 + i) none 0 [] :=
        ⟨by simp [hl0], by rw [List.getElem?_append_right (by omega), hl0]; rfl, by rw [List.getElem?_append_right (by omega), hl0]; rfl, hE1, World.ownsRow_nil _ _ _ _, by simp⟩
      have HR1 := Lib.hid hR1
      have HT1 := Lib.hid hT1
      have HB1 := Lib.hid (hb.trans (hb1.mono (by rw [← hB]; exact hb.size)))
      clear hH hR hq hqz hb1 hE1 hR1 hT1 cw hb
      go_upto_region 9 with fail
      rw [HTs.out]
      obtain ⟨eb, heb⟩ : ∃ x, wr.heap.size = x := ⟨_, rfl⟩
      rw [heb] at HR1 HT1
      rw [heb]
      generalize wr.alloc (.cells #[.int .u64 ((10 + i : Nat) : Int), .int .u64 ((10 + i : Nat) : Int), .slice none 0 0] 40) = w1 at *
      clear heb HTs
      go_upto_block 2 with fail
      go_cut [4, 10] (fun s4 s10 wx => DeedsDone B w u5 X0 Z0 M0 i eb s4 s10 wx)
      rotate_left
      · rename World => w8
        unfold DeedsDone at hcut
        obtain ⟨v4, k, l, C, gs, M, W, ea, ec, rfl, hk6, rfl, hR, hT, hF, hMl, hLet, hb⟩ := hcut
        obtain ⟨a4, c4, rfl⟩ := own_slice hR.made
        obtain ⟨ln, hln⟩ : ∃ x, (X0 ++ gs).length = x := ⟨_, rfl⟩
        have hbig := hR.big
        have HRun := Lib.hid hR
        have HTx := Lib.hid hT
        have HSo := Lib.hid hF
        have HB1 := Lib.hid hb
        rw [hln] at HRun ⊢
        have HLn := Lib.hid hln
        clear hln hR hT hF hb
        have HE10 := Lib.hid (show ((10 + i : Nat) : Int) = 10 + (i : Int) by omega)
        have hcall := callM_any (10 + i) ((k : Int) + 1) 5 [] [] w8
        rw [HE10.out] at hcall
        have HCall := Lib.hid hcall
        clear hcall
        go_wp2_with fail
        refine HCall.out.mono ?_
        rintro e w4 ⟨rfl, hb4⟩
        clear HCall
        go_upto_region 41 with ((with_reducible refine wpList_storeM rfl _ _ rfl _ (mkC (10 + i) ((k : Int) + 1) 5 [] []) ?_ ?_ ?_); rfl; rfl)
        have hY := Blk.new w4 (mdCells (mkC (10 + i) ((k : Int) + 1) 5 [] [])) 37
        have hb := (Below.refl w4.heap.size w4).alloc (Nat.le_refl _) (.cells (mdCells (mkC (10 + i) ((k : Int) + 1) 5 [] [])).toArray 37)
        obtain ⟨xb, hxb⟩ : ∃ x, w4.heap.size = x := ⟨_, rfl⟩
        have hxl : w8.heap.size ≤ xb := by rw [← hxb]; exact hb4.size
        have HB5 := Lib.hid (hb4.trans (hb.mono hb4.size))
        rw [hxb] at hY
        rw [hxb]
        generalize w4.alloc (.cells (mdCells (mkC (10 + i) ((k : Int) + 1) 5 [] [])).toArray 37) = w5 at *
        clear hb hxb hb4
        have f1 := hY.free 14
        have g1 : w5.cell? ⟨xb, 14, none⟩ = some (.int .i64 ((k : Int) + 1)) := by rw [hY.cell]; rfl
        have hY2 := hY.set 14 (.int .i64 ln)
        have f2 := hY2.free 15
        have g2x : (w5.setCell ⟨xb, 14, none⟩ (.int .i64 ln)).cell? ⟨xb, 15, none⟩ = some (.int .i64 ((k : Int) + 1)) := by rw [hY2.cell]; rfl
        have hY3 : Blk ((w5.setCell ⟨xb, 14, none⟩ (.int .i64 ln)).setCell ⟨xb, 15, none⟩ (.int .i64 ln)) xb (mdCells ⟨10 + i, (k : Int) + 1, 5, 10 + i, [], [], [], true, 10 + i, (k : Int) + 1, 0, false, [], none, 0, 0, ln, ln⟩) 37 := hY2.set 15 (.int .i64 ln)
        have hm3 : Mod [xb] w5 ((w5.setCell ⟨xb, 14, none⟩ (.int .i64 ln)).setCell ⟨xb, 15, none⟩ (.int .i64 ln)) := ((Mod.refl _ _).setCell _ _ (.inl (by simp))).setCell _ _ (.inl (by simp))
        have HB6 := Lib.hid (HB5.out.trans (hm3.below (B := w8.heap.size) (fun x hx => by simp at hx; omega) HB5.out.size))
        have HX6 := Lib.hid hY3
        clear hY hY2 hY3 hm3 HB5
        go_upto_region 43 with fail
        clear f1 g1 f2 g2x
        generalize ((w5.setCell ⟨xb, 14, none⟩ (.int .i64 ln)).setCell ⟨xb, 15, none⟩ (.int .i64 ln)) = w6 at *
        obtain ⟨qx, hXq, hCall, q1, q2, q3, q4, q5, q6⟩ : ∃ qx : MZ, Blk w6 xb (mdCells qx.1) 37 ∧ CallIs B w6 qx ∧ qx.1.ts = 10 + i ∧ qx.1.n = (k : Int) + 1 ∧ qx.1.dn = true ∧ qx.1.err = 0 ∧ qx.1.kind = 5 ∧ ∀ x, (prV qx.1).ownBlock ≠ some x :=
          ⟨(⟨10 + i, (k : Int) + 1, 5, 10 + i, [], [], [], true, 10 + i, (k : Int) + 1, 0, false, [], none, 0, 0, ln, ln⟩, []), HX6.out, ⟨rfl, World.ownsRow_nil _ _ _ _, by show 10 + i < 18446744073709551616; omega, Nat.zero_le _, ⟨by show (0 : Int) ≤ 5; omega, by show (5 : Int) ≤ 10; omega⟩, Nat.zero_le _, Nat.zero_le _⟩, rfl, rfl, rfl, rfl, rfl, fun x hx => by cases hx⟩
        have hR9 := HRun.out.on HB6.out
        have hT9 := HTx.out.on HB6.out
        have hld : MdCellsAt w6 xb 0 qx.1 := by refine ⟨?_, ?_, ?_, ?_, ?_, ?_, ?_, ?_, ?_, ?_, ?_, ?_, ?_, ?_, ?_, ?_⟩ <;> (rw [hXq.cell]; rfl)
        obtain ⟨v', w9, hrun, hR10, hm10, hbl10⟩ := hR9.listed (by have := HLn.out; have := HSo.out.len; rw [List.length_append] at *; omega) qx hCall [] (fun x hx => absurd hx (q6 x)) (fun x hx => by cases hx) 24
        have hT10 := hT9.mod hR9.hot hm10 (fun x hx => .inr ⟨1, by omega, by rw [hR9.l1]; simpa using hx⟩)
        have hT11 : TxAt B w9 (l.set 1 v'.ownBlock) eb (10 + i) ea ec W := ⟨by simp [hT10.len], by rw [List.getElem?_set_ne (by omega)]; exact hT10.l3, by rw [List.getElem?_set_ne (by omega)]; exact hT10.l4, hT10.blk, hT10.ops, hT10.ok⟩
        have hb9 : Below B w w6 := HB1.out.trans (HB6.out.mono (by have := HB1.out.size; omega))
        have hb10 : Below B w w9 := hb9.trans (hm10.below (fun x hx => (hR9.hot.lt 1 x (by rw [hR9.l1]; simpa using hx)).1) hR9.big)
        have hSo := HSo.out
        have hG : GroupIs (10 + i) (gs ++ [qx]) :=
          ⟨fun p hp => by
              rcases List.mem_append.1 hp with hp | hp
              · exact hSo.each p hp
              · simp only [List.mem_singleton] at hp; subst hp; exact ⟨q1, q3, q4⟩,
            List.pairwise_append.2 ⟨hSo.asc, by simp, fun p hp r hr => by
              simp only [List.mem_singleton] at hr; subst hr
              have := hSo.top p hp
              unfold nK at *; omega⟩, ⟨qx, by simp, q5⟩, by rw [List.length_append, hSo.len]; simp; omega⟩
        have hZr : runZ M0 [] (gs ++ [qx]) = (true, M, W) := by
          have h1 := runZ_snoc qx hSo.run (by unfold rightB; simp [q5])
          rw [h1]
          unfold rightM rightW
          simp [q5]
        have HHist := Lib.hid (Hist.tx (gs ++ [qx]) HH1.out hG hZr)
        have HR10 := Lib.hid hR10
        have HT11 := Lib.hid hT11
        have HB10 := Lib.hid hb10
        have HLd := Lib.hid hld
        have HRn := Lib.hid hrun
        have e2 : w9.cell? ⟨eb, 2, none⟩ = some (.slice ea W.length ec) := by rw [hT11.blk.cell]; rfl
        have hWx : W.length ≤ 1000 := by have := hSo.few; omega
        clear hXq hCall hR9 hT9 q1 q2 q3 q4 q5 q6 hld hrun hR10 hm10 hbl10 hT10 hT11 hb10 hSo hG hZr hb9
        go_upto_region 44 with (first | ((with_reducible refine wpList_loadM rfl _ rfl _ _ _ HLd.out ?_ ?_); rfl) | ((with_reducible refine wpList_buildM1 rfl _ rfl qx.1 ?_ ?_); rfl) | (at_builtin; (with_reducible refine wpList_append_run rfl _ _ _ rfl _ _ _ _ ?_ ?_ HRn.out ?_); rfl; rfl))
        clear HRn HLd HX6 HRun HTx HB6 HB1
        by_cases hW : 0 < W.length
        · have hWi : (0 : Int) < (W.length : Int) := by omega
          have HHist2 := Lib.hid (show Hist (i + 1) (X0 ++ gs ++ [qx]) (Z0.map (·.2) ++ [⟨10 + i, 10 + i, W⟩]) M by
            have := HHist.out
            unfold entO at this
            rw [if_neg (fun e => by rw [e] at hW; simp at hW)] at this
            rw [List.append_assoc]
            exact this)
          obtain ⟨v5', w10, hrun, hR12, hm12⟩ := HR10.out.logged (by have := hX0.2; rw [List.length_map] at this; omega) (⟨10 + i, 10 + i, ea, W.length, ec⟩, ⟨10 + i, 10 + i, W⟩)
            ⟨rfl, rfl, rfl, (own_rows HT11.out.ops).1, ⟨by show 10 + i < 18446744073709551616; omega, by show 10 + i < 18446744073709551616; omega, HT11.out.ok⟩⟩
            (Value.slice ea W.length ec).ownBlock.toList (fun g o e => by rw [show ea = some ⟨g, o, none⟩ from e]; simp [Value.ownBlock])
            (fun x hx => ⟨fun j hj hl => HR10.out.hot.ok j 4 x (by omega) hl (by rw [HT11.out.l4]; simpa using hx), (HT11.out.ops.lt x (by simpa using hx)).2⟩) (fun g o e hC => (HR10.out.hot.cold g hC).1 4 (by rw [HT11.out.l4, show ea = some ⟨g, o, none⟩ from e]; simp [Value.ownBlock])) 25
          have HR12 := Lib.hid hR12
          have HRn := Lib.hid hrun
          have HB12 := Lib.hid (HB10.out.trans (hm12.below (fun x hx => (HR10.out.hot.lt 2 x (by rw [HR10.out.l2]; simpa using hx)).1) HR10.out.big))
          have hT := HT11.out
          have e0 : w9.cell? ⟨eb, 0, none⟩ = some (.int .u64 ((10 + i : Nat) : Int)) := by rw [hT.blk.cell]; rfl
          have e1 : w9.cell? ⟨eb, 1, none⟩ = some (.int .u64 ((10 + i : Nat) : Int)) := by rw [hT.blk.cell]; rfl
          have HLen := Lib.hid (show ((((l.set 1 v'.ownBlock).take 3).set 2 v5'.ownBlock).length = 3) by have := hT.len; simp at this; simp [this])
          clear hR12 hrun hm12 hT
          go_wp2_with (at_builtin; (with_reducible refine wpList_append_run rfl _ _ _ rfl _ _ _ _ ?_ ?_ HRn.out ?_); rfl; rfl)
          refine ⟨?_, ?measure⟩
          · exact ⟨i + 1, _, _, _, _, _, by omega, by omega, by go_num, HR12.out, by rw [List.map_append]; exact HHist2.out, HLen.out, by omega, hLet, HB12.out⟩
          case measure => simp [intOf]; omega
        · have hWi : ¬ (0 : Int) < (W.length : Int) := by omega
          have HHist2 := Lib.hid (show Hist (i + 1) (X0 ++ gs ++ [qx]) (Z0.map (·.2)) M by
            have := HHist.out
            unfold entO at this
            rw [if_pos (List.eq_nil_of_length_eq_zero (by omega)), List.append_nil] at this
            rw [List.append_assoc]
            exact this)
          have HR12 := Lib.hid HR10.out.less
          have HLen := Lib.hid (show ((l.set 1 v'.ownBlock).take 3).length = 3 by have := HT11.out.len; simp at this; simp [this])
          go_wp2_with fail
          refine ⟨?_, ?measure⟩
          · exact ⟨i + 1, _, _, _, _, _, by omega, by omega, by go_num, HR12.out, HHist2.out, HLen.out, by omega, hLet, HB10.out⟩
          case measure => simp [intOf]; omega
      refine deeds_any w w1 B i eb n c g o _ C0 X0 Z0 M0 u5 q hB hn hi10 hlt hlm hM0l hLet0 hX0.1 HQ.out HC0.out HR1.out HT1.out HB1.out (fun c a d v w h => by cases d <;> exact h) (fun _ _ _ _ _ _ _ _ _ _ _ _ _ _ _ _ _ _ _ _ _ _ _ _ _ _ _ _ _ _ _ _ _ _ _ _ _ _ _ _ _ _ _ _ _ _ _ _ _ _ _ _ _ _ _ _ _ _ _ _ _ _ _ _ _ _ _ _ _ _ _ _ _ _ _ _ _ _ _ _ _ _ _ _ _ _ _ _ _ _ _ _ _ _ _ _ _ _ _ _ _ _ _ _ _ _ _ _ _ _ _ _ _ _ _ _ _ _ _ _ _ _ _ _ _ _ _ _ _ _ _ _ _ _ _ _ _ _ _ _ _ _ _ _ _ _ _ _ _ _ _ _ _ _ _ _ _ _ wx h => ?_)
      go_wp2_with fail
      go_meet
      exact h
    · have HE := Lib.hid (show RunEnd n w (.returned (.tuple #[u4, u5])) wr from by
        unfold RunEnd
        rw [hB]
        exact ⟨B, u4, u5, l0, C0, X0, Z0, M0, rfl, hR, by rw [show min n 10 = i by omega]; exact hH, hb⟩)
      clear hR hH hb
      by_cases hkn : i < n
      · have hil : (i : Int) < (n : Int) := by omega
        have hml : ¬ (i : Int) < 10 := by omega
        go_wp2_with fail
        refine bodyPost_ret (results_tmp2 rfl _ _ _) rfl ?_
        exact HE.out
      · have hil : ¬ (i : Int) < (n : Int) := by omega
        go_wp2_with fail
        refine bodyPost_ret (results_tmp2 rfl _ _ _) rfl ?_
        exact HE.out
end Go.Proofs.Ytffianjbljgnaaa
