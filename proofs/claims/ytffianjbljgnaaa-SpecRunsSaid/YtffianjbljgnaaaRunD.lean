/-
  The law's own run: what a transaction does. No condition but sizes that a machine has. (Printed by gen_run.py.)
-/
import Derived.Test.YtffianjbljgnaaaRunS
namespace Go.Proofs.Ytffianjbljgnaaa
set_option linter.unusedVariables false
set_option linter.unusedSimpArgs false
open Go.RowKit Go.Maps

/-- A transaction's deeds are done. -/
def DeedsDone (B : Nat) (w : World) (u5 : Value) (X0 : List MZ) (Z0 : List EZ) (M0 : List KV) (i eb : Nat) (s4 s10 : Value) (wx : World) : Prop :=
  ∃ (v4 : Value) (k : Nat) (l : List (Option Nat)) (C : List Nat) (gs : List MZ) (M : List KV) (W : List Rec) (ea : Option Addr) (ec : Nat), s4 = v4 ∧ k ≤ 6 ∧ s10 = .int .i64 k ∧ RunAt B wx B v4 u5 l C (X0 ++ gs) Z0 M ∧ TxAt B wx l eb (10 + i) ea ec W ∧ SoFar (10 + i) k M0 gs M W ∧ M.length ≤ i * 6 + k ∧ LetM M ∧ Below B w wx
set_option maxRecDepth 100000 in
set_option maxHeartbeats 16000000 in
theorem deeds_any (w w1 : World) (B i eb n c g o : Nat) (l1 : List (Option Nat)) (C0 : List Nat) (X0 : List MZ) (Z0 : List EZ) (M0 : List KV) (u5 : Value) (q : DZ) (hB : w.heap.size = B) (hn : n ≤ 9223372036854775807) (hi10 : i ≤ 10) (hlt : i < n) (hlm : i < 10)
    (hM0l : M0.length ≤ i * 6) (hLet0 : LetM M0) (hX0 : X0.length ≤ i * 7) (hQ : DeedsIs w q) (hC0 : ∀ w', Below B w w' → w'.cell? ⟨g, o + i, none⟩ = some (.slice q.1.a q.1.n q.1.c)) {y1 y2 y3 y4 y12 y13 y14 y15 y16 y17 y18 y19 y20 y21 y22 y23 y24 y25 y26 y27 y28 y29 y30 y31 y32 y33 y34 y35 y36 y37 y38 y39 y40 y41 y42 y43 y44 y45 y46 y47 y48 y49 y50 y51 y52 y53 y54 y55 y56 y57 y58 y59 y60 y61 y62 y63 y64 y65 y66 y67 y68 y69 y70 y71 y72 y73 y74 y75 y76 y77 y78 y79 y80 y81 y82 y83 y84 y85 y86 y87 y88 y89 y90 y91 y92 y93 y94 y95 y96 y97 y98 y99 y100 y101 y102 y103 y104 y105 y106 y107 y108 y109 y110 y111 y112 y113 y114 y115 y116 y117 y118 y119 y120 y121 y122 y123 y124 y125 y126 y127 y128 y129 y130 y131 y132 y133 y134 y135 y136 y137 y138 y139 y140 y141 y142 y143 y144 y145 y146 y147 y148 y149 y150 y151 y152 y153 y154 y155 y156 y157 y158 y159 y160 y161 y162 y163 y164 y165 y166 y167 y168 y169 y170 y171 y172 y173 y174 y175 y176 y177 y178 y179 y180 y181 y182 y183 y184 y185 y186 y187 y188 y189 y190 y191 y192 y193 y194 y195 y196 y197 y198 y199 y200 y201 y202 y203 y204 y205 y206 y207 y208 : Value}
    (hR1 : RunAt B w1 B y4 u5 l1 C0 X0 Z0 M0) (hT1 : TxAt B w1 l1 eb (10 + i) none 0 []) (hB1 : Below B w w1) {K : Act → World → Prop} {Q : Exit → Act → World → Prop} (hQp : ∀ c a d v w, Q (.panic c) (Act.put a d v) w → Q (.panic c) a w)
    (hK : ∀ (z4 z10 z11 z12 z13 z14 z15 z16 z17 z18 z19 z20 z21 z40 z41 z42 z43 z44 z45 z46 z47 z48 z49 z50 z51 z52 z53 z54 z55 z56 z57 z58 z59 z60 z61 z62 z63 z64 z65 z66 z67 z68 z69 z70 z71 z72 z73 z74 z75 z76 z77 z78 z79 z80 z81 z82 z83 z84 z85 z86 z87 z88 z89 z90 z91 z92 z93 z94 z95 z96 z97 z98 z99 z100 z101 z102 z103 z104 z105 z106 z107 z108 z109 z110 z111 z112 z113 z114 z115 z116 z117 z118 z119 z120 z121 z122 z123 z124 z125 z126 z127 z128 z129 z130 z131 z132 z133 z134 z135 z136 z137 z138 z139 z140 z141 z142 z143 z144 z145 z146 z147 z148 z149 z150 z151 z152 z153 z154 z155 z156 z157 z158 z159 z160 z161 z162 z163 z164 z165 z166 z167 z168 z169 z170 z171 z172 z173 z174 z175 z176 z177 z178 z179 z180 z181 z182 z183 z184 : Value) (wx : World), DeedsDone B w u5 X0 Z0 M0 i eb z4 z10 wx → K ⟨List.toArray (.slice (some ⟨g, o, none⟩) n c :: y1 :: y2 :: y3 :: z4 :: u5 :: .map (some B) :: .int .i64 (i : Int) :: .int .u64 ((10 + i : Nat) : Int) :: .pointer (some ⟨eb, 0, none⟩) :: z10 :: z11 :: z12 :: z13 :: z14 :: z15 :: z16 :: z17 :: z18 :: z19 :: z20 :: z21 :: y22 :: y23 :: y24 :: y25 :: y26 :: y27 :: y28 :: y29 :: y30 :: y31 :: y32 :: y33 :: y34 :: y35 :: y36 :: y37 :: y38 :: y39 :: z40 :: z41 :: z42 :: z43 :: z44 :: z45 :: z46 :: z47 :: z48 :: z49 :: z50 :: z51 :: z52 :: z53 :: z54 :: z55 :: z56 :: z57 :: z58 :: z59 :: z60 :: z61 :: z62 :: z63 :: z64 :: z65 :: z66 :: z67 :: z68 :: z69 :: z70 :: z71 :: z72 :: z73 :: z74 :: z75 :: z76 :: z77 :: z78 :: z79 :: z80 :: z81 :: z82 :: z83 :: z84 :: z85 :: z86 :: z87 :: z88 :: z89 :: z90 :: z91 :: z92 :: z93 :: z94 :: z95 :: z96 :: z97 :: z98 :: z99 :: z100 :: z101 :: z102 :: z103 :: z104 :: z105 :: z106 :: z107 :: z108 :: z109 :: z110 :: z111 :: z112 :: z113 :: z114 :: z115 :: z116 :: z117 :: z118 :: z119 :: z120 :: z121 :: z122 :: z123 :: z124 :: z125 :: z126 :: z127 :: z128 :: z129 :: z130 :: z131 :: z132 :: z133 :: z134 :: z135 :: z136 :: z137 :: z138 :: z139 :: z140 :: z141 :: z142 :: z143 :: z144 :: z145 :: z146 :: z147 :: z148 :: z149 :: z150 :: z151 :: z152 :: z153 :: z154 :: z155 :: z156 :: z157 :: z158 :: z159 :: z160 :: z161 :: z162 :: z163 :: z164 :: z165 :: z166 :: z167 :: z168 :: z169 :: z170 :: z171 :: z172 :: z173 :: z174 :: z175 :: z176 :: z177 :: z178 :: z179 :: z180 :: z181 :: z182 :: z183 :: z184 :: y185 :: y186 :: y187 :: y188 :: y189 :: y190 :: y191 :: y192 :: y193 :: y194 :: y195 :: y196 :: y197 :: y198 :: y199 :: y200 :: y201 :: y202 :: y203 :: y204 :: y205 :: y206 :: y207 :: y208 :: []), []⟩ wx) :
    (tlC (hdC (tlC (tlC (tlC (inC (hdC (tlC (inC (inC (tlC (hdC (tlC (tlC (tlC (tlC (Try.f7.body.getD .skip))))))))))))))))).wp Try.prog (Exit.then K Q) ⟨List.toArray (.slice (some ⟨g, o, none⟩) n c :: y1 :: y2 :: y3 :: y4 :: u5 :: .map (some B) :: .int .i64 (i : Int) :: .int .u64 ((10 + i : Nat) : Int) :: .pointer (some ⟨eb, 0, none⟩) :: .int .i64 0 :: .int .i64 0 :: y12 :: y13 :: y14 :: y15 :: y16 :: y17 :: y18 :: y19 :: y20 :: y21 :: y22 :: y23 :: y24 :: y25 :: y26 :: y27 :: y28 :: y29 :: y30 :: y31 :: y32 :: y33 :: y34 :: y35 :: y36 :: y37 :: y38 :: y39 :: y40 :: y41 :: y42 :: y43 :: y44 :: y45 :: y46 :: y47 :: y48 :: y49 :: y50 :: y51 :: y52 :: y53 :: y54 :: y55 :: y56 :: y57 :: y58 :: y59 :: y60 :: y61 :: y62 :: y63 :: y64 :: y65 :: y66 :: y67 :: y68 :: y69 :: y70 :: y71 :: y72 :: y73 :: y74 :: y75 :: y76 :: y77 :: y78 :: y79 :: y80 :: y81 :: y82 :: y83 :: y84 :: y85 :: y86 :: y87 :: y88 :: y89 :: y90 :: y91 :: y92 :: y93 :: y94 :: y95 :: y96 :: y97 :: y98 :: y99 :: y100 :: y101 :: y102 :: y103 :: y104 :: y105 :: y106 :: y107 :: y108 :: y109 :: y110 :: y111 :: y112 :: y113 :: y114 :: y115 :: y116 :: y117 :: y118 :: y119 :: y120 :: y121 :: y122 :: y123 :: y124 :: y125 :: y126 :: y127 :: y128 :: y129 :: y130 :: y131 :: y132 :: y133 :: y134 :: y135 :: y136 :: y137 :: y138 :: y139 :: y140 :: y141 :: y142 :: y143 :: y144 :: y145 :: y146 :: y147 :: y148 :: y149 :: y150 :: y151 :: y152 :: y153 :: y154 :: y155 :: y156 :: y157 :: y158 :: y159 :: y160 :: y161 :: y162 :: y163 :: y164 :: y165 :: y166 :: y167 :: y168 :: y169 :: y170 :: y171 :: y172 :: y173 :: y174 :: y175 :: y176 :: y177 :: y178 :: y179 :: y180 :: y181 :: y182 :: y183 :: y184 :: y185 :: y186 :: y187 :: y188 :: y189 :: y190 :: y191 :: y192 :: y193 :: y194 :: y195 :: y196 :: y197 :: y198 :: y199 :: y200 :: y201 :: y202 :: y203 :: y204 :: y205 :: y206 :: y207 :: y208 :: []), []⟩ w1 := by
  have e1 : (tlC (hdC (tlC (tlC (tlC (inC (hdC (tlC (inC (inC (tlC (hdC (tlC (tlC (tlC (tlC (Try.f7.body.getD .skip))))))))))))))))) = (tlC (hdC (tlC (tlC (tlC (inC (hdC (tlC (inC (inC (tlC (hdC (tlC (tlC (tlC (tlC (Try.f7.body.getD .skip))))))))))))))))) := rfl
  conv at e1 => rhs; unfold Try.f7; dsimp only [tlC, hdC, inC, thC, elC, Option.getD]
  rw [e1]
  clear e1
  let hBP : Exit → Act → World → Prop := bodyPost Try.prog Try.f7 (fun _ _ => True)
  have HK := Lib.hid hK
  have HQp := Lib.hid hQp
  have HQ := Lib.hid hQ
  have HC0 := Lib.hid hC0
  have HR1 := Lib.hid hR1
  have HT1 := Lib.hid hT1
  have HB1 := Lib.hid hB1
  have hil : (i : Int) < (n : Int) := by omega
  clear hK hQp hQ hC0 hR1 hT1 hB1
  go_wp2_with fail
  go_loopw [4, 10, 11] (fun s4 s10 s11 wx => ∃ (k : Nat) (l : List (Option Nat)) (C : List Nat) (gs : List MZ) (M : List KV) (W : List Rec) (ea : Option Addr) (ec : Nat), k ≤ q.1.n ∧ k ≤ 6 ∧ s10 = .int .i64 k ∧ s11 = .int .i64 k ∧ RunAt B wx B s4 u5 l C (X0 ++ gs) Z0 M ∧ TxAt B wx l eb (10 + i) ea ec W ∧ SoFar (10 + i) k M0 gs M W ∧ M.length ≤ i * 6 + k ∧ LetM M ∧ Below B w wx) (fun _ _ s11 _ => q.1.n - (intOf s11).toNat)
  case atStart => exact ⟨0, _, _, [], _, _, _, _, by omega, by omega, rfl, rfl, by rw [List.append_nil]; exact HR1.out, HT1.out, ⟨rfl, by simp, List.Pairwise.nil, by simp, rfl, by simp⟩, by omega, hLet0, HB1.out⟩
  case round =>
    clear HR1 HT1 HB1
    obtain ⟨k, l, C, gs, M, W, ea, ec, hk, hk6, rfl, rfl, hR, hT, hF, hMl, hLet, hb⟩ := hrel
    have c0 := HC0.out _ hb
    by_cases hlk : k < q.1.n ∧ k < 6
    · obtain ⟨hlk, hlk6⟩ := hlk
      have hkl : (k : Int) < (q.1.n : Int) := by omega
      have hk6l : (k : Int) < 6 := by omega
      obtain ⟨d, g2, o2, hd, hdok, ha2, hg2, d0, d1, d2, d3⟩ := (HQ.out.on (by rw [hB]; exact hb)).row hlk
      obtain ⟨⟨qa, qn, qc⟩, D⟩ := q
      obtain ⟨dk, dy, dh, dv⟩ := d
      simp only at ha2 hlk hkl hk c0 d0 d1 d2 d3 hd
      subst ha2
      obtain ⟨k1, k2, k3, k4⟩ := hdok
      simp only at k1 k2 k3 k4
      have HRun := Lib.hid hR
      have HTx := Lib.hid hT
      have HSo := Lib.hid hF
      have HB1 := Lib.hid hb
      have hD : Blk (wr.alloc (.cells #[.int .u8 (dk : Nat), .int .u8 (dy : Nat), .int .u8 (dh : Nat), .int .u8 (dv : Nat)] 66)) wr.heap.size (deedCells ⟨dk, dy, dh, dv⟩) 66 := Blk.new wr (deedCells ⟨dk, dy, dh, dv⟩) _
      have hbD := (Below.refl wr.heap.size wr).alloc (Nat.le_refl _) (.cells #[.int .u8 (dk : Nat), .int .u8 (dy : Nat), .int .u8 (dh : Nat), .int .u8 (dv : Nat)] 66)
      have HD := Lib.hid hD
      have HbD := Lib.hid hbD
      clear hR hT hF hb hD hbD
      go_upto_region 14 with fail
      clear c0 d0 d1 d2 d3
      obtain ⟨db, hdb⟩ : ∃ x, wr.heap.size = x := ⟨_, rfl⟩
      rw [hdb] at HD HbD
      rw [hdb]
      generalize wr.alloc (.cells #[.int .u8 (dk : Nat), .int .u8 (dy : Nat), .int .u8 (dh : Nat), .int .u8 (dv : Nat)] 66) = w2 at *
      have HFd := Lib.hid (show ∀ w', Below w2.heap.size w2 w' → (w'.cell? ⟨db, 1, none⟩ = some (.int .u8 (dy : Nat)) ∧ w'.cell? ⟨db, 2, none⟩ = some (.int .u8 (dh : Nat))) from fun w' hb => ⟨by rw [(HD.out.on hb).cell]; rfl, by rw [(HD.out.on hb).cell]; rfl⟩)
      have m1 : Int.tmod (dy : Int) 6 = ((dy % 6 : Nat) : Int) := by rw [Int.tmod_eq_emod_of_nonneg (by omega)]; omega
      have m2 : Int.tmod (dh : Int) 7 = ((dh % 7 : Nat) : Int) := by rw [Int.tmod_eq_emod_of_nonneg (by omega)]; omega
      have hy6 : dy % 6 < 6 := Nat.mod_lt _ (by omega)
      have hh7 : dh % 7 < 7 := Nat.mod_lt _ (by omega)
      have hwA : IntKind.u8.wrap (97 + ((dy % 6 : Nat) : Int)) = 97 + ((dy % 6 : Nat) : Int) := by rw [IntKind.wrap_u8]; omega
      have hwB : IntKind.u8.wrap (97 + ((dh % 7 : Nat) : Int)) = 97 + ((dh % 7 : Nat) : Int) := by rw [IntKind.wrap_u8]; omega
      have L1 := letter_cells 97 (dy % 6) (by omega)
      have L2 := letter_cells 97 (dh % 7) (by omega)
      go_cut [13, 14] (fun s13 s14 wx => s13 = .string ⟨(letter 97 (dy % 6)).toArray⟩ ∧ s14 = .string ⟨(letter 97 (dh % 7)).toArray⟩ ∧ Below w2.heap.size w2 wx)
      case first =>
        refine wp_region_plan (.take 0 (.take 1 (.take 2 (.take 3 (.take 6 (.take 7 (.take 8 (.take 9
          (.two 4 (.two 5 (.take 12 (.one 10 (.one 11 (.one 13 .done)))) 10 (.two 5 (.take 12 (.one 11 (.one 13 .done))) 11 (.one 5 (.one 12 (.one 13 .done)))))
               10 (.two 4 (.two 5 (.take 12 (.one 11 (.one 13 .done))) 11 (.one 5 (.one 12 (.one 13 .done)))) 11 (.one 4 (.one 5 (.one 12 (.one 13 .done))))))))))))))
          (Below w2.heap.size w2) (by kernel_rfl) (by kernel_rfl) (by kernel_rfl) (fun c a d v w h => HQp.out c a d v w h) (below_drew (Below.refl _ _)) ?_
        simp only [PlanI.fill, List.getD_cons_zero, List.getD_cons_succ]
        have hS : Below w2.heap.size w2 { w2 with drawn := w2.drawn + 1 } := below_drew (Below.refl _ _)
        generalize ({ w2 with drawn := w2.drawn + 1 } : World) = w3 at *
        generalize hya : dy % 6 = ya at *
        generalize hha : dh % 7 = ha at *
        clear hya hha
        refine plan_take (v := ?_) (by rfl) (fun w' hS => ?_) ?_
        rotate_left
        · obtain ⟨q1, q2⟩ := HFd.out w' hS
          go_simp
          with_reducible rfl
        simp only [Act.put, List.setIfInBounds_toArray, List.set_cons_zero, List.set_cons_succ]
        refine plan_take (v := ?_) (by rfl) (fun w' hS => ?_) ?_
        rotate_left
        · obtain ⟨q1, q2⟩ := HFd.out w' hS
          go_simp
          with_reducible rfl
        simp only [Act.put, List.setIfInBounds_toArray, List.set_cons_zero, List.set_cons_succ]
        refine plan_take (v := ?_) (by rfl) (fun w' hS => ?_) ?_
        rotate_left
        · obtain ⟨q1, q2⟩ := HFd.out w' hS
          go_simp
          with_reducible rfl
        simp only [Act.put, List.setIfInBounds_toArray, List.set_cons_zero, List.set_cons_succ]
        refine plan_take (v := ?_) (by rfl) (fun w' hS => ?_) ?_
        rotate_left
        · obtain ⟨q1, q2⟩ := HFd.out w' hS
          go_simp
          with_reducible rfl
        simp only [Act.put, List.setIfInBounds_toArray, List.set_cons_zero, List.set_cons_succ]
        refine plan_take (v := ?_) (by rfl) (fun w' hS => ?_) ?_
        rotate_left
        · obtain ⟨q1, q2⟩ := HFd.out w' hS
          go_simp
          with_reducible rfl
        simp only [Act.put, List.setIfInBounds_toArray, List.set_cons_zero, List.set_cons_succ]
        refine plan_take (v := ?_) (by rfl) (fun w' hS => ?_) ?_
        rotate_left
        · obtain ⟨q1, q2⟩ := HFd.out w' hS
          go_simp
          with_reducible rfl
        simp only [Act.put, List.setIfInBounds_toArray, List.set_cons_zero, List.set_cons_succ]
        refine plan_take (v := ?_) (by rfl) (fun w' hS => ?_) ?_
        rotate_left
        · obtain ⟨q1, q2⟩ := HFd.out w' hS
          go_simp
          with_reducible rfl
        simp only [Act.put, List.setIfInBounds_toArray, List.set_cons_zero, List.set_cons_succ]
        refine plan_take (v := ?_) (by rfl) (fun w' hS => ?_) ?_
        rotate_left
        · obtain ⟨q1, q2⟩ := HFd.out w' hS
          go_simp
          with_reducible rfl
        simp only [Act.put, List.setIfInBounds_toArray, List.set_cons_zero, List.set_cons_succ]
        refine plan_two (stepP_on (by rfl) (fun K hK => ?_)) (stepP_on (by rfl) (fun K hK => ?_))
        · skip
          have hbt := (Below.refl w3.heap.size w3).alloc (Nat.le_refl _) (.cells #[.int .u8 (97 + (ya : Int))] 5)
          have hrt : RowAt (w3.alloc (.cells #[.int .u8 (97 + (ya : Int))] 5)) w3.heap.size 5 ((letter 97 ya).map bv) := by rw [L1]; exact (Blk.new w3 [.int .u8 (97 + (ya : Int))] 5).row
          have hSn := hS.trans (hbt.mono hS.size)
          go_simp
          refine hK.out _ _ (hS.alloc hS.size _) ?_
          clear hK K hS
          have hS := hSn
          clear hSn
          obtain ⟨bt1, hbt1⟩ : ∃ x, w3.heap.size = x := ⟨_, rfl⟩
          rw [hbt1] at hrt
          try rw [hbt1]
          generalize (w3.alloc (.cells #[.int .u8 (97 + (ya : Int))] 5)) = wt1 at *
          have r1 := Lib.hid hrt
          clear hrt hbt1
          clear hbt
          refine plan_two (stepP_on (by rfl) (fun K hK => ?_)) (stepP_on (by rfl) (fun K hK => ?_))
          · skip
            have hrun : (convert 67 9 (.slice (some ⟨bt1, 0, none⟩) 1 1)).run Try.prog wt1 = .ok (.string ⟨(letter 97 ya).toArray⟩) wt1 := conv_string (l := letter 97 ya) r1.out _ _ 1 Try.underlying67 Try.underlying5 Try.underlying9
            go_simp
            refine hK.out _ _ hS ?_
            clear hK K hrun
            refine plan_take (v := ?_) (by rfl) (fun w' hS => ?_) ?_
            rotate_left
            · go_simp
              with_reducible rfl
            simp only [Act.put, List.setIfInBounds_toArray, List.set_cons_zero, List.set_cons_succ]
            refine plan_step (by rfl) (fun K hK => ?_)
            skip
            have hbt := (Below.refl wt1.heap.size wt1).alloc (Nat.le_refl _) (.cells #[.int .u8 (97 + (ha : Int))] 5)
            have hrt : RowAt (wt1.alloc (.cells #[.int .u8 (97 + (ha : Int))] 5)) wt1.heap.size 5 ((letter 97 ha).map bv) := by rw [L2]; exact (Blk.new wt1 [.int .u8 (97 + (ha : Int))] 5).row
            have hSn := hS.trans (hbt.mono hS.size)
            go_simp
            refine hK.out _ _ (hS.alloc hS.size _) ?_
            clear hK K hS
            have hS := hSn
            clear hSn
            obtain ⟨bt2, hbt2⟩ : ∃ x, wt1.heap.size = x := ⟨_, rfl⟩
            rw [hbt2] at hrt
            try rw [hbt2]
            generalize (wt1.alloc (.cells #[.int .u8 (97 + (ha : Int))] 5)) = wt2 at *
            have r2 := Lib.hid hrt
            clear hrt hbt2
            have r1n := Lib.hid (r1.out.on hbt)
            clear r1
            clear hbt
            refine plan_step (by rfl) (fun K hK => ?_)
            skip
            have hrun : (convert 67 9 (.slice (some ⟨bt2, 0, none⟩) 1 1)).run Try.prog wt2 = .ok (.string ⟨(letter 97 ha).toArray⟩) wt2 := conv_string (l := letter 97 ha) r2.out _ _ 1 Try.underlying67 Try.underlying5 Try.underlying9
            go_simp
            refine hK.out _ _ hS ?_
            clear hK K hrun
            refine plan_step (by rfl) (fun K hK => ?_)
            go_simp
            refine hK.out _ _ hS (plan_done ?_)
            clear hK K
            go_wp2_with fail
            go_meet
            exact ⟨rfl, rfl, hS⟩
          · skip
            have hbt := (Below.refl wt1.heap.size wt1).alloc (Nat.le_refl _) (.cells #[.int .u8 (97 + (ha : Int))] 5)
            have hrt : RowAt (wt1.alloc (.cells #[.int .u8 (97 + (ha : Int))] 5)) wt1.heap.size 5 ((letter 97 ha).map bv) := by rw [L2]; exact (Blk.new wt1 [.int .u8 (97 + (ha : Int))] 5).row
            have hSn := hS.trans (hbt.mono hS.size)
            go_simp
            refine hK.out _ _ (hS.alloc hS.size _) ?_
            clear hK K hS
            have hS := hSn
            clear hSn
            obtain ⟨bt3, hbt3⟩ : ∃ x, wt1.heap.size = x := ⟨_, rfl⟩
            rw [hbt3] at hrt
            try rw [hbt3]
            generalize (wt1.alloc (.cells #[.int .u8 (97 + (ha : Int))] 5)) = wt3 at *
            have r3 := Lib.hid hrt
            clear hrt hbt3
            have r1n := Lib.hid (r1.out.on hbt)
            clear r1
            clear hbt
            refine plan_two (stepP_on (by rfl) (fun K hK => ?_)) (stepP_on (by rfl) (fun K hK => ?_))
            · skip
              have hrun : (convert 67 9 (.slice (some ⟨bt1, 0, none⟩) 1 1)).run Try.prog wt3 = .ok (.string ⟨(letter 97 ya).toArray⟩) wt3 := conv_string (l := letter 97 ya) r1n.out _ _ 1 Try.underlying67 Try.underlying5 Try.underlying9
              go_simp
              refine hK.out _ _ hS ?_
              clear hK K hrun
              refine plan_take (v := ?_) (by rfl) (fun w' hS => ?_) ?_
              rotate_left
              · go_simp
                with_reducible rfl
              simp only [Act.put, List.setIfInBounds_toArray, List.set_cons_zero, List.set_cons_succ]
              refine plan_step (by rfl) (fun K hK => ?_)
              skip
              have hrun : (convert 67 9 (.slice (some ⟨bt3, 0, none⟩) 1 1)).run Try.prog wt3 = .ok (.string ⟨(letter 97 ha).toArray⟩) wt3 := conv_string (l := letter 97 ha) r3.out _ _ 1 Try.underlying67 Try.underlying5 Try.underlying9
              go_simp
              refine hK.out _ _ hS ?_
              clear hK K hrun
              refine plan_step (by rfl) (fun K hK => ?_)
              go_simp
              refine hK.out _ _ hS (plan_done ?_)
              clear hK K
              go_wp2_with fail
              go_meet
              exact ⟨rfl, rfl, hS⟩
            · skip
              have hrun : (convert 67 9 (.slice (some ⟨bt3, 0, none⟩) 1 1)).run Try.prog wt3 = .ok (.string ⟨(letter 97 ha).toArray⟩) wt3 := conv_string (l := letter 97 ha) r3.out _ _ 1 Try.underlying67 Try.underlying5 Try.underlying9
              go_simp
              refine hK.out _ _ hS ?_
              clear hK K hrun
              refine plan_step (by rfl) (fun K hK => ?_)
              skip
              have hrun : (convert 67 9 (.slice (some ⟨bt1, 0, none⟩) 1 1)).run Try.prog wt3 = .ok (.string ⟨(letter 97 ya).toArray⟩) wt3 := conv_string (l := letter 97 ya) r1n.out _ _ 1 Try.underlying67 Try.underlying5 Try.underlying9
              go_simp
              refine hK.out _ _ hS ?_
              clear hK K hrun
              refine plan_step (by rfl) (fun K hK => ?_)
              skip
              go_simp
              refine hK.out _ _ hS ?_
              clear hK K
              refine plan_step (by rfl) (fun K hK => ?_)
              go_simp
              refine hK.out _ _ hS (plan_done ?_)
              clear hK K
              go_wp2_with fail
              go_meet
              exact ⟨rfl, rfl, hS⟩
        · skip
          have hbt := (Below.refl w3.heap.size w3).alloc (Nat.le_refl _) (.cells #[.int .u8 (97 + (ha : Int))] 5)
          have hrt : RowAt (w3.alloc (.cells #[.int .u8 (97 + (ha : Int))] 5)) w3.heap.size 5 ((letter 97 ha).map bv) := by rw [L2]; exact (Blk.new w3 [.int .u8 (97 + (ha : Int))] 5).row
          have hSn := hS.trans (hbt.mono hS.size)
          go_simp
          refine hK.out _ _ (hS.alloc hS.size _) ?_
          clear hK K hS
          have hS := hSn
          clear hSn
          obtain ⟨bt4, hbt4⟩ : ∃ x, w3.heap.size = x := ⟨_, rfl⟩
          rw [hbt4] at hrt
          try rw [hbt4]
          generalize (w3.alloc (.cells #[.int .u8 (97 + (ha : Int))] 5)) = wt4 at *
          have r4 := Lib.hid hrt
          clear hrt hbt4
          clear hbt
          refine plan_two (stepP_on (by rfl) (fun K hK => ?_)) (stepP_on (by rfl) (fun K hK => ?_))
          · skip
            have hbt := (Below.refl wt4.heap.size wt4).alloc (Nat.le_refl _) (.cells #[.int .u8 (97 + (ya : Int))] 5)
            have hrt : RowAt (wt4.alloc (.cells #[.int .u8 (97 + (ya : Int))] 5)) wt4.heap.size 5 ((letter 97 ya).map bv) := by rw [L1]; exact (Blk.new wt4 [.int .u8 (97 + (ya : Int))] 5).row
            have hSn := hS.trans (hbt.mono hS.size)
            go_simp
            refine hK.out _ _ (hS.alloc hS.size _) ?_
            clear hK K hS
            have hS := hSn
            clear hSn
            obtain ⟨bt5, hbt5⟩ : ∃ x, wt4.heap.size = x := ⟨_, rfl⟩
            rw [hbt5] at hrt
            try rw [hbt5]
            generalize (wt4.alloc (.cells #[.int .u8 (97 + (ya : Int))] 5)) = wt5 at *
            have r5 := Lib.hid hrt
            clear hrt hbt5
            have r4n := Lib.hid (r4.out.on hbt)
            clear r4
            clear hbt
            refine plan_two (stepP_on (by rfl) (fun K hK => ?_)) (stepP_on (by rfl) (fun K hK => ?_))
            · skip
              have hrun : (convert 67 9 (.slice (some ⟨bt5, 0, none⟩) 1 1)).run Try.prog wt5 = .ok (.string ⟨(letter 97 ya).toArray⟩) wt5 := conv_string (l := letter 97 ya) r5.out _ _ 1 Try.underlying67 Try.underlying5 Try.underlying9
              go_simp
              refine hK.out _ _ hS ?_
              clear hK K hrun
              refine plan_take (v := ?_) (by rfl) (fun w' hS => ?_) ?_
              rotate_left
              · go_simp
                with_reducible rfl
              simp only [Act.put, List.setIfInBounds_toArray, List.set_cons_zero, List.set_cons_succ]
              refine plan_step (by rfl) (fun K hK => ?_)
              skip
              have hrun : (convert 67 9 (.slice (some ⟨bt4, 0, none⟩) 1 1)).run Try.prog wt5 = .ok (.string ⟨(letter 97 ha).toArray⟩) wt5 := conv_string (l := letter 97 ha) r4n.out _ _ 1 Try.underlying67 Try.underlying5 Try.underlying9
              go_simp
              refine hK.out _ _ hS ?_
              clear hK K hrun
              refine plan_step (by rfl) (fun K hK => ?_)
              go_simp
              refine hK.out _ _ hS (plan_done ?_)
              clear hK K
              go_wp2_with fail
              go_meet
              exact ⟨rfl, rfl, hS⟩
            · skip
              have hrun : (convert 67 9 (.slice (some ⟨bt4, 0, none⟩) 1 1)).run Try.prog wt5 = .ok (.string ⟨(letter 97 ha).toArray⟩) wt5 := conv_string (l := letter 97 ha) r4n.out _ _ 1 Try.underlying67 Try.underlying5 Try.underlying9
              go_simp
              refine hK.out _ _ hS ?_
              clear hK K hrun
              refine plan_step (by rfl) (fun K hK => ?_)
              skip
              have hrun : (convert 67 9 (.slice (some ⟨bt5, 0, none⟩) 1 1)).run Try.prog wt5 = .ok (.string ⟨(letter 97 ya).toArray⟩) wt5 := conv_string (l := letter 97 ya) r5.out _ _ 1 Try.underlying67 Try.underlying5 Try.underlying9
              go_simp
              refine hK.out _ _ hS ?_
              clear hK K hrun
              refine plan_step (by rfl) (fun K hK => ?_)
              skip
              go_simp
              refine hK.out _ _ hS ?_
              clear hK K
              refine plan_step (by rfl) (fun K hK => ?_)
              go_simp
              refine hK.out _ _ hS (plan_done ?_)
              clear hK K
              go_wp2_with fail
              go_meet
              exact ⟨rfl, rfl, hS⟩
          · skip
            have hrun : (convert 67 9 (.slice (some ⟨bt4, 0, none⟩) 1 1)).run Try.prog wt4 = .ok (.string ⟨(letter 97 ha).toArray⟩) wt4 := conv_string (l := letter 97 ha) r4.out _ _ 1 Try.underlying67 Try.underlying5 Try.underlying9
            go_simp
            refine hK.out _ _ hS ?_
            clear hK K hrun
            refine plan_step (by rfl) (fun K hK => ?_)
            skip
            have hbt := (Below.refl wt4.heap.size wt4).alloc (Nat.le_refl _) (.cells #[.int .u8 (97 + (ya : Int))] 5)
            have hrt : RowAt (wt4.alloc (.cells #[.int .u8 (97 + (ya : Int))] 5)) wt4.heap.size 5 ((letter 97 ya).map bv) := by rw [L1]; exact (Blk.new wt4 [.int .u8 (97 + (ya : Int))] 5).row
            have hSn := hS.trans (hbt.mono hS.size)
            go_simp
            refine hK.out _ _ (hS.alloc hS.size _) ?_
            clear hK K hS
            have hS := hSn
            clear hSn
            obtain ⟨bt6, hbt6⟩ : ∃ x, wt4.heap.size = x := ⟨_, rfl⟩
            rw [hbt6] at hrt
            try rw [hbt6]
            generalize (wt4.alloc (.cells #[.int .u8 (97 + (ya : Int))] 5)) = wt6 at *
            have r6 := Lib.hid hrt
            clear hrt hbt6
            have r4n := Lib.hid (r4.out.on hbt)
            clear r4
            clear hbt
            refine plan_step (by rfl) (fun K hK => ?_)
            skip
            have hrun : (convert 67 9 (.slice (some ⟨bt6, 0, none⟩) 1 1)).run Try.prog wt6 = .ok (.string ⟨(letter 97 ya).toArray⟩) wt6 := conv_string (l := letter 97 ya) r6.out _ _ 1 Try.underlying67 Try.underlying5 Try.underlying9
            go_simp
            refine hK.out _ _ hS ?_
            clear hK K hrun
            refine plan_step (by rfl) (fun K hK => ?_)
            skip
            go_simp
            refine hK.out _ _ hS ?_
            clear hK K
            refine plan_step (by rfl) (fun K hK => ?_)
            go_simp
            refine hK.out _ _ hS (plan_done ?_)
            clear hK K
            go_wp2_with fail
            go_meet
            exact ⟨rfl, rfl, hS⟩
      obtain ⟨rfl, rfl, hb3⟩ := hcut
      rename World => w3
      have HB3 := Lib.hid (show Below wr.heap.size wr w3 from (by rw [← hdb] at HbD; exact HbD.out.trans (hb3.mono HbD.out.size)))
      have hD3 := HD.out.on hb3
      have d0 : w3.cell? ⟨db, 0, none⟩ = some (.int .u8 (dk : Nat)) := by rw [hD3.cell]; rfl
      have HD3 := Lib.hid hD3
      clear hb3 hD3 HFd m1 m2 hwA hwB L1 L2 HD HbD
      have m3 : Int.tmod (dk : Int) 4 = ((dk % 4 : Nat) : Int) := by rw [Int.tmod_eq_emod_of_nonneg (by omega)]; omega
      have hk4 : dk % 4 < 4 := Nat.mod_lt _ (by omega)
      have HE10 := Lib.hid (show ((10 + i : Nat) : Int) = 10 + (i : Int) by omega)
      have hcall := callM_any (10 + i) ((k : Int) + 1) (1 + ((dk % 4 : Nat) : Int)) (letter 97 (dy % 6)) [] w3
      rw [HE10.out] at hcall
      have HCall := Lib.hid hcall
      clear hcall
      generalize hkk : dk % 4 = kk at *
      go_wp2_with fail
      refine HCall.out.mono ?_
      rintro e w4 ⟨rfl, hb4⟩
      have HB4 := Lib.hid (HB3.out.trans (hb4.mono HB3.out.size))
      have HD4 := Lib.hid (HD3.out.on hb4)
      clear hb4 d0 m3 HCall HD3 HB3
      obtain ⟨a4, c4, rfl⟩ := own_slice HRun.out.made
      obtain ⟨ln, hln⟩ : ∃ x, (X0 ++ gs).length = x := ⟨_, rfl⟩
      rw [hln] at HRun ⊢
      have HLn := Lib.hid hln
      clear hln
      go_upto_region 17 with ((with_reducible refine wpList_storeM rfl _ _ rfl _ (mkC (10 + i) ((k : Int) + 1) (1 + (kk : Int)) (letter 97 (dy % 6)) []) ?_ ?_ ?_); rfl; rfl)
      have hY := Blk.new w4 (mdCells (mkC (10 + i) ((k : Int) + 1) (1 + (kk : Int)) (letter 97 (dy % 6)) [])) 37
      have hb := (Below.refl w4.heap.size w4).alloc (Nat.le_refl _) (.cells (mdCells (mkC (10 + i) ((k : Int) + 1) (1 + (kk : Int)) (letter 97 (dy % 6)) [])).toArray 37)
      obtain ⟨xb, hxb⟩ : ∃ x, w4.heap.size = x := ⟨_, rfl⟩
      have hxl : wr.heap.size ≤ xb := by rw [← hxb]; exact HB4.out.size
      have hdx : db < xb := by rw [← hxb]; exact HD4.out.lt
      have HB5 := Lib.hid (HB4.out.trans (hb.mono HB4.out.size))
      have HD5 := Lib.hid (HD4.out.on hb)
      rw [hxb] at hY
      rw [hxb]
      generalize w4.alloc (.cells (mdCells (mkC (10 + i) ((k : Int) + 1) (1 + (kk : Int)) (letter 97 (dy % 6)) [])).toArray 37) = w5 at *
      clear hb hxb HB4 HD4
      have f1 := hY.free 14
      have g1 : w5.cell? ⟨xb, 14, none⟩ = some (.int .i64 ((k : Int) + 1)) := by rw [hY.cell]; rfl
      have hY2 := hY.set 14 (.int .i64 ln)
      have f2 := hY2.free 15
      have g2x : (w5.setCell ⟨xb, 14, none⟩ (.int .i64 ln)).cell? ⟨xb, 15, none⟩ = some (.int .i64 ((k : Int) + 1)) := by rw [hY2.cell]; rfl
      have hY3 : Blk ((w5.setCell ⟨xb, 14, none⟩ (.int .i64 ln)).setCell ⟨xb, 15, none⟩ (.int .i64 ln)) xb (mdCells ⟨10 + i, (k : Int) + 1, 1 + (kk : Int), 10 + i, letter 97 (dy % 6), [], [], true, 10 + i, (k : Int) + 1, 0, false, [], none, 0, 0, ln, ln⟩) 37 := hY2.set 15 (.int .i64 ln)
      have hm3 : Mod [xb] w5 ((w5.setCell ⟨xb, 14, none⟩ (.int .i64 ln)).setCell ⟨xb, 15, none⟩ (.int .i64 ln)) := ((Mod.refl _ _).setCell _ _ (.inl (by simp))).setCell _ _ (.inl (by simp))
      have HB6 := Lib.hid (HB5.out.trans (hm3.below (B := wr.heap.size) (fun x hx => by simp at hx; omega) HB5.out.size))
      have HD6 := Lib.hid (HD5.out.mod hm3 (by simp; omega))
      have HX6 := Lib.hid hY3
      have g3x : ((w5.setCell ⟨xb, 14, none⟩ (.int .i64 ln)).setCell ⟨xb, 15, none⟩ (.int .i64 ln)).cell? ⟨xb, 2, none⟩ = some (.int .i64 (1 + (kk : Int))) := by rw [hY3.cell]; rfl
      clear hY hY2 hY3 hm3 HB5 HD5
      go_upto_block 4 with fail
      clear f1 g1 f2 g2x g3x
      generalize (w5.setCell ⟨xb, 14, none⟩ (.int .i64 ln)).setCell ⟨xb, 15, none⟩ (.int .i64 ln) = w6 at *
      have hWx : W.length ≤ 1000 := by have := HSo.out.few; omega
      go_cut [] (fun wx => CallDone B w wx xb B (.slice a4 ln c4) u5 C (X0 ++ gs) Z0 M W eb (10 + i) ((k : Int) + 1) (letter 97 (dy % 6)))
      case first =>
        refine switch_any w wr w6 B i k ln eb db xb dk dy dh dv kk l C X0 gs Z0 M W ea ec a4 c4 u5 HX6.out HB6.out HD6.out HRun.out HTx.out HB1.out hxl hdx hMl hLet hlm hlk6 hWx k4 hk4 (fun _ _ _ _ _ _ _ _ _ _ _ _ _ _ _ _ _ _ _ _ _ _ _ _ _ _ _ _ _ _ _ _ _ _ _ _ _ _ _ _ _ _ _ _ _ _ _ _ _ _ _ _ _ _ _ _ _ _ _ _ _ _ _ _ _ _ _ _ _ _ _ _ _ _ _ _ _ _ _ _ _ _ _ _ _ _ _ _ _ _ _ _ _ _ _ wx h => ?_)
        go_wp2_with fail
        go_meet
        exact h
      unfold CallDone at hcut
      obtain ⟨qx, l9, a9, c9, hXq, hCall, hR9, hT9, hright, q1, q2, q3, q4, q5, hcold, hb9⟩ := hcut
      rename World => w8
      have hld : MdCellsAt w8 xb 0 qx.1 := by refine ⟨?_, ?_, ?_, ?_, ?_, ?_, ?_, ?_, ?_, ?_, ?_, ?_, ?_, ?_, ?_, ?_⟩ <;> (rw [hXq.cell]; rfl)
      obtain ⟨v', w9, hrun, hR10, hm10, hbl10⟩ := hR9.listed (by have := HLn.out; have := HSo.out.len; rw [List.length_append] at *; omega) qx hCall (prV qx.1).ownBlock.toList (fun x hx => by simp [hx]) (fun x hx => hcold x (by simpa using hx)) 24
      have hT10 := hT9.mod hR9.hot hm10 (fun x hx => .inr ⟨1, by omega, by rw [hR9.l1]; simpa using hx⟩)
      have hT11 : TxAt B w9 (l9.set 1 v'.ownBlock) eb (10 + i) a9 c9 (rightW W qx) := ⟨by simp [hT10.len], by rw [List.getElem?_set_ne (by omega)]; exact hT10.l3, by rw [List.getElem?_set_ne (by omega)]; exact hT10.l4, hT10.blk, hT10.ops, hT10.ok⟩
      have hb10 : Below B w w9 := hb9.trans (hm10.below (fun x hx => (hR9.hot.lt 1 x (by rw [hR9.l1]; simpa using hx)).1) hR9.big)
      have hSo := HSo.out
      have hSo2 : SoFar (10 + i) (k + 1) M0 (gs ++ [qx]) (rightM M qx) (rightW W qx) :=
        ⟨by simp [hSo.len], fun p hp => by
            rcases List.mem_append.1 hp with hp | hp
            · exact hSo.each p hp
            · simp only [List.mem_singleton] at hp; subst hp; exact ⟨q1, q3, q4⟩,
          List.pairwise_append.2 ⟨hSo.asc, by simp, fun p hp r hr => by
            simp only [List.mem_singleton] at hr; subst hr
            have := hSo.top p hp
            unfold nK at *; omega⟩, fun p hp => by
            rcases List.mem_append.1 hp with hp | hp
            · have := hSo.top p hp; push_cast; omega
            · simp only [List.mem_singleton] at hp; subst hp; unfold nK; push_cast; omega,
          runZ_snoc qx hSo.run hright, by have := rightW_length W qx; have := hSo.few; omega⟩
      have HR10 := Lib.hid hR10
      have HT11 := Lib.hid hT11
      have HB10 := Lib.hid hb10
      have HSo2 := Lib.hid hSo2
      have HLet2 := Lib.hid (hLet.right qx (dy % 6) hy6 q5)
      have HMl2 := Lib.hid (show (rightM M qx).length ≤ i * 6 + (k + 1) by have := rightM_length HRun.out.map.asc qx; omega)
      have HLd := Lib.hid hld
      have HRn := Lib.hid hrun
      clear hXq hCall hR9 hT9 hright q1 q2 q3 q4 q5 hcold hb9 hld hrun hR10 hm10 hbl10 hT10 hT11 hb10 hSo hSo2
      go_wp2_with (first | ((with_reducible refine wpList_loadM rfl _ rfl _ _ _ HLd.out ?_ ?_); rfl) | ((with_reducible refine wpList_buildM1 rfl _ rfl qx.1 ?_ ?_); rfl) | (at_builtin; (with_reducible refine wpList_append_run rfl _ _ _ rfl _ _ _ _ ?_ ?_ HRn.out ?_); rfl; rfl))
      refine ⟨?_, ?measure⟩
      · refine ⟨_, _, _, _, _, _, _, _, _, _, _, _, _, _, _, _, _, _, _, _, _, _, _, _, _, _, _, _, _, _, _, _, _, _, _, _, _, _, _, _, _, _, _, _, _, _, _, _, _, _, _, _, _, _, _, _, _, _, _, _, _, _, _, _, _, _, _, _, _, _, _, _, _, _, _, _, _, _, _, _, _, _, _, _, _, _, _, _, _, _, _, _, _, _, _, _, _, _, _, _, _, _, _, _, _, _, _, _, _, _, _, _, _, _, _, _, _, _, _, _, _, _, _, _, _, _, _, _, _, _, _, _, _, _, _, _, _, _, _, _, _, _, _, _, _, _, _, _, _, _, _, _, _, _, _, _, _, _, ?_, rfl⟩
        exact ⟨k + 1, _, _, gs ++ [qx], _, _, _, _, by omega, by omega, by go_num, by go_num, by rw [← List.append_assoc]; exact HR10.out, HT11.out, HSo2.out, HMl2.out, HLet2.out, HB10.out⟩
      case measure => simp [intOf]; omega
    · have HDone := Lib.hid (show DeedsDone B w u5 X0 Z0 M0 i eb u4 (.int .i64 (k : Int)) wr from ⟨u4, k, l, C, gs, M, W, ea, ec, rfl, hk6, rfl, hR, hT, hF, hMl, hLet, hb⟩)
      clear hR hT hF hb
      by_cases hkn : k < q.1.n
      · have hkl : (k : Int) < (q.1.n : Int) := by omega
        have hk6l : ¬ (k : Int) < 6 := by omega
        go_wp2_with fail
        exact HK.out _ _ _ _ _ _ _ _ _ _ _ _ _ _ _ _ _ _ _ _ _ _ _ _ _ _ _ _ _ _ _ _ _ _ _ _ _ _ _ _ _ _ _ _ _ _ _ _ _ _ _ _ _ _ _ _ _ _ _ _ _ _ _ _ _ _ _ _ _ _ _ _ _ _ _ _ _ _ _ _ _ _ _ _ _ _ _ _ _ _ _ _ _ _ _ _ _ _ _ _ _ _ _ _ _ _ _ _ _ _ _ _ _ _ _ _ _ _ _ _ _ _ _ _ _ _ _ _ _ _ _ _ _ _ _ _ _ _ _ _ _ _ _ _ _ _ _ _ _ _ _ _ _ _ _ _ _ _ _ HDone.out
      · have hkl : ¬ (k : Int) < (q.1.n : Int) := by omega
        go_wp2_with fail
        exact HK.out _ _ _ _ _ _ _ _ _ _ _ _ _ _ _ _ _ _ _ _ _ _ _ _ _ _ _ _ _ _ _ _ _ _ _ _ _ _ _ _ _ _ _ _ _ _ _ _ _ _ _ _ _ _ _ _ _ _ _ _ _ _ _ _ _ _ _ _ _ _ _ _ _ _ _ _ _ _ _ _ _ _ _ _ _ _ _ _ _ _ _ _ _ _ _ _ _ _ _ _ _ _ _ _ _ _ _ _ _ _ _ _ _ _ _ _ _ _ _ _ _ _ _ _ _ _ _ _ _ _ _ _ _ _ _ _ _ _ _ _ _ _ _ _ _ _ _ _ _ _ _ _ _ _ _ _ _ _ _ HDone.out
end Go.Proofs.Ytffianjbljgnaaa
