/-
  SpecRuns: transactions that run one behind the other are serial, in whatever order they are listed; a read that is told otherwise is told. No condition but sizes that a machine has. (Printed by gen_runs.py.)
-/
import Derived.Test.YtffianjbljgnaaaRunsP
import Derived.Test.YtffianjbljgnaaaWork27
import Derived.Test.YtffianjbljgnaaaEqs
namespace Go.Proofs.Ytffianjbljgnaaa
set_option linter.unusedVariables false
set_option linter.unusedSimpArgs false
open Go.RowKit Go.Maps

theorem min10_run (n : Nat) (w : World) : (Builtin.min_ #[3, 3] 3 #[.int .i64 (n : Nat), .int .i64 10]).run Try.prog w = .ok (.int .i64 (min n 10 : Nat)) w := by
  rw [run_min_int2, show (if (10 : Int) < n then (10 : Int) else n) = ((min n 10 : Nat) : Int) from by split <;> omega]
theorem add_z (l : Txt) : (⟨l.toArray⟩ : ByteArray) ++ ⟨#[122]⟩ = ⟨(l ++ [122]).toArray⟩ := by
  apply ByteArray.ext
  rw [ByteArray.data_append]
  simp
set_option maxRecDepth 100000 in
set_option maxHeartbeats 16000000 in
theorem runs_any (w : World) (a : Option Addr) (n c : Nat) (z : List DZ) (h : DeedsAt w a n c z) (hn : n ≤ 9223372036854775807) (t0 t1 ot : Nat) (ht0 : t0 < 256) (ht1 : t1 < 256) (hot : ot < 256) :
    Calls Try.prog 3 #[.slice a n c, .agg #[.int .u8 (t0 : Nat), .int .u8 (t1 : Nat)], .int .u8 (ot : Nat)] w fun e w' => e = .returned (.bool true) ∧ Below w.heap.size w w' := by
  have hb0 := (Below.refl w.heap.size w).alloc (Nat.le_refl _) (.cells #[.int .u8 (t0 : Nat), .int .u8 (t1 : Nat)] 23)
  have hT : Blk (w.alloc (.cells #[.int .u8 (t0 : Nat), .int .u8 (t1 : Nat)] 23)) w.heap.size [.int .u8 (t0 : Nat), .int .u8 (t1 : Nat)] 23 := Blk.new w [.int .u8 (t0 : Nat), .int .u8 (t1 : Nat)] 23
  have HH := Lib.hid (h.on hb0)
  have HT := Lib.hid hT
  have HB0 := Lib.hid hb0
  clear h hb0 hT
  go_enter Try.func3, Try.ntmps3
  go_upto_region 1 with fail
  obtain ⟨tb, htb⟩ : ∃ x, w.heap.size = x := ⟨_, rfl⟩
  rw [htb] at HT
  rw [htb]
  generalize (w.alloc (.cells #[.int .u8 (t0 : Nat), .int .u8 (t1 : Nat)] 23)) = w0 at *
  go_wp2_with fail
  refine (run_any w0 a n c z HH.out hn).mono ?_
  rintro e w1 ⟨mb, v4, v5, l, C, X, Z, M, rfl, hR, hH, hb1⟩
  obtain ⟨a4, c4, rfl, hMd⟩ := hR.madeAt
  obtain ⟨a5, c5, rfl, hEn⟩ := hR.entsAt
  have HR := Lib.hid hR
  have HH1 := Lib.hid hH
  have HMd := Lib.hid hMd
  have HEn := Lib.hid hEn
  have HB1 := Lib.hid (HB0.out.trans (hb1.mono HB0.out.size))
  have hw0 := HB0.out.size
  have HT1 := Lib.hid (HT.out.on hb1)
  have hXl : X.length ≤ 70 := by have := hH.length.1; omega
  have hZl : Z.length ≤ 10 := by have := hH.length.2; rw [List.length_map] at this; omega
  have HOk := Lib.hid hR.madeOk
  have HOps := Lib.hid (show ∀ q ∈ Z, q.2.ops.length ≤ 1000 from fun q hq => Nat.le_trans (hH.ops q.2 (List.mem_map_of_mem hq)) (by omega))
  have HTs := Lib.hid (show ∀ q ∈ Z, q.1.ts = q.2.ts from fun q hq => (hR.eachZ q hq).ts)
  have HS1 := Lib.hid (serial_any w1 a5 Z.length c5 Z hEn (by omega) HOps.out a4 X.length c4 X hMd (by omega) HOk.out (by rw [hH.comm_length _ X (List.Perm.refl _)]; show _ ≤ 12; omega) (hH.boundC X (List.Perm.refl _)))
  have HV1 := Lib.hid (serial_hist hH X (List.Perm.refl _) Z HTs.out (List.Perm.refl _) (Z.map (·.1.ts)))
  clear hR hH hMd hEn hb1 HH HT HB0
  go_wp2_with fail
  refine HS1.out.mono ?_
  rintro e w2 ⟨rfl, hb2⟩
  rw [HV1.out]
  have HM2 := Lib.hid (HMd.out.on hb2)
  have HE2 := Lib.hid (HEn.out.on hb2)
  have HB2 := Lib.hid (HB1.out.trans (hb2.mono HB1.out.size))
  have HT2 := Lib.hid (HT1.out.on hb2)
  have HR2 := Lib.hid (HR.out.on hb2)
  clear hb2 HS1 HV1 HMd HEn HB1 HT1 HR
  go_wp2_with fail
  go_loopw [9, 11] (fun s9 s11 wr => ∃ i : Nat, i ≤ X.length ∧ s11 = .int .i64 i ∧ wr.ownsRow w2.heap.size 37 16 s9 i (mdsCells (((turnL X.reverse t0).take i).map (·.1))) ∧ Below w2.heap.size w2 wr) (fun _ s11 _ => X.length - (intOf s11).toNat)
  case atStart => exact ⟨0, by omega, rfl, World.ownsRow_nil _ _ _ _, Below.refl _ _⟩
  case round =>
    obtain ⟨i, hi, rfl, hO, hb⟩ := hrel
    by_cases hlt : i < X.length
    · have hil : (i : Int) < (X.length : Int) := by omega
      obtain ⟨r, hr⟩ : ∃ r, (i + t0) % X.length = r := ⟨_, rfl⟩
      have hrl : r < X.length := by rw [← hr]; exact Nat.mod_lt _ (by omega)
      have hj : X.length - 1 - r < X.length := by omega
      obtain ⟨q, g, o, hq, hqm, rfl, hg, hcell⟩ := (HM2.out.on hb).row hj
      have hnx := turnL_take X i t0 hlt q (by rw [hr]; exact hq)
      have HNext := Lib.hid (show mdsCells (((turnL X.reverse t0).take i).map (·.1)) ++ mdsCells [q.1] = mdsCells (((turnL X.reverse t0).take (i + 1)).map (·.1)) by rw [hnx, List.map_append, mds_append]; rfl)
      have HLd := Lib.hid hcell
      have hm1 : Int.tmod ((i : Int) + (t0 : Int)) (X.length : Int) = (r : Int) := by rw [← hr, Int.natCast_emod, Int.tmod_eq_emod_of_nonneg (by omega)]; push_cast; rfl
      have hnz : ¬ (X.length : Int) = 0 := by omega
      have hjx : (X.length : Int) - 1 - (r : Int) = ((X.length - 1 - r : Nat) : Int) := by omega
      have c0 : wr.cell? ⟨tb, 0, none⟩ = some (.int .u8 (t0 : Nat)) := by rw [(HT2.out.on hb).cell]; rfl
      have hbn := (Below.refl wr.heap.size wr).alloc (Nat.le_refl _) (.cells (mdsCells [q.1]).toArray 37)
      have hN : Blk (wr.alloc (.cells (mdsCells [q.1]).toArray 37)) wr.heap.size (mdsCells [q.1]) 37 := Blk.new wr (mdsCells [q.1]) _
      obtain ⟨v', w', hrun, hown', hmod, hblk⟩ := own_append 24 37 24 _ 16 176 Try.underlying24 bytes_made rfl (by decide) (by decide) (hO.alloc (.cells (mdsCells [q.1]).toArray 37))
        (by omega) (by have := hb.size; simp; omega) ⟨wr.heap.size, 0, none⟩ 1 1 (mdsCells [q.1]) (by omega) (by omega) rfl
        (fun k u hk => by rw [addr_add', Nat.zero_add, hN.cell]; exact hk) (mds_one _)
      rw [HNext.out] at hown'
      have HO3 := Lib.hid hown'
      have HLt := hO.lt
      have HB3 := Lib.hid (show Below w2.heap.size w2 w' from hb.trans (((Mod.of_below hbn).trans hmod).below (fun x hx => (HLt x (by simpa using hx)).1) hb.size))
      have HRn := Lib.hid hrun
      clear hO hb hbn hN hown' hmod hblk hrun hq hqm hcell hnx HLt hr
      go_wp2_with (first | ((with_reducible refine wpList_loadM rfl _ rfl _ _ _ HLd.out ?_ ?_); rfl) | ((with_reducible refine wpList_buildM1 rfl _ rfl q.1 ?_ ?_); rfl) | (at_builtin; (with_reducible refine wpList_append_run rfl _ _ _ rfl _ _ _ _ ?_ ?_ HRn.out ?_); rfl; rfl))
      go_roundw
      case rel => exact ⟨i + 1, by omega, by go_num, HO3.out, HB3.out⟩
      case measure => simp [intOf]; omega
    · have hge : ¬ (i : Int) < (X.length : Int) := by omega
      have hiX : i = X.length := by omega
      subst hiX
      have hO' := hO
      rw [List.take_of_length_le (by rw [turnL_length, List.length_reverse]; exact Nat.le_refl _)] at hO'
      obtain ⟨a9, c9, rfl⟩ := own_slice hO'
      have hMd := HM2.out.on hb
      have hper : (turnL X.reverse t0).Perm X := (turnL_perm _ _).trans X.reverse_perm
      have HY := Lib.hid (show MadeAt wr a9 X.length c9 (turnL X.reverse t0) from ⟨by rw [turnL_length, List.length_reverse], (own_rows hO').1, fun q hq => hMd.each q (hper.mem_iff.1 hq)⟩)
      have HPer := Lib.hid hper
      have HM3 := Lib.hid hMd
      have HE3 := Lib.hid (HE2.out.on hb)
      have HB3 := Lib.hid (HB2.out.trans (hb.mono HB2.out.size))
      have HT3 := Lib.hid (HT2.out.on hb)
      have HR3 := Lib.hid (HR2.out.on hb)
      generalize turnL X.reverse t0 = Y at *
      clear hO hO' hMd hper hb HM2 HE2 HB2 HT2 HR2
      go_wp2_with fail
      generalize wr = wa at *
      go_loopw [10, 12] (fun s10 s12 wr => ∃ i : Nat, i ≤ Z.length ∧ s12 = .int .i64 i ∧ wr.ownsRow wa.heap.size 40 3 s10 i (entsCells (((turnL Z.reverse t1).take i).map (·.1))) ∧ Below wa.heap.size wa wr) (fun _ s12 _ => Z.length - (intOf s12).toNat)
      case atStart => exact ⟨0, by omega, rfl, World.ownsRow_nil _ _ _ _, Below.refl _ _⟩
      case round =>
        obtain ⟨i, hi, rfl, hO, hb⟩ := hrel
        by_cases hlt : i < Z.length
        · have hil : (i : Int) < (Z.length : Int) := by omega
          obtain ⟨r, hr⟩ : ∃ r, (i + t1) % Z.length = r := ⟨_, rfl⟩
          have hrl : r < Z.length := by rw [← hr]; exact Nat.mod_lt _ (by omega)
          have hj : Z.length - 1 - r < Z.length := by omega
          obtain ⟨q, g, o, hq, hqm, rfl, hg, d0, d1, d2⟩ := (HE3.out.on hb).row hj
          obtain ⟨⟨q1, q2, q3, q4, q5⟩, qe⟩ := q
          simp only at d0 d1 d2
          have hnx := turnL_take Z i t1 hlt _ (by rw [hr]; exact hq)
          have HNext := Lib.hid (show entsCells (((turnL Z.reverse t1).take i).map (·.1)) ++ entsCells [⟨q1, q2, q3, q4, q5⟩] = entsCells (((turnL Z.reverse t1).take (i + 1)).map (·.1)) by rw [hnx, List.map_append, ents_append]; rfl)
          have hm1 : Int.tmod ((i : Int) + (t1 : Int)) (Z.length : Int) = (r : Int) := by rw [← hr, Int.natCast_emod, Int.tmod_eq_emod_of_nonneg (by omega)]; push_cast; rfl
          have hnz : ¬ (Z.length : Int) = 0 := by omega
          have hjx : (Z.length : Int) - 1 - (r : Int) = ((Z.length - 1 - r : Nat) : Int) := by omega
          have c0 : wr.cell? ⟨tb, 1, none⟩ = some (.int .u8 (t1 : Nat)) := by rw [(HT3.out.on hb).cell]; rfl
          have hbn := (Below.refl wr.heap.size wr).alloc (Nat.le_refl _) (.cells #[.int .u64 (q1 : Nat), .int .u64 (q2 : Nat), .slice q3 q4 q5] 40)
          have hN : Blk (wr.alloc (.cells #[.int .u64 (q1 : Nat), .int .u64 (q2 : Nat), .slice q3 q4 q5] 40)) wr.heap.size (entsCells [⟨q1, q2, q3, q4, q5⟩]) 40 := Blk.new wr (entsCells [⟨q1, q2, q3, q4, q5⟩]) _
          obtain ⟨v', w', hrun, hown', hmod, hblk⟩ := own_append 25 40 25 _ 3 40 Try.underlying25 info_entry rfl (by decide) (by decide) (hO.alloc (.cells #[.int .u64 (q1 : Nat), .int .u64 (q2 : Nat), .slice q3 q4 q5] 40))
            (by omega) (by have := hb.size; simp; omega) ⟨wr.heap.size, 0, none⟩ 1 1 (entsCells [⟨q1, q2, q3, q4, q5⟩]) (by omega) (by omega) rfl
            (fun k u hk => by rw [addr_add', Nat.zero_add, hN.cell]; exact hk) (ents_one _)
          rw [HNext.out] at hown'
          have HO3 := Lib.hid hown'
          have HLt := hO.lt
          have HBx := Lib.hid (show Below wa.heap.size wa w' from hb.trans (((Mod.of_below hbn).trans hmod).below (fun x hx => (HLt x (by simpa using hx)).1) hb.size))
          have HRn := Lib.hid hrun
          clear hO hb hbn hN hown' hmod hblk hrun hq hqm hnx HLt hr
          go_wp2_with (at_builtin; (with_reducible refine wpList_append_run rfl _ _ _ rfl _ _ _ _ ?_ ?_ HRn.out ?_); rfl; rfl)
          go_roundw
          case rel => exact ⟨i + 1, by omega, by go_num, HO3.out, HBx.out⟩
          case measure => simp [intOf]; omega
        · have hge : ¬ (i : Int) < (Z.length : Int) := by omega
          have hiX : i = Z.length := by omega
          subst hiX
          have hO' := hO
          rw [List.take_of_length_le (by rw [turnL_length, List.length_reverse]; exact Nat.le_refl _)] at hO'
          obtain ⟨a10, c10, rfl⟩ := own_slice hO'
          have hEn := HE3.out.on hb
          have hpe : (turnL Z.reverse t1).Perm Z := (turnL_perm _ _).trans Z.reverse_perm
          have HBk := Lib.hid (show EntsAt wr a10 Z.length c10 (turnL Z.reverse t1) from ⟨by rw [turnL_length, List.length_reverse], (own_rows hO').1, fun q hq => hEn.each q (hpe.mem_iff.1 hq)⟩)
          have HPe := Lib.hid hpe
          have HY4 := Lib.hid (HY.out.on hb)
          have HM4 := Lib.hid (HM3.out.on hb)
          have HE4 := Lib.hid hEn
          have HB4 := Lib.hid (HB3.out.trans (hb.mono HB3.out.size))
          have HR4 := Lib.hid (HR3.out.on hb)
          generalize turnL Z.reverse t1 = U at *
          clear hO hO' hEn hpe hb HY HM3 HE3 HB3 HT3 HR3
          generalize wr = wb at *
          have HS := Lib.hid (serial_any wb a10 Z.length c10 U HBk.out (by omega) (fun q hq => HOps.out q (HPe.out.mem_iff.1 hq)) a9 X.length c9 Y HY4.out (by omega) ⟨fun q hq => HOk.out.pn q (HPer.out.mem_iff.1 hq), fun q hq => HOk.out.kind q (HPer.out.mem_iff.1 hq)⟩
            (by rw [HH1.out.comm_length _ Y (HPer.out.map _)]; show _ ≤ 12; omega) (HH1.out.boundC Y (HPer.out.map _)))
          have HV := Lib.hid (serial_hist HH1.out Y HPer.out U (fun q hq => HTs.out q (HPe.out.mem_iff.1 hq)) (HPe.out.map _) (U.map (·.1.ts)))
          have HA1 := Lib.hid (show ∀ w', Below wb.heap.size wb w' → Calls Try.prog 10 #[.slice a10 Z.length c10] w' (PairsEnd (runL [] (Z.map (·.2))) w') from fun w' hb => by
            rw [← after_hist HH1.out (HPe.out.map (·.2))]
            exact after_any w' a10 Z.length c10 U (HBk.out.on hb) (by show _ < 20; omega) (fun q hq => HOps.out q (HPe.out.mem_iff.1 hq)))
          have HA2 := Lib.hid (show ∀ w', Below wb.heap.size wb w' → Calls Try.prog 10 #[.slice a5 Z.length c5] w' (PairsEnd (runL [] (Z.map (·.2))) w') from fun w' hb => by
            rw [← after_hist HH1.out (List.Perm.refl _)]
            exact after_any w' a5 Z.length c5 Z (HE4.out.on hb) (by show _ < 20; omega) HOps.out)
          have HC := Lib.hid (show ∀ w', Below wb.heap.size wb w' → Calls Try.prog 11 #[.slice a9 X.length c9, .slice none 0 0] w' (CommEnd (commL [] Y) w') from fun w' hb =>
            comm_any w' a9 X.length c9 Y (HY4.out.on hb) (by omega) none 0 0 [] ⟨rfl, RowsAt.nil _ _, by simp⟩ (by omega) (by rw [HH1.out.comm_length _ Y (HPer.out.map _)]; show _ ≤ 12; omega))
          have HCl := Lib.hid (HH1.out.comm_length [] Y (HPer.out.map _))
          have HAl := Lib.hid (show (runL [] (Z.map (·.2))).length ≤ 10000000 by have := HH1.out.after_length; omega)
          clear HBk HY4 HPe
          generalize runL [] (Z.map (·.2)) = PP at *
          go_wp2_with fail
          refine HS.out.mono ?_
          rintro e wc ⟨rfl, hbc⟩
          rw [HV.out]
          have HBc := Lib.hid hbc
          clear hbc HS HV
          go_wp2_with fail
          refine (HA1.out wc HBc.out).mono ?_
          rintro e wd ⟨p1, d1, rfl, hp1, hq1, hbd⟩
          have HP1 := Lib.hid hp1
          have HBd := Lib.hid (HBc.out.trans (hbd.mono HBc.out.size))
          clear hp1 hq1 hbd HBc
          go_wp2_with fail
          refine (HA2.out wd HBd.out).mono ?_
          rintro e we ⟨p2, d2, rfl, hp2, hq2, hbe⟩
          have HEq := Lib.hid (pairsEq_any we p1 p2 PP.length d1 PP.length d2 PP PP (HP1.out.on hbe) hp2 rfl rfl HAl.out)
          have HBe := Lib.hid (HBd.out.trans (hbe.mono HBd.out.size))
          clear hp2 hq2 hbe HBd HP1
          go_wp2_with fail
          refine HEq.out.mono ?_
          rintro e wf ⟨rfl, hbf⟩
          rw [decide_eq_true True.intro]
          have HBf := Lib.hid (HBe.out.trans (hbf.mono HBe.out.size))
          clear hbf HBe HEq
          have hmin := min10_run n
          go_wp2_with fail
          refine (HC.out wf HBf.out).mono ?_
          rintro e wg ⟨p3, d3, rfl, hp3, hq3, hbg⟩
          rw [HCl.out]
          have HBg := Lib.hid (HBf.out.trans (hbg.mono HBf.out.size))
          clear hp3 hq3 hbg HBf
          have HM5 := Lib.hid (HM4.out.on HBg.out)
          have HE5 := Lib.hid (HE4.out.on HBg.out)
          have HR5 := Lib.hid (HR4.out.on HBg.out)
          have HB5 := Lib.hid (HB4.out.trans (HBg.out.mono HB4.out.size))
          clear HM4 HE4 HR4 HB4 HA1 HA2 HC
          go_upto_region 16 with fail
          clear hmin
          by_cases hX0 : X.length = 0
          · have hX0i : (X.length : Int) = 0 := by omega
            go_wp2_with fail
            refine (works_any wg).mono ?_
            rintro e wh ⟨rfl, hbh⟩
            have HE := Lib.hid (HB5.out.trans (hbh.mono HB5.out.size))
            go_wp2_with fail
            go_ret
            exact ⟨rfl, HE.out⟩
          · have hX0i : ¬ (X.length : Int) = 0 := by omega
            obtain ⟨kk, hkk⟩ : ∃ r, ot % X.length = r := ⟨_, rfl⟩
            have hkl : kk < X.length := by rw [← hkk]; exact Nat.mod_lt _ (by omega)
            have hm1 : Int.tmod (ot : Int) (X.length : Int) = (kk : Int) := by rw [← hkk, Int.natCast_emod, Int.tmod_eq_emod_of_nonneg (by omega)]
            have hm2 : (ot : Int) % (X.length : Int) = (kk : Int) := by rw [← hkk, Int.natCast_emod]
            obtain ⟨q, g, o, hq, hqm, heqa, hg, d0, d1, d2, d3, d4, d5, d6, d7, d8, d9, d10, d11, d12, d13, d14, d15⟩ := HM5.out.row hkl
            obtain ⟨g', cap', rest, eq1, hg1, hc1, hc2, hblk⟩ := owns_blk HR5.out.made (by omega)
            have eqa : g = g' ∧ o = 0 := by rw [heqa] at eq1; simp at eq1; exact eq1.1
            obtain ⟨rfl, rfl⟩ := eqa
            subst heqa
            rw [Nat.zero_add] at d2 d12 d13
            have HQ := Lib.hid hq
            have HBlk := Lib.hid hblk
            clear hkk eq1 hq hblk d0 d1 d3 d4 d5 d6 d7 d8 d9 d10 d11 d14 d15
            by_cases hk1 : q.1.kind = 1
            · rw [hk1] at d2
              have HK1 := Lib.hid hk1
              have hz := add_z q.1.oval
              have hol := (HR5.out.eachX q hqm).oval
              have f1 := HBlk.out.free (kk * 16 + 12)
              have hown := own_set (u := .string ⟨(q.1.oval ++ [122]).toArray⟩) (i := kk * 16 + 12) HR5.out.made rfl
              rw [mds_set (X.map (·.1)) kk 12 q.1 { q.1 with oval := q.1.oval ++ [122] } _ (by rw [List.getElem?_map, HQ.out]; rfl) (by omega) rfl] at hown
              have hm : Mod [g] wg (wg.setCell ⟨g, kk * 16 + 12, none⟩ (.string ⟨(q.1.oval ++ [122]).toArray⟩)) := (Mod.refl _ _).setCell _ _ (.inl (by simp))
              have hcq := (HR5.out.eachX q hqm).is
              have hoff := HR5.out.coldX q hqm
              have hcq' : MdIs (wg.setCell ⟨g, kk * 16 + 12, none⟩ (.string ⟨(q.1.oval ++ [122]).toArray⟩)) ({ q.1 with oval := q.1.oval ++ [122] }, q.2) := by
                have := (HR5.out.eachX q hqm).mod hm (fun x hx e => (HR5.out.hot.cold x (hoff x e)).1 1 (by rw [HR5.out.l1]; simp at hx; rw [hx]; rfl))
                exact ⟨this.is.n, this.is.rows, this.is.ts, this.is.key⟩
              obtain ⟨hMd, hEn⟩ := HR5.out.told rfl rfl HQ.out (q' := ({ q.1 with oval := q.1.oval ++ [122] }, q.2)) hm (fun x hx => .inl (by simp at hx; rw [hx]; rfl)) hown hcq'
              have HBh := Lib.hid (HB5.out.trans (hm.below (fun x hx => by simp at hx; omega) HB5.out.size))
              have HKap := Lib.hid (show (X.set kk ({ q.1 with oval := q.1.oval ++ [122] }, q.2)).map kapK = X.map kapK by
                rw [List.map_set]
                obtain ⟨h1, h2⟩ := List.getElem?_eq_some_iff.1 HQ.out
                have e : (X.map kapK)[kk]'(by rw [List.length_map]; exact h1) = kapK ({ q.1 with oval := q.1.oval ++ [122] }, q.2) := by rw [List.getElem_map, h2]; rfl
                rw [← e, List.set_getElem_self])
              have HS := Lib.hid (serial_any (wg.setCell ⟨g, kk * 16 + 12, none⟩ (.string ⟨(q.1.oval ++ [122]).toArray⟩)) a5 Z.length c5 Z hEn (by omega) HOps.out (some ⟨g, 0, none⟩) X.length c4 (X.set kk ({ q.1 with oval := q.1.oval ++ [122] }, q.2)) hMd (by omega)
                ⟨fun p hp => by
                    rcases mem_set_at hp with rfl | ⟨j, _, hj⟩
                    · exact HOk.out.pn q hqm
                    · exact HOk.out.pn p (List.mem_of_getElem? hj), fun p hp => by
                    rcases mem_set_at hp with rfl | ⟨j, _, hj⟩
                    · exact HOk.out.kind q hqm
                    · exact HOk.out.kind p (List.mem_of_getElem? hj)⟩
                (by rw [HH1.out.comm_length _ _ (List.Perm.of_eq HKap.out)]; show _ ≤ 12; omega) (HH1.out.boundC _ (List.Perm.of_eq HKap.out)))
              have HV := Lib.hid (serial_told HH1.out HQ.out (q' := ({ q.1 with oval := q.1.oval ++ [122] }, q.2)) rfl (fun M1 hr => told_read HK1.out HK1.out rfl rfl hr) Z HTs.out (List.Perm.refl _) (Z.map (·.1.ts)))
              clear hk1 hown hm hcq hoff hcq' hMd hEn
              go_upto_region 25 with fail
              clear f1 hz d2 d12 d13
              generalize (wg.setCell ⟨g, kk * 16 + 12, none⟩ (.string ⟨(q.1.oval ++ [122]).toArray⟩)) = wh at *
              go_wp2_with fail
              refine HS.out.mono ?_
              rintro e wi ⟨rfl, hbi⟩
              rw [HV.out]
              have HBi := Lib.hid (HBh.out.trans (hbi.mono HBh.out.size))
              clear hbi HS HV
              go_wp2_with fail
              refine (works_any wi).mono ?_
              rintro e wj ⟨rfl, hbj⟩
              have HE := Lib.hid (HBi.out.trans (hbj.mono HBi.out.size))
              clear hbj
              go_wp2_with fail
              go_ret
              exact ⟨rfl, HE.out⟩
            · by_cases hk2 : q.1.kind = 2
              · rw [hk2] at d2
                have HK2 := Lib.hid hk2
                have hci := HR5.out.eachX q hqm
                have hbN := (Below.refl wg.heap.size wg).alloc (Nat.le_refl _) (.cells #[.string ⟨#[122]⟩, .string ⟨#[]⟩] 47)
                have hN : Blk (wg.alloc (.cells #[.string ⟨#[122]⟩, .string ⟨#[]⟩] 47)) wg.heap.size (pairCells ([122], [])) 47 := Blk.new wg (pairCells ([122], [])) _
                have hbg5 := HR5.out.big
                obtain ⟨v', w', hrun, hown', hmod, hblk⟩ := own_append 33 47 33 _ 2 32 Try.underlying33 info_pair rfl (by decide) (by decide) (hci.own.alloc (.cells #[.string ⟨#[122]⟩, .string ⟨#[]⟩] 47))
                  (Nat.le_trans hci.small (by omega)) (by simp; omega) ⟨wg.heap.size, 0, none⟩ 1 1 (pairCells ([122], [])) (by omega) (by omega) rfl
                  (fun x u hx => by rw [addr_add', Nat.zero_add, hN.cell]; exact hx) (pair_one _)
                obtain ⟨pa', pc', rfl⟩ := own_slice hown'
                have hgl : g < wg.heap.size := hg
                have hoff := HR5.out.coldX q hqm
                have hgo : (prV q.1).ownBlock ≠ some g := fun e => (HR5.out.hot.cold g (hoff g e)).1 1 (by rw [HR5.out.l1]; rfl)
                have hm1' : Mod (prV q.1).ownBlock.toList wg w' := (Mod.of_below hbN).trans hmod
                have hgb : (Value.slice pa' (q.1.pn + 1) pc').ownBlock ≠ some g := fun e => by
                  rcases hblk g e with h1 | h1
                  · exact hgo h1
                  · simp at h1; omega
                have hb5 := HBlk.out.mod hm1' (by simpa using hgo)
                have f1 := hb5.free (kk * 16 + 13)
                have hm2' : Mod [g] w' (w'.setCell ⟨g, kk * 16 + 13, none⟩ (.slice pa' (q.1.pn + 1) pc')) := (Mod.refl _ _).setCell _ _ (.inl (by simp))
                have hmade := own_set (u := .slice pa' (q.1.pn + 1) pc') (i := kk * 16 + 13) (ownsRow_mod HR5.out.made hm1' (fun x hx e => by
                  have e2 : x = g := by simp [Value.ownBlock] at e; exact e.symm
                  subst e2
                  exact hgo (by simpa using hx))) rfl
                rw [mds_set (X.map (·.1)) kk 13 q.1 { q.1 with pa := pa', pn := q.1.pn + 1, pc := pc' } _ (by rw [List.getElem?_map, HQ.out]; rfl) (by omega) rfl] at hmade
                have hpr := ownsRow_mod hown' hm2' (fun x hx e => by simp at hx; subst hx; exact hgb e)
                have e13 : w'.cell? ⟨g, kk * 16 + 13, none⟩ = some (.slice q.1.pa q.1.pn q.1.pc) := by rw [hb5.cell, ← HBlk.out.cell]; exact d13
                have hm : Mod (g :: (prV q.1).ownBlock.toList) wg (w'.setCell ⟨g, kk * 16 + 13, none⟩ (.slice pa' (q.1.pn + 1) pc')) := (hm1'.mono (fun x hx => .inl (List.mem_cons_of_mem _ hx))).trans (hm2'.mono (fun x hx => .inl (by simp at hx; simp [hx])))
                have hcq' : MdIs (w'.setCell ⟨g, kk * 16 + 13, none⟩ (.slice pa' (q.1.pn + 1) pc')) ({ q.1 with pa := pa', pn := q.1.pn + 1, pc := pc' }, q.2 ++ [([122], [])]) := ⟨by show q.1.pn + 1 = _; rw [hci.n]; simp, by
                  have := (own_rows hpr).1
                  have e : pairsCells q.2 ++ pairCells ([122], []) = pairsCells (q.2 ++ [([122], [])]) := by rw [pairs_append]; simp [pairsCells]
                  rw [e] at this
                  exact this, hci.ts, hci.key⟩
                obtain ⟨hMd, hEn⟩ := HR5.out.told rfl rfl HQ.out (q' := ({ q.1 with pa := pa', pn := q.1.pn + 1, pc := pc' }, q.2 ++ [([122], [])])) hm (fun x hx => by
                  rcases List.mem_cons.1 hx with rfl | hx
                  · exact .inl rfl
                  · exact .inr (.inl (by simpa using hx))) hmade hcq'
                have HBh := Lib.hid (HB5.out.trans (hm.below (fun x hx => by
                  rcases List.mem_cons.1 hx with rfl | hx
                  · omega
                  · have := (hci.own.lt x (by simpa using hx)).1; omega) HB5.out.size))
                have HRn := Lib.hid hrun
                have HKap := Lib.hid (show (X.set kk ({ q.1 with pa := pa', pn := q.1.pn + 1, pc := pc' }, q.2 ++ [([122], [])])).map kapK = X.map kapK by
                  rw [List.map_set]
                  obtain ⟨h1, h2⟩ := List.getElem?_eq_some_iff.1 HQ.out
                  have e : (X.map kapK)[kk]'(by rw [List.length_map]; exact h1) = kapK ({ q.1 with pa := pa', pn := q.1.pn + 1, pc := pc' }, q.2 ++ [([122], [])]) := by rw [List.getElem_map, h2]; rfl
                  rw [← e, List.set_getElem_self])
                have HS := Lib.hid (serial_any (w'.setCell ⟨g, kk * 16 + 13, none⟩ (.slice pa' (q.1.pn + 1) pc')) a5 Z.length c5 Z hEn (by omega) HOps.out (some ⟨g, 0, none⟩) X.length c4 (X.set kk ({ q.1 with pa := pa', pn := q.1.pn + 1, pc := pc' }, q.2 ++ [([122], [])])) hMd (by omega)
                  ⟨fun p hp => by
                      rcases mem_set_at hp with rfl | ⟨j, _, hj⟩
                      · show q.1.pn + 1 ≤ 10000000; have := hci.small; omega
                      · exact HOk.out.pn p (List.mem_of_getElem? hj), fun p hp => by
                      rcases mem_set_at hp with rfl | ⟨j, _, hj⟩
                      · exact HOk.out.kind q hqm
                      · exact HOk.out.kind p (List.mem_of_getElem? hj)⟩
                  (by rw [HH1.out.comm_length _ _ (List.Perm.of_eq HKap.out)]; show _ ≤ 12; omega) (HH1.out.boundC _ (List.Perm.of_eq HKap.out)))
                have HV := Lib.hid (serial_told HH1.out HQ.out (q' := ({ q.1 with pa := pa', pn := q.1.pn + 1, pc := pc' }, q.2 ++ [([122], [])])) rfl (fun M1 hr => told_scan HK2.out HK2.out rfl rfl rfl hr) Z HTs.out (List.Perm.refl _) (Z.map (·.1.ts)))
                clear hk1 hk2 hci hbN hN hown' hmod hblk hoff hgo hm1' hgb hb5 hm2' hmade hpr hm hcq' hMd hEn hrun
                go_upto_region 25 with (at_builtin; (with_reducible refine wpList_append_run rfl _ _ _ rfl _ _ _ _ ?_ ?_ HRn.out ?_); rfl; rfl; refine wpList_plain rfl fun K hK => ?_; go_simp; refine hK _ _ ?_; clear hK K; refine wpList_plain rfl fun K hK => ?_; go_simp; refine hK _ _ ?_; clear hK K; refine wpList_plain rfl fun K hK => ?_; go_simp; refine hK _ _ ?_; clear hK K; skip)
                clear f1 e13 d2 d12 d13 HRn
                generalize (w'.setCell ⟨g, kk * 16 + 13, none⟩ (.slice pa' (q.1.pn + 1) pc')) = wh at *
                go_wp2_with fail
                refine HS.out.mono ?_
                rintro e wi ⟨rfl, hbi⟩
                rw [HV.out]
                have HBi := Lib.hid (HBh.out.trans (hbi.mono HBh.out.size))
                clear hbi HS HV
                go_wp2_with fail
                refine (works_any wi).mono ?_
                rintro e wj ⟨rfl, hbj⟩
                have HE := Lib.hid (HBi.out.trans (hbj.mono HBi.out.size))
                clear hbj
                go_wp2_with fail
                go_ret
                exact ⟨rfl, HE.out⟩
              · have HE := HB5
                obtain ⟨kd, hkd⟩ : ∃ x, q.1.kind = x := ⟨_, rfl⟩
                rw [hkd] at d2 hk1 hk2
                clear d12 d13 hkd
                go_wp2_with fail
                refine (works_any wg).mono ?_
                rintro e wh ⟨rfl, hbh⟩
                have HE2 := Lib.hid (HB5.out.trans (hbh.mono HB5.out.size))
                clear hbh
                go_wp2_with fail
                go_ret
                exact ⟨rfl, HE2.out⟩
end Go.Proofs.Ytffianjbljgnaaa
