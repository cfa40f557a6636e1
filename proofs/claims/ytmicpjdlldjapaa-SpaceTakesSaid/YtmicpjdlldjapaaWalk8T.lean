/-
  The walk of SpaceTakes. No condition.
-/
import Derived.Test.YtmicpjdlldjapaaWalk8A
import Derived.Test.YtmicpjdlldjapaaSpTk
namespace Go.Proofs.Ytmicpjdlldjapaa
set_option linter.unusedVariables false
set_option linter.unusedSimpArgs false
open Go.RowKit

set_option maxRecDepth 10000 in
set_option maxHeartbeats 4000000 in
theorem takes_law (a : Option Addr) (n c : Nat) (ds : List Do) (p q : Nat) (hp : p < 256) (hq : q < 256) (w : World) (hd : DosAt w a n c ds) :
    Calls Try.prog 5 #[.slice a n c, .int .u8 p, .int .u8 q] w fun e w' => e = .returned (.bool true) ∧ Below w.heap.size w w' := by
  go_enter Try.func5, Try.ntmps5
  go_wp2_with fail
  refine (works_any w).mono ?_
  rintro e w0 ⟨rfl, hbw0⟩
  have hn1 := hd.2.2.1
  go_upto_region 4 with fail
  obtain ⟨N, hN, hN1, hN2⟩ : ∃ N : Nat, (2 + (p : Int) % 12) = N ∧ 2 ≤ N ∧ N ≤ 13 := ⟨2 + p % 12, by omega, by omega, by omega⟩
  obtain ⟨M, hM, hM1, hM2⟩ : ∃ M : Nat, (1 + (q : Int) % 20) = M ∧ 1 ≤ M ∧ M ≤ 20 := ⟨1 + q % 20, by omega, by omega, by omega⟩
  rw [hN, hM]
  clear hN hM hp hq
  go_wp2_with fail
  refine (new_any N M (by omega) (by omega) w0).mono ?_
  rintro e w1 ⟨b, g, cap, ms, rfl, hs1, hb1, hnew⟩
  go_wp2_with fail
  refine (new_any N M (by omega) (by omega) w1).mono ?_
  rintro e w2 ⟨b2, g2, cap2, ms2, rfl, hs2, hb2, hnew2⟩
  have hgood := new_good N M (by omega) (by omega)
  have hs1b := hs1.on hb2
  have hlt1 := hs1.below
  have hlt2 := hs2.below
  have hpl : Play w w2.heap.size b g cap ms N M 0 (.slice none 0 0) (Sp.new N M) w2 :=
    ⟨hgood, rfl, rfl, Nat.le_refl _, hs1b, LiveAt.start _ _, (hbw0.on hb1).on hb2, fun x hx => ⟨Nat.le_trans hbw0.size (hnew x hx), hs1b.below x hx⟩, Nat.le_refl _⟩
  have hdis : ∀ x ∈ b2 :: g2 :: ms2, x ∉ b :: g :: ms := fun x hx hy => by have := hnew2 x hx; have := hlt1 x hy; omega
  have hfoot2 : ∀ x ∈ b2 :: g2 :: ms2, w.heap.size ≤ x ∧ x < w2.heap.size := fun x hx => ⟨by have := hnew2 x hx; have := hb1.size; have := hbw0.size; omega, hlt2 x hx⟩
  generalize hB : w2.heap.size = B at *
  clear hs1 hb1 hnew hgood hbw0 hB hnew2 hb2 hs1b hlt1 hlt2
  go_upto_block 0 with fail
  go_cut [11] (fun s11 wx => ∃ (i : Nat) (S : Sp), i ≤ 100 ∧ Play w B b g cap ms N M i s11 S wx ∧ SpAt wx b2 g2 cap2 ms2 (Sp.new N M))
  case first =>
    go_wp2_with fail
    go_loopw [11, 12, 13, 14, 15] (fun s11 s12 _ _ _ wr => ∃ (i : Nat) (S : Sp), i ≤ 100 ∧ i ≤ n ∧ s12 = .int .i64 i ∧ Play w B b g cap ms N M i s11 S wr ∧ SpAt wr b2 g2 cap2 ms2 (Sp.new N M)) (fun _ s12 _ _ _ _ => 100 - (intOf s12).toNat)
    case atStart => exact ⟨0, _, by omega, by omega, rfl, hpl, hs2⟩
    case round =>
      obtain ⟨i, S, hi, hin, rfl, hpy, hsec⟩ := hrel
      clear hpl
      by_cases hlt : i < n ∧ i < 100
      · obtain ⟨h1, h2⟩ := hlt
        obtain ⟨d, hdi⟩ : ∃ d, ds[i]? = some d := ⟨_, List.getElem?_eq_getElem (by rw [hd.1]; exact h1)⟩
        obtain ⟨hdn, G, o, rfl, hG, c0, c1, c2⟩ := (hd.on hpy.bel).2.2.2 i d hdi
        have hcc := hd.2.1
        have hGw : G < w.heap.size := by
          obtain ⟨_, G', o', e, hG', _⟩ := hd.2.2.2 i d hdi
          cases e; exact hG'
        have hGn : G ∉ b :: g :: ms := fun hx => by have := (hpy.foot G hx).1; omega
        have hc2 : S.cnt < 10000 := by have := hpy.cnt; omega
        have hlen := hpy.len
        obtain ⟨fr, nn, sp⟩ := d
        simp only at c0 c1 c2 hdn
        clear hdi
        cases hfr : fr with
        | true =>
          rw [hfr] at c0
          obtain ⟨a2, cp2, hv', hloc⟩ := hpy.live.locs (by omega)
          subst hv'
          by_cases hl0 : S.ls.length = 0
          · have hlz : ¬ (0 < (S.ls.length : Int)) := by omega
            clear hloc hl0
            obtain ⟨kk, hkk, hkk2⟩ : ∃ kk : Nat, nn % M = kk ∧ kk < M := ⟨nn % M, rfl, Nat.mod_lt _ (by omega)⟩
            have hrem : Int.tmod (nn : Int) (M : Int) = (kk : Int) := by rw [← Int.ofNat_tmod, hkk]
            have hM0 : ¬ (M = 0) := by omega
            have hwn : IntKind.i64.wrap (nn : Int) = (nn : Int) := IntWalk.i64_in _ (by omega)
            have hMz : ¬ ((M : Int) = 0) := by omega
            have hwr : IntKind.i64.wrap (1 + (kk : Int)) = 1 + (kk : Int) := IntWalk.i64_in _ (by omega)
            have hls := alloc_ls S (1 + kk) sp
            have hsg := alloc_segs S (1 + kk) sp
            have hgd := hpy.good.alloc (1 + kk) sp
            have hbd := alloc_bad S (1 + kk) sp (by omega) (by rw [hpy.per]; omega)
            obtain ⟨r, hr⟩ : ∃ r, S.alloc (1 + kk) sp = r := ⟨_, rfl⟩
            rw [hr] at hls hsg hgd hbd
            obtain ⟨⟨x, y, z⟩, err, S2⟩ := r
            simp only at hls hsg hgd hbd
            have HAD := Lib.hid (alloc_keep S hpy.good hc2 b g cap ms (1 + kk) sp (by unfold isInt; omega) wr.drew (hpy.at_.on (below_drew (Below.refl _ _))) G (o + i * 3) _ _ c1 c2 ⟨hG, hGn⟩ ((x, y, z), err, S2) hr)
            have HAX := Lib.hid (alloc_keepX S hpy.good hc2 b g cap ms (1 + kk) sp (by unfold isInt; omega) wr hpy.at_ G (o + i * 3) _ _ c1 c2 ⟨hG, hGn⟩ ((x, y, z), err, S2) hr)
            have HLS := Lib.hid hls
            clear hls hr
            have hbl := hpy.at_.below
            go_upto_region 15 with fail
            clear c0
            go_cut [14, 15] (fun s14 s15 wx => GotLoc wr b g cap ms ((x, y, z), err, S2) s14 s15 wx)
            case first =>
              have hEX : ¬ (G = wr.heap.size) := by omega
              have hEX2 : ¬ (wr.heap.size = G) := by omega
              go_region_held3 (fun w' => w'.cell? ⟨G, o + i * 3 + 1, none⟩ = some (.int .u8 nn) ∧ w'.cell? ⟨G, o + i * 3 + 2, none⟩ = some (.bool sp)) (go_keep)
                (first
                  | (go_at_call 15; (with_reducible refine HAD.out.mono ?_); rintro e w' ⟨rfl, hs', hm', k1, k2⟩; unfold allocV)
                  | (go_at_call 15; (with_reducible refine HAX.out.mono ?_); rintro e w' ⟨rfl, hs', hm', k1, k2, y0, y1, y2, z0, z1, z2⟩; unfold allocV))
              all_goals
                go_wp2_with fail
                go_meet
                first
                  | exact got_a hs' (((Mod.refl _ _).drew).trans hm')
                  | exact got_b hbl hs' hm'
            case rest =>
            obtain ⟨X, rfl, rfl, hs2, hX, hm2⟩ := hcut
            generalize wc = w2 at *
            simp only at hX hs2
            obtain ⟨hv2, hb2, hle2⟩ := hpy.mod hm2
            by_cases he : err = 0
            · subst he
              have hls2 := (HLS.out.resolve_right (fun hh => hh.1 rfl)).2
              have l0 : w2.cell? ⟨X, 0, none⟩ = some (.int .i64 (x : Nat)) := by rw [hX.cell]; rfl
              have l1 : w2.cell? ⟨X, 1, none⟩ = some (.int .i64 (y : Nat)) := by rw [hX.cell]; rfl
              have l2 : w2.cell? ⟨X, 2, none⟩ = some (.int .i64 (z : Nat)) := by rw [hX.cell]; rfl
              obtain ⟨v3, w3, hrun, hv3, T, hmT, hTB⟩ := live_append hv2 (by omega) hle2 ⟨x, y, z⟩ 29 #[.int .i64 (x : Nat), .int .i64 (y : Nat), .int .i64 (z : Nat)] rfl w2.heap.size rfl
              have hs3 := hs2.mod hmT (fun q hq hqT => by have := (hpy.foot q hq).2; have := hTB q hqT; omega)
              have hBw : w.heap.size ≤ B := by have := (hpy.foot b (by simp)); omega
              have hpl2 : Play w B b g cap ms N M (i + 1) v3 S2 w3 := ⟨hgd, hsg.1.trans hpy.segs, hsg.2.1.trans hpy.per, by have := hpy.cnt; omega, hs3, by rw [hls2]; exact hv3, Mod.fresh hb2 hmT (fun q hq => by have := hTB q hq; omega), hpy.foot, Nat.le_trans hle2 hmT.size⟩
              have hsec2 := (hsec.mod hm2 hdis).mod hmT (fun q hq hqT => by have := (hfoot2 q hq).2; have := hTB q hqT; omega)
              clear HAD HAX HLS hls2 hv2 hb2 hle2 hv3 hmT hTB hs3 hs2 hm2 hX
              go_wp2_with (at_builtin; (with_reducible refine wpList_append_run rfl _ _ _ rfl _ _ _ _ ?_ ?_ hrun ?_); rfl; rfl)
              clear hrun l0 l1 l2
              go_wp2_with fail
              go_roundw
              case rel => exact ⟨i + 1, S2, by omega, by omega, by go_num, hpl2, hsec2⟩
              case measure => simp [intOf]; omega
            · have hS2 := (HLS.out.resolve_left (fun hh => he hh.1)).2
              have he7 : err = 7 := hbd.resolve_left he
              subst hS2
              subst he7
              have hpl2 : Play w B b g cap ms N M (i + 1) (.slice a2 S2.ls.length cp2) S2 w2 := ⟨hgd, hpy.segs, hpy.per, by have := hpy.cnt; omega, hs2, hv2, hb2, hpy.foot, hle2⟩
              have hsec2 := hsec.mod hm2 hdis
              clear HAD HAX HLS hv2 hb2 hle2 hs2 hm2 hX
              go_wp2_with fail
              go_roundw
              case rel => exact ⟨i + 1, S2, by omega, by omega, by go_num, hpl2, hsec2⟩
              case measure => simp [intOf]; omega
          · have hlz : (0 < (S.ls.length : Int)) := by omega
            obtain ⟨kk, hkk, hkk2⟩ : ∃ kk : Nat, nn % S.ls.length = kk ∧ kk < S.ls.length := ⟨nn % S.ls.length, rfl, Nat.mod_lt _ (by omega)⟩
            have hrem : Int.tmod (nn : Int) (S.ls.length : Int) = (kk : Int) := by rw [← Int.ofNat_tmod, hkk]
            have hwn : IntKind.i64.wrap (nn : Int) = (nn : Int) := IntWalk.i64_in _ (by omega)
            obtain ⟨p, hp⟩ : ∃ p, S.ls[kk]? = some p := ⟨_, List.getElem?_eq_getElem hkk2⟩
            obtain ⟨G2, rfl, hG2, k0, k1, k2⟩ := hloc.2.2.2 kk p hp
            have hlc := hloc.2.1
            have hfit := hpy.good.inv.fit p (List.mem_of_getElem? hp)
            have hpr := hpy.good.inv.per
            have hsr := hpy.good.inv.segs
            have hf := free_any S hpy.good hc2 b g cap ms p.seg p.pl p.n (by unfold isInt; omega) (by unfold isInt; omega) (by unfold isInt; omega) wr hpy.at_
            unfold FreeEnds at hf
            have hgd := hpy.good.drop p.seg p.pl p.n
            rw [drop_at hpy.good hp] at hf hgd
            have HFr := Lib.hid hf
            have hel : (S.ls.eraseIdx kk).length ≤ S.ls.length := List.length_eraseIdx_le _ _
            clear hf hloc hp
            go_wp2_with fail
            refine HFr.out.mono ?_
            rintro e w2 ⟨rfl, hs2, hm2⟩
            obtain ⟨hv2, hb2, hle2⟩ := hpy.mod hm2
            clear HFr k0 k1 k2
            go_upto_region 14 with fail
            have hwk : IntKind.i64.wrap ((kk : Int) + 1) = (kk : Int) + 1 := IntWalk.i64_in _ (by omega)
            have hk1 : (kk : Int) ≤ (cp2 : Int) := by omega
            have hk2 : (kk : Int) + 1 ≤ (S.ls.length : Int) := by omega
            have hk3 : (0 : Int) ≤ (kk : Int) + 1 := by omega
            have hk4 : (S.ls.length : Int) ≤ (cp2 : Int) := by omega
            have j1 : (kk : Int) ≤ (kk : Int) + 1 := by omega
            have j2 : cp2 = kk + 1 → (S.ls.length : Int) ≤ (kk : Int) + 1 := by omega
            by_cases hcp : cp2 = kk + 1
            · have j3 := j2 hcp
              refine wp_region_settle_then 8 (Below w2.heap.size w2) (by kernel_rfl) (by kernel_rfl) (by kernel_rfl) (by kernel_rfl) (by kernel_rfl) (below_drew (Below.refl _ _)) ?_
              repeat (first
                | (refine settledL_not ?_ ?_
                   · rfl
                   simp only [Act.put, List.setIfInBounds_toArray, List.set_cons_zero, List.set_cons_succ])
                | (refine settledL_val (v := ?_) ?_ (fun w' hS => ?_) ?_
                   rotate_left
                   · rfl
                   · skip
                     go_simp
                     with_reducible rfl
                   simp only [Act.put, List.setIfInBounds_toArray, List.set_cons_zero, List.set_cons_succ]))
              refine settledL_end (fun w3 hS => ?_)
              obtain ⟨g3, c3, e3, hc3, hall⟩ := live_cut (hv2.on hS) (by omega) (Nat.le_trans hle2 hS.size) kk hkk2 29
              cases e3
              obtain ⟨v4, w4, hrun, hv4, hb4⟩ := hall 0 (.inl hcp)
              clear hall
              refine seq_step (by rfl) (fun K hK => ?_)
              refine oper_append_run _ _ _ rfl _ _ _ _ ?hs ?hx hrun ?_
              case hs => go_simp
              case hx => go_simp
              simp only [Act.put, List.setIfInBounds_toArray, List.set_cons_zero, List.set_cons_succ]
              refine hK.out _ _ ?_
              clear hK K
              refine seq_step (by rfl) (fun K hK => ?_)
              go_simp
              refine hK.out _ _ (seq_nil ?_)
              clear hK K
              have hb24 := hS.on hb4
              have hpl2 : Play w B b g cap ms N M (i + 1) v4 ⟨S.segs, S.per, S.ls.eraseIdx kk, S.now, S.mark, S.cnt⟩ w4 := ⟨hgd, hpy.segs, hpy.per, by have := hpy.cnt; show S.cnt ≤ i + 1; omega, hs2.on hb24, hv4, hb2.on hb24, hpy.foot, Nat.le_trans hle2 hb24.size⟩
              have hsec2 := (hsec.mod hm2 hdis).on hb24
              clear hrun hv4 hb4 hS hb24 hv2 hb2 hs2 hm2 hle2
              go_wp2_with fail
              go_roundw
              case rel => exact ⟨i + 1, ⟨S.segs, S.per, S.ls.eraseIdx kk, S.now, S.mark, S.cnt⟩, by omega, by omega, by go_num, hpl2, hsec2⟩
              case measure => simp [intOf]; omega

            · refine wp_region_settle_then 8 (Below w2.heap.size w2) (by kernel_rfl) (by kernel_rfl) (by kernel_rfl) (by kernel_rfl) (by kernel_rfl) (below_drew (Below.refl _ _)) ?_
              repeat (first
                | (refine settledL_not ?_ ?_
                   · rfl
                   simp only [Act.put, List.setIfInBounds_toArray, List.set_cons_zero, List.set_cons_succ])
                | (refine settledL_val (v := ?_) ?_ (fun w' hS => ?_) ?_
                   rotate_left
                   · rfl
                   · skip
                     go_simp
                     with_reducible rfl
                   simp only [Act.put, List.setIfInBounds_toArray, List.set_cons_zero, List.set_cons_succ]))
              refine settledL_end (fun w3 hS => ?_)
              obtain ⟨g3, c3, e3, hc3, hall⟩ := live_cut (hv2.on hS) (by omega) (Nat.le_trans hle2 hS.size) kk hkk2 29
              cases e3
              obtain ⟨v4, w4, hrun, hv4, hb4⟩ := hall ((kk + 1) * 3) (.inr rfl)
              clear hall
              refine seq_step (by rfl) (fun K hK => ?_)
              refine oper_append_run _ _ _ rfl _ _ _ _ ?hs ?hx hrun ?_
              case hs => go_simp
              case hx => go_simp
              simp only [Act.put, List.setIfInBounds_toArray, List.set_cons_zero, List.set_cons_succ]
              refine hK.out _ _ ?_
              clear hK K
              refine seq_step (by rfl) (fun K hK => ?_)
              go_simp
              refine hK.out _ _ (seq_nil ?_)
              clear hK K
              have hb24 := hS.on hb4
              have hpl2 : Play w B b g cap ms N M (i + 1) v4 ⟨S.segs, S.per, S.ls.eraseIdx kk, S.now, S.mark, S.cnt⟩ w4 := ⟨hgd, hpy.segs, hpy.per, by have := hpy.cnt; show S.cnt ≤ i + 1; omega, hs2.on hb24, hv4, hb2.on hb24, hpy.foot, Nat.le_trans hle2 hb24.size⟩
              have hsec2 := (hsec.mod hm2 hdis).on hb24
              clear hrun hv4 hb4 hS hb24 hv2 hb2 hs2 hm2 hle2
              go_wp2_with fail
              go_roundw
              case rel => exact ⟨i + 1, ⟨S.segs, S.per, S.ls.eraseIdx kk, S.now, S.mark, S.cnt⟩, by omega, by omega, by go_num, hpl2, hsec2⟩
              case measure => simp [intOf]; omega

        | false =>
          rw [hfr] at c0
          obtain ⟨kk, hkk, hkk2⟩ : ∃ kk : Nat, nn % M = kk ∧ kk < M := ⟨nn % M, rfl, Nat.mod_lt _ (by omega)⟩
          have hrem : Int.tmod (nn : Int) (M : Int) = (kk : Int) := by rw [← Int.ofNat_tmod, hkk]
          have hM0 : ¬ (M = 0) := by omega
          have hwn : IntKind.i64.wrap (nn : Int) = (nn : Int) := IntWalk.i64_in _ (by omega)
          have hMz : ¬ ((M : Int) = 0) := by omega
          have hwr : IntKind.i64.wrap (1 + (kk : Int)) = 1 + (kk : Int) := IntWalk.i64_in _ (by omega)
          have hls := alloc_ls S (1 + kk) sp
          have hsg := alloc_segs S (1 + kk) sp
          have hgd := hpy.good.alloc (1 + kk) sp
          have hbd := alloc_bad S (1 + kk) sp (by omega) (by rw [hpy.per]; omega)
          obtain ⟨r, hr⟩ : ∃ r, S.alloc (1 + kk) sp = r := ⟨_, rfl⟩
          rw [hr] at hls hsg hgd hbd
          obtain ⟨⟨x, y, z⟩, err, S2⟩ := r
          simp only at hls hsg hgd hbd
          have HAD := Lib.hid (alloc_keep S hpy.good hc2 b g cap ms (1 + kk) sp (by unfold isInt; omega) wr.drew (hpy.at_.on (below_drew (Below.refl _ _))) G (o + i * 3) _ _ c1 c2 ⟨hG, hGn⟩ ((x, y, z), err, S2) hr)
          have HAX := Lib.hid (alloc_keepX S hpy.good hc2 b g cap ms (1 + kk) sp (by unfold isInt; omega) wr hpy.at_ G (o + i * 3) _ _ c1 c2 ⟨hG, hGn⟩ ((x, y, z), err, S2) hr)
          have HLS := Lib.hid hls
          clear hls hr
          have hbl := hpy.at_.below
          go_upto_region 15 with fail
          clear c0
          go_cut [14, 15] (fun s14 s15 wx => GotLoc wr b g cap ms ((x, y, z), err, S2) s14 s15 wx)
          case first =>
            have hEX : ¬ (G = wr.heap.size) := by omega
            have hEX2 : ¬ (wr.heap.size = G) := by omega
            go_region_held3 (fun w' => w'.cell? ⟨G, o + i * 3 + 1, none⟩ = some (.int .u8 nn) ∧ w'.cell? ⟨G, o + i * 3 + 2, none⟩ = some (.bool sp)) (go_keep)
              (first
                | (go_at_call 15; (with_reducible refine HAD.out.mono ?_); rintro e w' ⟨rfl, hs', hm', k1, k2⟩; unfold allocV)
                | (go_at_call 15; (with_reducible refine HAX.out.mono ?_); rintro e w' ⟨rfl, hs', hm', k1, k2, y0, y1, y2, z0, z1, z2⟩; unfold allocV))
            all_goals
              go_wp2_with fail
              go_meet
              first
                | exact got_a hs' (((Mod.refl _ _).drew).trans hm')
                | exact got_b hbl hs' hm'
          case rest =>
          obtain ⟨X, rfl, rfl, hs2, hX, hm2⟩ := hcut
          generalize wc = w2 at *
          simp only at hX hs2
          obtain ⟨hv2, hb2, hle2⟩ := hpy.mod hm2
          by_cases he : err = 0
          · subst he
            have hls2 := (HLS.out.resolve_right (fun hh => hh.1 rfl)).2
            have l0 : w2.cell? ⟨X, 0, none⟩ = some (.int .i64 (x : Nat)) := by rw [hX.cell]; rfl
            have l1 : w2.cell? ⟨X, 1, none⟩ = some (.int .i64 (y : Nat)) := by rw [hX.cell]; rfl
            have l2 : w2.cell? ⟨X, 2, none⟩ = some (.int .i64 (z : Nat)) := by rw [hX.cell]; rfl
            obtain ⟨v3, w3, hrun, hv3, T, hmT, hTB⟩ := live_append hv2 (by omega) hle2 ⟨x, y, z⟩ 29 #[.int .i64 (x : Nat), .int .i64 (y : Nat), .int .i64 (z : Nat)] rfl w2.heap.size rfl
            have hs3 := hs2.mod hmT (fun q hq hqT => by have := (hpy.foot q hq).2; have := hTB q hqT; omega)
            have hBw : w.heap.size ≤ B := by have := (hpy.foot b (by simp)); omega
            have hpl2 : Play w B b g cap ms N M (i + 1) v3 S2 w3 := ⟨hgd, hsg.1.trans hpy.segs, hsg.2.1.trans hpy.per, by have := hpy.cnt; omega, hs3, by rw [hls2]; exact hv3, Mod.fresh hb2 hmT (fun q hq => by have := hTB q hq; omega), hpy.foot, Nat.le_trans hle2 hmT.size⟩
            have hsec2 := (hsec.mod hm2 hdis).mod hmT (fun q hq hqT => by have := (hfoot2 q hq).2; have := hTB q hqT; omega)
            clear HAD HAX HLS hls2 hv2 hb2 hle2 hv3 hmT hTB hs3 hs2 hm2 hX
            go_wp2_with (at_builtin; (with_reducible refine wpList_append_run rfl _ _ _ rfl _ _ _ _ ?_ ?_ hrun ?_); rfl; rfl)
            clear hrun l0 l1 l2
            go_wp2_with fail
            go_roundw
            case rel => exact ⟨i + 1, S2, by omega, by omega, by go_num, hpl2, hsec2⟩
            case measure => simp [intOf]; omega
          · have hS2 := (HLS.out.resolve_left (fun hh => he hh.1)).2
            have he7 : err = 7 := hbd.resolve_left he
            subst hS2
            subst he7
            have hpl2 : Play w B b g cap ms N M (i + 1) u11 S2 w2 := ⟨hgd, hpy.segs, hpy.per, by have := hpy.cnt; omega, hs2, hv2, hb2, hpy.foot, hle2⟩
            have hsec2 := hsec.mod hm2 hdis
            clear HAD HAX HLS hv2 hb2 hle2 hs2 hm2 hX
            go_wp2_with fail
            go_roundw
            case rel => exact ⟨i + 1, S2, by omega, by omega, by go_num, hpl2, hsec2⟩
            case measure => simp [intOf]; omega
      · clear hs2
        by_cases hin2 : i < n
        · have h100 : ¬ (i < 100) := fun hx => hlt ⟨hin2, hx⟩
          clear hlt
          go_wp2_with fail
          go_meet
          exact ⟨i, S, hi, hpy, hsec⟩
        · clear hlt
          go_wp2_with fail
          go_meet
          exact ⟨i, S, hi, hpy, hsec⟩
  case rest =>
  obtain ⟨i, S, hi, hpy, hsec⟩ := hcut
  clear hpl hs2
  generalize wc = w3 at *
  have hl0 : S.ls.length ≤ 100 := by have := hpy.len; omega
  obtain ⟨a2, cp2, hv', hloc⟩ := hpy.live.locs (by omega)
  subst hv'
  have hlc := hloc.2.1
  have hG := hpy.good
  have hG1 := hpy.segs
  have hG2 := hpy.per
  have hGc : S.cnt ≤ 100 := Nat.le_trans hpy.cnt hi
  have hsA := hpy.at_
  have hlv := hpy.live
  have hbw := hpy.bel
  have hle := hpy.le
  have hBw : w.heap.size ≤ B := by have := (hfoot2 b2 (by simp)); omega
  have htk : Taken S (Sp.new N M) 0 := by rw [← hG1, ← hG2]; exact Taken.start hG
  have hdis2 : ∀ x ∈ b :: g :: ms, x ∉ b2 :: g2 :: ms2 := fun x hx hy => hdis x hy hx
  clear hpy hloc hd
  go_upto_block 2 with fail
  go_cut [] (fun wx => ∃ T : Sp, Taken S T S.ls.length ∧ SpAt wx b2 g2 cap2 ms2 T ∧ SpAt wx b g cap ms S ∧ LiveAt wx B (.slice a2 S.ls.length cp2) S.ls ∧ Below w.heap.size w wx ∧ B ≤ wx.heap.size)
  case first =>
    go_wp2_with fail
    go_loopw [16] (fun s16 wr => ∃ (j : Nat) (T : Sp), j ≤ S.ls.length ∧ s16 = .int .i64 j ∧ Taken S T j ∧ SpAt wr b2 g2 cap2 ms2 T ∧ SpAt wr b g cap ms S ∧ LiveAt wr B (.slice a2 S.ls.length cp2) S.ls ∧ Below w.heap.size w wr ∧ B ≤ wr.heap.size) (fun s16 _ => S.ls.length - (intOf s16).toNat)
    case atStart => exact ⟨0, _, by omega, rfl, htk, hsec, hsA, hlv, hbw, hle⟩
    case round =>
      clear htk hsec hsA hlv hbw hle
      obtain ⟨j, T, hj, rfl, htk, hsT, hsA, hlv, hbw, hle⟩ := hrel
      obtain ⟨a3, c3, e3, hloc⟩ := hlv.locs (by omega)
      by_cases hlt : j < S.ls.length
      · obtain ⟨p, hp⟩ : ∃ p, S.ls[j]? = some p := ⟨_, List.getElem?_eq_getElem hlt⟩
        obtain ⟨G2, rfl, hG2', k0, k1, k2⟩ := hloc.2.2.2 j p hp
        cases e3
        have hfit := hG.inv.fit p (List.mem_of_getElem? hp)
        have hpr := hG.inv.per
        have hsr := hG.inv.segs
        obtain ⟨T2, e0, htk2, e2⟩ := htk.step hG hp
        have hcT : T.cnt ≤ 100 := Nat.le_trans htk.cnt (by omega)
        have hcT2 : T2.cnt ≤ 100 := Nat.le_trans htk2.cnt (by omega)
        have hf := take_any T htk.good (by omega) b2 g2 cap2 ms2 p.seg p.pl p.n (by unfold isInt; omega) (by unfold isInt; omega) (by unfold isInt; omega) wr hsT
        unfold TakeEnds at hf
        rw [e0] at hf
        have HT1 := Lib.hid hf
        clear hf hloc
        go_wp2_with fail
        refine HT1.out.mono ?_
        rintro e w4 ⟨rfl, hs4, hm4⟩
        have hlv4 := hlv.mod hm4 (fun x hx => (hfoot2 x hx).2)
        have hbw4 := Mod.fresh hbw hm4 (fun x hx => (hfoot2 x hx).1)
        have hle4 := Nat.le_trans hle hm4.size
        have hsA4 := hsA.mod hm4 hdis2
        clear HT1 k0 k1 k2
        obtain ⟨a4, c4, e4, hloc4⟩ := hlv4.locs (by omega)
        cases e4
        obtain ⟨G3, e5, hG3, k0, k1, k2⟩ := hloc4.2.2.2 j p hp
        cases e5
        have hf := take_any T2 htk2.good (by omega) b2 g2 cap2 ms2 p.seg p.pl p.n (by unfold isInt; omega) (by unfold isInt; omega) (by unfold isInt; omega) w4 hs4
        unfold TakeEnds at hf
        rw [e2] at hf
        have HT2 := Lib.hid hf
        clear hf hloc4 hp
        go_wp2_with fail
        refine HT2.out.mono ?_
        rintro e w5 ⟨rfl, hs5, hm5⟩
        have hlv5 := hlv4.mod hm5 (fun x hx => (hfoot2 x hx).2)
        have hbw5 := Mod.fresh hbw4 hm5 (fun x hx => (hfoot2 x hx).1)
        have hle5 := Nat.le_trans hle4 hm5.size
        have hsA5 := hsA4.mod hm5 hdis2
        clear HT2 k0 k1 k2
        go_wp2_with fail
        go_roundw
        case rel => exact ⟨j + 1, T2, by omega, by go_num, htk2, hs5, hsA5, hlv5, hbw5, hle5⟩
        case measure => simp [intOf]; omega
      · obtain rfl : j = S.ls.length := by omega
        clear hloc e3
        go_wp2_with fail
        go_meet
        exact ⟨T, htk, hsT, hsA, hlv, hbw, hle⟩
  case rest =>
  clear htk hsec hsA hlv hbw hle
  obtain ⟨T, htk, hsT, hsA, hlv, hbw, hle⟩ := hcut
  generalize wc = w4 at *
  have hT := htk.good
  have hsg2 := hT.inv.segs.2
  have hsg3 := hG.inv.segs.2
  have HEq := Lib.hid (htk.live (Nat.le_refl _))
  have hTl := htk.all (Nat.le_refl _)
  have hT1 : T.segs = N := htk.segs.trans hG1
  have hT2 : T.per = M := htk.per.trans hG2
  have hTc : T.cnt ≤ 100 := Nat.le_trans htk.cnt hl0
  clear htk
  go_upto_block 4 with fail
  go_cut [] (fun wx => SpAt wx b2 g2 cap2 ms2 T ∧ LiveAt wx B (.slice a2 S.ls.length cp2) S.ls ∧ Below w.heap.size w wx ∧ B ≤ wx.heap.size)
  case first =>
    go_wp2_with fail
    go_loopw [17] (fun s17 wr => ∃ j : Nat, j ≤ N ∧ s17 = .int .i64 j ∧ SpAt wr b2 g2 cap2 ms2 T ∧ SpAt wr b g cap ms S ∧ LiveAt wr B (.slice a2 S.ls.length cp2) S.ls ∧ Below w.heap.size w wr ∧ B ≤ wr.heap.size) (fun s17 _ => N - (intOf s17).toNat)
    case atStart => exact ⟨0, by omega, rfl, hsT, hsA, hlv, hbw, hle⟩
    case round =>
      clear hsT hsA hlv hbw hle
      obtain ⟨j, hj, rfl, hsT, hsA, hlv, hbw, hle⟩ := hrel
      by_cases hlt : j < N
      · have HL1 := Lib.hid (live_any S b g cap ms (j : Int) wr hsA hsg3)
        have HL2 := Lib.hid (live_any T b2 g2 cap2 ms2 (j : Int) wr hsT hsg2)
        have he : T.liveOf (j : Int) = S.liveOf (j : Int) := HEq.out _
        generalize T.liveOf (j : Int) = x at *
        subst he
        go_wp2_with fail
        refine HL1.out.mono ?_
        rintro e w5 ⟨rfl, rfl⟩
        go_wp2_with fail
        refine HL2.out.mono ?_
        rintro e w6 ⟨rfl, rfl⟩
        go_wp2_with fail
        go_roundw
        case rel => exact ⟨j + 1, by omega, by go_num, hsT, hsA, hlv, hbw, hle⟩
        case measure => simp [intOf]; omega
      · go_wp2_with fail
        go_meet
        exact ⟨hsT, hlv, hbw, hle⟩
  case rest =>
  clear hsT hsA hlv hbw hle
  obtain ⟨hsT, hlv, hbw, hle⟩ := hcut
  replace hlv : LiveAt wc B (.slice a2 S.ls.length cp2) T.ls := by rw [hTl]; exact hlv
  generalize wc = w5 at *
  clear HEq hTl hG hG1 hG2 hGc hl0 hlc hsg2 hsg3 hi hdis hdis2
  have hw3 : IntKind.i64.wrap (3 * (M : Int)) = 3 * (M : Int) := IntWalk.i64_in _ (by omega)
  go_wp2_with fail
  go_loopw [11, 18, 19, 20] (fun s11 s18 _ _ wr => ∃ (j : Nat) (T : Sp), j ≤ 3 * M ∧ s18 = .int .i64 j ∧ T.Good ∧ T.segs = N ∧ T.per = M ∧ T.cnt ≤ 100 + j ∧ SpAt wr b2 g2 cap2 ms2 T ∧ LiveAt wr B s11 T.ls ∧ Below w.heap.size w wr ∧ B ≤ wr.heap.size) (fun _ s18 _ _ _ => 3 * M - (intOf s18).toNat)
  case atStart => exact ⟨0, T, by omega, rfl, hT, hT1, hT2, hTc, hsT, hlv, hbw, hle⟩
  case round =>
    clear hsT hlv hbw hle hT hT1 hT2 hTc
    obtain ⟨j, T, hj, rfl, hT, hT1, hT2, hTc, hsT, hlv, hbw, hle⟩ := hrel
    by_cases hlt : j < 3 * M
    · have hls := alloc_ls T 1 true
      have hsg := alloc_segs T 1 true
      have hgd := hT.alloc 1 true
      have hf := alloc_any T hT (by omega) b2 g2 cap2 ms2 1 true (by unfold isInt; omega) wr hsT
      unfold AllocEnds at hf
      have hll : T.ls.length ≤ 200 := by have := hT.cnt; omega
      obtain ⟨r, hr⟩ : ∃ r, T.alloc 1 true = r := ⟨_, rfl⟩
      rw [hr] at hls hsg hgd hf
      obtain ⟨⟨x, y, z⟩, err, T2⟩ := r
      simp only at hls hsg hgd hf
      have HA := Lib.hid hf
      have HLS := Lib.hid hls
      clear hf hls hr
      have q1 : ((j : Int) < 3 * (M : Int)) := by omega
      go_wp2_with fail
      refine HA.out.mono ?_
      rintro e w6 ⟨rfl, hs6, hm6⟩
      have hlv6 := hlv.mod hm6 (fun x hx => (hfoot2 x hx).2)
      have hbw6 := Mod.fresh hbw hm6 (fun x hx => (hfoot2 x hx).1)
      have hle6 := Nat.le_trans hle hm6.size
      clear HA
      by_cases he : err = 0
      · subst he
        have hls2 := (HLS.out.resolve_right (fun hh => hh.1 rfl)).2
        clear HLS
        go_upto_region 32 with fail
        have hX : Blk (w6.alloc (.cells #[.int .i64 (x : Nat), .int .i64 (y : Nat), .int .i64 (z : Nat)] 31)) w6.heap.size [.int .i64 (x : Nat), .int .i64 (y : Nat), .int .i64 (z : Nat)] 31 := Blk.new _ _ _
        have hbX := (Below.refl w6.heap.size w6).alloc (Nat.le_refl _) (.cells #[.int .i64 (x : Nat), .int .i64 (y : Nat), .int .i64 (z : Nat)] 31)
        generalize w6.alloc (.cells #[.int .i64 (x : Nat), .int .i64 (y : Nat), .int .i64 (z : Nat)] 31) = w7 at *
        have l0 : w7.cell? ⟨w6.heap.size, 0, none⟩ = some (.int .i64 (x : Nat)) := by rw [hX.cell]; rfl
        have l1 : w7.cell? ⟨w6.heap.size, 1, none⟩ = some (.int .i64 (y : Nat)) := by rw [hX.cell]; rfl
        have l2 : w7.cell? ⟨w6.heap.size, 2, none⟩ = some (.int .i64 (z : Nat)) := by rw [hX.cell]; rfl
        have hs7 := hs6.on hbX
        have hlv7 := hlv6.on hbX
        have hbw7 := hbw6.on hbX
        have hle7 := Nat.le_trans hle6 hbX.size
        obtain ⟨v8, w8, hrun, hv8, TT, hmT, hTB⟩ := live_append hlv7 (by omega) hle7 ⟨x, y, z⟩ 29 #[.int .i64 (x : Nat), .int .i64 (y : Nat), .int .i64 (z : Nat)] rfl w7.heap.size rfl
        have hs8 := hs7.mod hmT (fun q hq hqT => by have := (hfoot2 q hq).2; have := hTB q hqT; omega)
        have hbw8 := Mod.fresh hbw7 hmT (fun q hq => by have := hTB q hq; omega)
        have hle8 := Nat.le_trans hle7 hmT.size
        rw [← hls2] at hv8
        clear hX hbX hlv6 hlv7 hs6 hs7 hbw6 hbw7 hm6 hmT hTB hle6 hle7 hlv hsT hbw hls2
        go_wp2_with (at_builtin; (with_reducible refine wpList_append_run rfl _ _ _ rfl _ _ _ _ ?_ ?_ hrun ?_); rfl; rfl)
        clear hrun l0 l1 l2
        go_roundw
        case rel => exact ⟨j + 1, T2, by omega, by go_num, hgd, hsg.1.trans hT1, hsg.2.1.trans hT2, by omega, hs8, hv8, hbw8, hle8⟩
        case measure => simp [intOf]; omega
      · have hls2 := (HLS.out.resolve_left (fun hh => he hh.1)).2
        subst hls2
        have hez : ((err : Int) == 0) = false := by simpa using he
        clear HLS he
        go_upto_region 32 with fail
        have hbX := (Below.refl w6.heap.size w6).alloc (Nat.le_refl _) (.cells #[.int .i64 (x : Nat), .int .i64 (y : Nat), .int .i64 (z : Nat)] 31)
        generalize w6.alloc (.cells #[.int .i64 (x : Nat), .int .i64 (y : Nat), .int .i64 (z : Nat)] 31) = w7 at *
        have hs7 := hs6.on hbX
        have hlv7 := hlv6.on hbX
        have hbw7 := hbw6.on hbX
        have hle7 := Nat.le_trans hle6 hbX.size
        clear hlv6 hs6 hbw6 hm6 hbX hle6 hlv hsT hbw
        go_wp2_with fail
        go_roundw
        case rel => exact ⟨j + 1, T2, by omega, by go_num, hgd, hT1, hT2, by omega, hs7, hlv7, hbw7, hle7⟩
        case measure => simp [intOf]; omega
    · obtain ⟨a', c', hv', hloc⟩ := hlv.locs (by have := hT.cnt; omega)
      have hap := apart_any T hT (by omega) (by omega) b2 g2 cap2 ms2 a' _ c' wr hsT hloc
      rw [hT2] at hap
      have HAP := Lib.hid hap
      have q1 : ¬ ((j : Int) < 3 * (M : Int)) := by omega
      clear hap hloc
      subst hv'
      go_wp2_with fail
      refine HAP.out.mono ?_
      rintro e wy ⟨rfl, hby⟩
      have hbf := hbw.on hby
      clear HAP
      go_wp2_with fail
      go_ret
      exact ⟨rfl, hbf⟩
end Go.Proofs.Ytmicpjdlldjapaa
