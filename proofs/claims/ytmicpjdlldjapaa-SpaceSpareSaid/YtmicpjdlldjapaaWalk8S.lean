/-
  The walk of SpaceSpare. No condition.
-/
import Derived.Test.YtmicpjdlldjapaaWalk8A
import Derived.Test.YtmicpjdlldjapaaSpTk
import Derived.Test.YtmicpjdlldjapaaSpC
namespace Go.Proofs.Ytmicpjdlldjapaa
set_option linter.unusedVariables false
set_option linter.unusedSimpArgs false
open Go.RowKit

set_option maxRecDepth 10000 in
set_option maxHeartbeats 4000000 in
theorem spare_law (a : Option Addr) (n c : Nat) (ds : List Do) (p q : Nat) (hp : p < 256) (hq : q < 256) (w : World) (hd : DosAt w a n c ds) :
    Calls Try.prog 6 #[.slice a n c, .int .u8 p, .int .u8 q] w fun e w' => e = .returned (.bool true) ∧ Below w.heap.size w w' := by
  go_enter Try.func6, Try.ntmps6
  go_wp2_with fail
  refine (works_any w).mono ?_
  rintro e w0 ⟨rfl, hbw0⟩
  have hn1 := hd.2.2.1
  go_upto_region 4 with fail
  obtain ⟨N, hN, hN1, hN2⟩ : ∃ N : Nat, (2 + (p : Int) % 12) = N ∧ 2 ≤ N ∧ N ≤ 13 := ⟨2 + p % 12, by omega, by omega, by omega⟩
  obtain ⟨M, hM, hM1, hM2⟩ : ∃ M : Nat, (1 + (q : Int) % 20) = M ∧ 1 ≤ M ∧ M ≤ 20 := ⟨1 + q % 20, by omega, by omega, by omega⟩
  rw [hN, hM]
  clear hN hM hp hq
  go_wp2_with fail
  refine (new_any N M (by omega) (by omega) w0).mono ?_
  rintro e w1 ⟨b, g, cap, ms, rfl, hs1, hb1, hnew⟩
  have hgood := new_good N M (by omega) (by omega)
  have hpl : Play w w1.heap.size b g cap ms N M 0 (.slice none 0 0) (Sp.new N M) w1 :=
    ⟨hgood, rfl, rfl, Nat.le_refl _, hs1, LiveAt.start _ _, hbw0.on hb1, fun x hx => ⟨Nat.le_trans hbw0.size (hnew x hx), hs1.below x hx⟩, Nat.le_refl _⟩
  have hhas := has_new N M hN1
  generalize hB : w1.heap.size = B at *
  clear hs1 hb1 hnew hgood hbw0 hB
  go_wp2_with fail
  go_loopw [10, 11, 12, 13, 14, 15, 16, 17, 18, 19] (fun s10 s11 _ _ _ _ _ _ _ _ wr => ∃ (i : Nat) (S : Sp), i ≤ 150 ∧ i ≤ n ∧ s11 = .int .i64 i ∧ Play w B b g cap ms N M i s10 S wr ∧ S.has) (fun _ s11 _ _ _ _ _ _ _ _ _ => 150 - (intOf s11).toNat)
  case atStart => exact ⟨0, _, by omega, by omega, rfl, hpl, hhas⟩
  case round =>
    obtain ⟨i, S, hi, hin, rfl, hpy, hha⟩ := hrel
    clear hpl hhas
    by_cases hlt : i < n ∧ i < 150
    · obtain ⟨h1, h2⟩ := hlt
      obtain ⟨d, hdi⟩ : ∃ d, ds[i]? = some d := ⟨_, List.getElem?_eq_getElem (by rw [hd.1]; exact h1)⟩
      obtain ⟨hdn, G, o, rfl, hG, c0, c1, c2⟩ := (hd.on hpy.bel).2.2.2 i d hdi
      have hcc := hd.2.1
      have hc2 : S.cnt < 10000 := by have := hpy.cnt; omega
      have hlen := hpy.len
      obtain ⟨fr, nn, sp⟩ := d
      simp only at c0 c1 c2 hdn
      clear hdi
      obtain ⟨a2, cp2, hv', hloc⟩ := hpy.live.locs (by omega)
      subst hv'
      go_upto_region 11 with fail
      go_cut [54] (fun s54 wx => s54 = .bool (fr && decide (0 < (S.ls.length : Int))) ∧ wr = wx)
      case first =>
        cases hfr : fr with
        | true =>
          rw [hfr] at c0
          by_cases hl0 : (0 < (S.ls.length : Int))
          · go_wp2_with fail
            go_meet
            exact ⟨by simp [hl0, hfr], rfl⟩
          · go_wp2_with fail
            go_meet
            have hl1 : S.ls = [] := List.length_eq_zero_iff.1 (by omega)
            exact ⟨by simp [hl1, hfr], rfl⟩
        | false =>
          rw [hfr] at c0
          go_wp2_with fail
          go_meet
          exact ⟨by simp [hfr], rfl⟩
      case rest =>
      obtain ⟨rfl, rfl⟩ := hcut
      clear c0 c2
      go_upto_if 54 with fail
      go_cut [10, 12, 13, 14] (fun s10 _ _ _ wx => ∃ S2 : Sp, Play w B b g cap ms N M (i + 1) s10 S2 wx ∧ S2.has)
      case first =>
        by_cases hq : (fr = true ∧ 0 < S.ls.length)
        · obtain ⟨rfl, hl0⟩ := hq
          have hlz : (true && decide (0 < (S.ls.length : Int))) = true := by simp; omega
          rw [hlz]
          clear hlz
          obtain ⟨kk, hkk, hkk2⟩ : ∃ kk : Nat, nn % S.ls.length = kk ∧ kk < S.ls.length := ⟨nn % S.ls.length, rfl, Nat.mod_lt _ (by omega)⟩
          have hrem : Int.tmod (nn : Int) (S.ls.length : Int) = (kk : Int) := by rw [← Int.ofNat_tmod, hkk]
          have hwn : IntKind.i64.wrap (nn : Int) = (nn : Int) := IntWalk.i64_in _ (by omega)
          have hlz : ¬ ((S.ls.length : Int) = 0) := by omega
          obtain ⟨p, hp⟩ : ∃ p, S.ls[kk]? = some p := ⟨_, List.getElem?_eq_getElem hkk2⟩
          obtain ⟨G2, rfl, hG2, k0, k1, k2⟩ := hloc.2.2.2 kk p hp
          have hlc := hloc.2.1
          have hfit := hpy.good.inv.fit p (List.mem_of_getElem? hp)
          have hpr := hpy.good.inv.per
          have hsr := hpy.good.inv.segs
          have hf := free_any S hpy.good hc2 b g cap ms p.seg p.pl p.n (by unfold isInt; omega) (by unfold isInt; omega) (by unfold isInt; omega) wr hpy.at_
          unfold FreeEnds at hf
          have hgd := hpy.good.drop p.seg p.pl p.n
          replace hha := has_drop hha p.seg p.pl p.n
          rw [drop_at hpy.good hp] at hf hgd hha
          have HFr := Lib.hid hf
          have hel : (S.ls.eraseIdx kk).length ≤ S.ls.length := List.length_eraseIdx_le _ _
          clear hf hloc hp
          go_wp2_with fail
          refine HFr.out.mono ?_
          rintro e w2 ⟨rfl, hs2, hm2⟩
          obtain ⟨hv2, hb2, hle2⟩ := hpy.mod hm2
          clear HFr k0 k1 k2
          go_upto_region 14 with fail
          have hwk : IntKind.i64.wrap ((kk : Int) + 1) = (kk : Int) + 1 := IntWalk.i64_in _ (by omega)
          have hk1 : (kk : Int) ≤ (cp2 : Int) := by omega
          have hk2 : (kk : Int) + 1 ≤ (S.ls.length : Int) := by omega
          have hk3 : (0 : Int) ≤ (kk : Int) + 1 := by omega
          have hk4 : (S.ls.length : Int) ≤ (cp2 : Int) := by omega
          have j1 : (kk : Int) ≤ (kk : Int) + 1 := by omega
          have j2 : cp2 = kk + 1 → (S.ls.length : Int) ≤ (kk : Int) + 1 := by omega
          by_cases hcp : cp2 = kk + 1
          · have j3 := j2 hcp
            refine wp_region_settle_then 8 (Below w2.heap.size w2) (by kernel_rfl) (by kernel_rfl) (by kernel_rfl) (by kernel_rfl) (by kernel_rfl) (below_drew (Below.refl _ _)) ?_
            repeat (first
              | (refine settledL_not ?_ ?_
                 · rfl
                 simp only [Act.put, List.setIfInBounds_toArray, List.set_cons_zero, List.set_cons_succ])
              | (refine settledL_val (v := ?_) ?_ (fun w' hS => ?_) ?_
                 rotate_left
                 · rfl
                 · skip
                   go_simp
                   with_reducible rfl
                 simp only [Act.put, List.setIfInBounds_toArray, List.set_cons_zero, List.set_cons_succ]))
            refine settledL_end (fun w3 hS => ?_)
            obtain ⟨g3, c3, e3, hc3, hall⟩ := live_cut (hv2.on hS) (by omega) (Nat.le_trans hle2 hS.size) kk hkk2 29
            cases e3
            obtain ⟨v4, w4, hrun, hv4, hb4⟩ := hall (0) (.inl hcp)
            clear hall
            refine seq_step (by rfl) (fun K hK => ?_)
            refine oper_append_run _ _ _ rfl _ _ _ _ ?hs ?hx hrun ?_
            case hs => go_simp
            case hx => go_simp
            simp only [Act.put, List.setIfInBounds_toArray, List.set_cons_zero, List.set_cons_succ]
            refine hK.out _ _ ?_
            clear hK K
            refine seq_step (by rfl) (fun K hK => ?_)
            go_simp
            refine hK.out _ _ (seq_nil ?_)
            clear hK K
            have hb24 := hS.on hb4
            have hpl2 : Play w B b g cap ms N M (i + 1) v4 ⟨S.segs, S.per, S.ls.eraseIdx kk, S.now, S.mark, S.cnt⟩ w4 := ⟨hgd, hpy.segs, hpy.per, by have := hpy.cnt; show S.cnt ≤ i + 1; omega, hs2.on hb24, hv4, hb2.on hb24, hpy.foot, Nat.le_trans hle2 hb24.size⟩
            clear hrun hv4 hb4 hS hb24 hv2 hb2 hs2 hm2 hle2
            go_wp2_with fail
            go_meet
            exact ⟨_, hpl2, hha⟩
          · skip
            refine wp_region_settle_then 8 (Below w2.heap.size w2) (by kernel_rfl) (by kernel_rfl) (by kernel_rfl) (by kernel_rfl) (by kernel_rfl) (below_drew (Below.refl _ _)) ?_
            repeat (first
              | (refine settledL_not ?_ ?_
                 · rfl
                 simp only [Act.put, List.setIfInBounds_toArray, List.set_cons_zero, List.set_cons_succ])
              | (refine settledL_val (v := ?_) ?_ (fun w' hS => ?_) ?_
                 rotate_left
                 · rfl
                 · skip
                   go_simp
                   with_reducible rfl
                 simp only [Act.put, List.setIfInBounds_toArray, List.set_cons_zero, List.set_cons_succ]))
            refine settledL_end (fun w3 hS => ?_)
            obtain ⟨g3, c3, e3, hc3, hall⟩ := live_cut (hv2.on hS) (by omega) (Nat.le_trans hle2 hS.size) kk hkk2 29
            cases e3
            obtain ⟨v4, w4, hrun, hv4, hb4⟩ := hall ((kk + 1) * 3) (.inr rfl)
            clear hall
            refine seq_step (by rfl) (fun K hK => ?_)
            refine oper_append_run _ _ _ rfl _ _ _ _ ?hs ?hx hrun ?_
            case hs => go_simp
            case hx => go_simp
            simp only [Act.put, List.setIfInBounds_toArray, List.set_cons_zero, List.set_cons_succ]
            refine hK.out _ _ ?_
            clear hK K
            refine seq_step (by rfl) (fun K hK => ?_)
            go_simp
            refine hK.out _ _ (seq_nil ?_)
            clear hK K
            have hb24 := hS.on hb4
            have hpl2 : Play w B b g cap ms N M (i + 1) v4 ⟨S.segs, S.per, S.ls.eraseIdx kk, S.now, S.mark, S.cnt⟩ w4 := ⟨hgd, hpy.segs, hpy.per, by have := hpy.cnt; show S.cnt ≤ i + 1; omega, hs2.on hb24, hv4, hb2.on hb24, hpy.foot, Nat.le_trans hle2 hb24.size⟩
            clear hrun hv4 hb4 hS hb24 hv2 hb2 hs2 hm2 hle2
            go_wp2_with fail
            go_meet
            exact ⟨_, hpl2, hha⟩
        · have hlz : (fr && decide (0 < (S.ls.length : Int))) = false := by
            cases fr
            · rfl
            · have : ¬ (0 < S.ls.length) := fun hh => hq ⟨rfl, hh⟩
              have hz : S.ls = [] := List.length_eq_zero_iff.1 (by omega)
              simp [hz]
          rw [hlz]
          clear hlz hq hloc
          obtain ⟨kk, hkk, hkk2⟩ : ∃ kk : Nat, nn % M = kk ∧ kk < M := ⟨nn % M, rfl, Nat.mod_lt _ (by omega)⟩
          have hrem : Int.tmod (nn : Int) (M : Int) = (kk : Int) := by rw [← Int.ofNat_tmod, hkk]
          have hM0 : ¬ (M = 0) := by omega
          have hwn : IntKind.i64.wrap (nn : Int) = (nn : Int) := IntWalk.i64_in _ (by omega)
          have hMz : ¬ ((M : Int) = 0) := by omega
          have hwr : IntKind.i64.wrap (1 + (kk : Int)) = 1 + (kk : Int) := IntWalk.i64_in _ (by omega)
          have hls := alloc_ls S (1 + kk) false
          have hsg := alloc_segs S (1 + kk) false
          have hgd := hpy.good.alloc (1 + kk) false
          have hbd := alloc_bad S (1 + kk) false (by omega) (by rw [hpy.per]; omega)
          replace hha := has_alloc hpy.good hha (1 + kk)
          have hf := alloc_any S hpy.good hc2 b g cap ms (1 + kk) false (by unfold isInt; omega) wr hpy.at_
          unfold AllocEnds at hf
          generalize S.alloc (1 + kk) false = r at *
          obtain ⟨⟨x, y, z⟩, err, S2⟩ := r
          simp only at hls hsg hgd hbd hf hha
          have HA := Lib.hid hf
          have HLS := Lib.hid hls
          clear hf hls
          go_wp2_with fail
          refine HA.out.mono ?_
          rintro e w2 ⟨rfl, hs2, hm2⟩
          obtain ⟨hv2, hb2, hle2⟩ := hpy.mod hm2
          clear HA c1
          go_upto_region 16 with fail
          have hX : Blk (w2.alloc (.cells #[.int .i64 (x : Nat), .int .i64 (y : Nat), .int .i64 (z : Nat)] 31)) w2.heap.size [.int .i64 (x : Nat), .int .i64 (y : Nat), .int .i64 (z : Nat)] 31 := Blk.new _ _ _
          have hbX := (Below.refl w2.heap.size w2).alloc (Nat.le_refl _) (.cells #[.int .i64 (x : Nat), .int .i64 (y : Nat), .int .i64 (z : Nat)] 31)
          generalize w2.alloc (.cells #[.int .i64 (x : Nat), .int .i64 (y : Nat), .int .i64 (z : Nat)] 31) = w7 at *
          have hs7 := hs2.on hbX
          have hv7 := hv2.on hbX
          have hb7 := hb2.on hbX
          have hle7 := Nat.le_trans hle2 hbX.size
          by_cases he : err = 0
          · subst he
            have hls2 := (HLS.out.resolve_right (fun hh => hh.1 rfl)).2
            have l0 : w7.cell? ⟨w2.heap.size, 0, none⟩ = some (.int .i64 (x : Nat)) := by rw [hX.cell]; rfl
            have l1 : w7.cell? ⟨w2.heap.size, 1, none⟩ = some (.int .i64 (y : Nat)) := by rw [hX.cell]; rfl
            have l2 : w7.cell? ⟨w2.heap.size, 2, none⟩ = some (.int .i64 (z : Nat)) := by rw [hX.cell]; rfl
            obtain ⟨v8, w8, hrun, hv8, TT, hmT, hTB⟩ := live_append hv7 (by omega) hle7 ⟨x, y, z⟩ 29 #[.int .i64 (x : Nat), .int .i64 (y : Nat), .int .i64 (z : Nat)] rfl w7.heap.size rfl
            have hs8 := hs7.mod hmT (fun q hq hqT => by have := (hpy.foot q hq).2; have := hTB q hqT; omega)
            have hBw : w.heap.size ≤ B := by have := (hpy.foot b (by simp)); omega
            have hpl8 : Play w B b g cap ms N M (i + 1) v8 S2 w8 := ⟨hgd, hsg.1.trans hpy.segs, hsg.2.1.trans hpy.per, by have := hpy.cnt; omega, hs8, by rw [hls2]; exact hv8, Mod.fresh hb7 hmT (fun q hq => by have := hTB q hq; omega), hpy.foot, Nat.le_trans hle7 hmT.size⟩
            clear HLS hls2 hv2 hb2 hle2 hs2 hm2 hX hbX hs7 hv7 hb7 hle7 hv8 hmT hTB hs8
            go_wp2_with (at_builtin; (with_reducible refine wpList_append_run rfl _ _ _ rfl _ _ _ _ ?_ ?_ hrun ?_); rfl; rfl)
            go_meet
            exact ⟨S2, hpl8, hha⟩
          · have hS2 := (HLS.out.resolve_left (fun hh => he hh.1)).2
            have he7 : err = 7 := hbd.resolve_left he
            subst hS2
            subst he7
            have hpl8 : Play w B b g cap ms N M (i + 1) _ S2 w7 := ⟨hgd, hpy.segs, hpy.per, by have := hpy.cnt; omega, hs7, hv7, hb7, hpy.foot, hle7⟩
            clear HLS hv2 hb2 hle2 hs2 hm2 hX hbX hs7 hv7 hb7 hle7
            go_wp2_with fail
            go_meet
            exact ⟨S2, hpl8, hha⟩
      case rest =>
      obtain ⟨S2, hpl2, hha2⟩ := hcut
      clear hloc hpy hha hc2 hlen c1 hcc
      generalize wc = w2 at *
      have hG2 := hpl2.good
      have hsg := hG2.inv.segs
      have hcn := hpl2.cnt
      go_wp2_with fail
      refine (copy_any S2 b g cap ms w2 hpl2.at_ (by omega)).mono ?_
      rintro e w3 ⟨b3, g3, cap3, ms3, rfl, hs3, hb3, hge3⟩
      have hroom : S2.room M := by rw [← hpl2.per]; exact room_start hha2
      have hT1 := hpl2.segs
      have hT2 := hpl2.per
      have hw3 : IntKind.i64.wrap (3 * (M : Int)) = 3 * (M : Int) := IntWalk.i64_in _ (by omega)
      go_upto_block 2 with fail
      go_cut [16, 17, 18, 19] (fun s16 _ _ _ wx => ∃ l : Nat, s16 = .int .i64 l ∧ M ≤ l ∧ l ≤ 100 ∧ Below w2.heap.size w2 wx)
      case first =>
        go_wp2_with fail
        go_loopw [16, 17, 18, 19] (fun s16 s17 _ _ wr => ∃ (k l : Nat) (T : Sp), k ≤ 3 * M ∧ s17 = .int .i64 k ∧ s16 = .int .i64 l ∧ l ≤ k ∧ T.Good ∧ T.segs = N ∧ T.per = M ∧ T.cnt ≤ 151 + k ∧ SpAt wr b3 g3 cap3 ms3 T ∧ Below w2.heap.size w2 wr ∧ (k < M → l = k ∧ T.room (M - k)) ∧ (M ≤ k → M ≤ l)) (fun _ s17 _ _ _ => 3 * M - (intOf s17).toNat)
        case atStart => exact ⟨0, 0, S2, by omega, rfl, rfl, by omega, hG2, hT1, hT2, by omega, hs3, hb3, fun _ => ⟨rfl, hroom⟩, fun _ => by omega⟩
        case round =>
          clear hs3 hb3 hroom hG2 hT1 hT2 hsg hcn
          obtain ⟨k, l, T, hk, rfl, rfl, hlk, hT, hT1, hT2, hTc, hsT, hbT, hlow, hhigh⟩ := hrel
          by_cases hlt : k < 3 * M
          · have hsg := alloc_segs T 1 true
            have hgd := hT.alloc 1 true
            have hnext : (k < M → (T.alloc 1 true).2.1 = 0 ∧ (T.alloc 1 true).2.2.room (M - (k + 1))) := fun hh => by
              have := (hlow hh).2
              rw [show M - k = (M - (k + 1)) + 1 by omega] at this
              exact room_step hT this
            have hf := alloc_any T hT (by omega) b3 g3 cap3 ms3 1 true (by unfold isInt; omega) wr hsT
            unfold AllocEnds at hf
            generalize T.alloc 1 true = r at *
            obtain ⟨⟨x, y, z⟩, err, T2⟩ := r
            simp only at hsg hgd hf hnext
            have HA := Lib.hid hf
            have HN := Lib.hid hnext
            have HLo := Lib.hid hlow
            have HHi := Lib.hid hhigh
            clear hf hnext hlow hhigh
            have q1 : ((k : Int) < 3 * (M : Int)) := by omega
            go_wp2_with fail
            refine HA.out.mono ?_
            rintro e w6 ⟨rfl, hs6, hm6⟩
            have hb6 := Mod.fresh hbT hm6 hge3
            clear HA
            have hwl : IntKind.i64.wrap ((l : Int) + 1) = (l : Int) + 1 := IntWalk.i64_in _ (by omega)
            by_cases he : err = 0
            · subst he
              go_upto_region 24 with fail
              have hbX := (Below.refl w6.heap.size w6).alloc (Nat.le_refl _) (.cells #[.int .i64 (x : Nat), .int .i64 (y : Nat), .int .i64 (z : Nat)] 31)
              generalize w6.alloc (.cells #[.int .i64 (x : Nat), .int .i64 (y : Nat), .int .i64 (z : Nat)] 31) = w7 at *
              have hs7 := hs6.on hbX
              have hb7 := hb6.on hbX
              clear hs6 hb6 hm6 hbX hsT hbT
              go_wp2_with fail
              go_roundw
              case rel => exact ⟨k + 1, l + 1, T2, by omega, by go_num, by go_num, by omega, hgd, hsg.1.trans hT1, hsg.2.1.trans hT2, by omega, hs7, hb7, fun hh => ⟨by have := (HLo.out (by omega)).1; omega, (HN.out (by omega)).2⟩, fun hh => by
                by_cases hkM : k < M
                · have := (HLo.out hkM).1; omega
                · have := HHi.out (by omega); omega⟩
              case measure => simp [intOf]; omega
            · have hez : ((err : Int) == 0) = false := by simpa using he
              have hkM : ¬ (k < M) := fun hh => he (HN.out hh).1
              have HKM := Lib.hid hkM
              have HHe := Lib.hid he
              clear he hkM
              go_upto_region 24 with fail
              have hbX := (Below.refl w6.heap.size w6).alloc (Nat.le_refl _) (.cells #[.int .i64 (x : Nat), .int .i64 (y : Nat), .int .i64 (z : Nat)] 31)
              generalize w6.alloc (.cells #[.int .i64 (x : Nat), .int .i64 (y : Nat), .int .i64 (z : Nat)] 31) = w7 at *
              have hs7 := hs6.on hbX
              have hb7 := hb6.on hbX
              clear hs6 hb6 hm6 hbX hsT hbT
              go_wp2_with fail
              go_roundw
              case rel => exact ⟨k + 1, l, T2, by omega, by go_num, rfl, by omega, hgd, hsg.1.trans hT1, hsg.2.1.trans hT2, by omega, hs7, hb7, fun hh => absurd (by omega) HKM.out, fun hh => HHi.out (by have := HKM.out; omega)⟩
              case measure => simp [intOf]; omega
          · have hl := hhigh (by omega)
            have q1 : ¬ ((k : Int) < 3 * (M : Int)) := by omega
            clear hlow hhigh
            go_wp2_with fail
            go_meet
            exact ⟨l, rfl, hl, by omega, hbT⟩
      case rest =>
      obtain ⟨l, rfl, hl1, hl2, hb4⟩ := hcut
      clear hs3 hb3 hge3 hroom
      generalize wc = w4 at *
      have hpl4 := hpl2.on hb4
      have hem := has_empty hha2
      have HE := Lib.hid (empty_any S2 b g cap ms w4 hpl4.at_ hsg.2)
      generalize S2.empty = em at *
      go_wp2_with fail
      refine HE.out.mono ?_
      rintro e w5 ⟨rfl, hb5⟩
      have hpl5 := hpl4.on hb5
      clear HE
      have q1 : ¬ ((em : Int) < 1) := by omega
      have q2 : ¬ ((l : Int) < (M : Int)) := by omega
      go_wp2_with fail
      go_roundw
      case rel => exact ⟨i + 1, S2, by omega, by omega, by go_num, hpl5, hha2⟩
      case measure => simp [intOf]; omega
    · have hbf := hpy.bel
      by_cases hin2 : i < n
      · have h150 : ¬ (i < 150) := fun hx => hlt ⟨hin2, hx⟩
        clear hlt hpy
        go_wp2_with fail
        go_ret
        exact ⟨rfl, hbf⟩
      · clear hlt hpy
        go_wp2_with fail
        go_ret
        exact ⟨rfl, hbf⟩
end Go.Proofs.Ytmicpjdlldjapaa
