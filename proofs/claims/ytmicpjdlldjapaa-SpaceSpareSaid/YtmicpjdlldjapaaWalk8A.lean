/-
  The walk of SpaceApart. No condition.
-/
import Derived.Test.YtmicpjdlldjapaaSpD
namespace Go.Proofs.Ytmicpjdlldjapaa
set_option linter.unusedVariables false
set_option linter.unusedSimpArgs false
open Go.RowKit

/-- 'append(s, x...)' at the operation, whose run is known. -/
theorem oper_append_run {P : Program} {w : World} {o : Oper} {a : Act} {K : Act → World → Prop} {Q : Exit → Act → World → Prop} (s x : Operand) (t : TypeId)
    (ho : o.op = .call { callee := .builtin .append, args := #[s, x], argTypes := #[t, t] }) (v xv v' : Value) (w' : World) (hs : a.eval s = v) (hx : a.eval x = xv)
    (hrun : (Builtin.append_ #[t, t] o.type #[v, xv]).run P w = .ok v' w') (h : K (a.put o.dst v') w') : Oper.wp P o a w K Q := by
  unfold Oper.wp
  simp [execOp, ho, resolve, invoke, builtin, hs, hx, hrun, Result.andThen]
  exact h

/-- How a law that plays with a space stands: the space, the pieces that live. -/
structure Play (w : World) (B b g cap : Nat) (ms : List Nat) (N M i : Nat) (v : Value) (S : Sp) (wr : World) : Prop where
  good : S.Good
  segs : S.segs = N
  per : S.per = M
  cnt : S.cnt ≤ i
  at_ : SpAt wr b g cap ms S
  live : LiveAt wr B v S.ls
  bel : Below w.heap.size w wr
  foot : ∀ x ∈ b :: g :: ms, w.heap.size ≤ x ∧ x < B
  le : B ≤ wr.heap.size
theorem Play.len {w : World} {B b g cap : Nat} {ms : List Nat} {N M i : Nat} {v : Value} {S : Sp} {wr : World} (h : Play w B b g cap ms N M i v S wr) : S.ls.length ≤ i := Nat.le_trans h.good.cnt h.cnt
theorem Play.on {w : World} {B b g cap : Nat} {ms : List Nat} {N M i : Nat} {v : Value} {S : Sp} {wr w' : World} (h : Play w B b g cap ms N M i v S wr) (hb : Below wr.heap.size wr w') : Play w B b g cap ms N M i v S w' :=
  ⟨h.good, h.segs, h.per, h.cnt, h.at_.on hb, h.live.on hb, h.bel.on hb, h.foot, Nat.le_trans h.le hb.size⟩
theorem Play.next {w : World} {B b g cap : Nat} {ms : List Nat} {N M i : Nat} {v : Value} {S : Sp} {wr : World} (h : Play w B b g cap ms N M i v S wr) : Play w B b g cap ms N M (i + 1) v S wr :=
  { h with cnt := Nat.le_succ_of_le h.cnt }
theorem Play.mod {w : World} {B b g cap : Nat} {ms : List Nat} {N M i : Nat} {v : Value} {S : Sp} {wr w' : World} (h : Play w B b g cap ms N M i v S wr) (hm : Mod (b :: g :: ms) wr w') : LiveAt w' B v S.ls ∧ Below w.heap.size w w' ∧ B ≤ w'.heap.size :=
  ⟨h.live.mod hm (fun x hx => (h.foot x hx).2), Mod.fresh h.bel hm (fun x hx => (h.foot x hx).1), Nat.le_trans h.le hm.size⟩

set_option maxRecDepth 10000 in
set_option maxHeartbeats 4000000 in
theorem apart_law (a : Option Addr) (n c : Nat) (ds : List Do) (p q : Nat) (hp : p < 256) (hq : q < 256) (w : World) (hd : DosAt w a n c ds) :
    Calls Try.prog 4 #[.slice a n c, .int .u8 p, .int .u8 q] w fun e w' => e = .returned (.bool true) ∧ Below w.heap.size w w' := by
  go_enter Try.func4, Try.ntmps4
  go_wp2_with fail
  refine (works_any w).mono ?_
  rintro e w0 ⟨rfl, hbw0⟩
  have hn1 := hd.2.2.1
  go_upto_region 4 with fail
  obtain ⟨N, hN, hN1, hN2⟩ : ∃ N : Nat, (2 + (p : Int) % 12) = N ∧ 2 ≤ N ∧ N ≤ 13 := ⟨2 + p % 12, by omega, by omega, by omega⟩
  obtain ⟨M, hM, hM1, hM2⟩ : ∃ M : Nat, (1 + (q : Int) % 20) = M ∧ 1 ≤ M ∧ M ≤ 20 := ⟨1 + q % 20, by omega, by omega, by omega⟩
  rw [hN, hM]
  clear hN hM hp hq
  go_wp2_with fail
  refine (new_any N M (by omega) (by omega) w0).mono ?_
  rintro e w1 ⟨b, g, cap, ms, rfl, hs1, hb1, hnew⟩
  have hgood := new_good N M (by omega) (by omega)
  have hpl : Play w w1.heap.size b g cap ms N M 0 (.slice none 0 0) (Sp.new N M) w1 :=
    ⟨hgood, rfl, rfl, Nat.le_refl _, hs1, LiveAt.start _ _, hbw0.on hb1, fun x hx => ⟨Nat.le_trans hbw0.size (hnew x hx), hs1.below x hx⟩, Nat.le_refl _⟩
  generalize hB : w1.heap.size = B at *
  clear hs1 hb1 hnew hgood hbw0 hB
  go_wp2_with fail
  go_loopw [10, 11, 12, 13, 14] (fun s10 s11 _ _ _ wr => ∃ (i : Nat) (S : Sp), i ≤ 150 ∧ i ≤ n ∧ s11 = .int .i64 i ∧ Play w B b g cap ms N M i s10 S wr) (fun _ s11 _ _ _ _ => 150 - (intOf s11).toNat)
  case atStart => exact ⟨0, _, by omega, by omega, rfl, hpl⟩
  case round =>
    obtain ⟨i, S, hi, hin, rfl, hpy⟩ := hrel
    clear hpl
    by_cases hlt : i < n ∧ i < 150
    · obtain ⟨h1, h2⟩ := hlt
      obtain ⟨d, hdi⟩ : ∃ d, ds[i]? = some d := ⟨_, List.getElem?_eq_getElem (by rw [hd.1]; exact h1)⟩
      obtain ⟨hdn, G, o, rfl, hG, c0, c1, c2⟩ := (hd.on hpy.bel).2.2.2 i d hdi
      have hcc := hd.2.1
      have hGw : G < w.heap.size := by
        obtain ⟨_, G', o', e, hG', _⟩ := hd.2.2.2 i d hdi
        cases e; exact hG'
      have hGn : G ∉ b :: g :: ms := fun hx => by have := (hpy.foot G hx).1; omega
      have hc2 : S.cnt < 10000 := by have := hpy.cnt; omega
      have hlen := hpy.len
      obtain ⟨fr, nn, sp⟩ := d
      simp only at c0 c1 c2 hdn
      clear hdi
      cases hfr : fr with
      | true =>
        rw [hfr] at c0
        obtain ⟨a2, cp2, hv', hloc⟩ := hpy.live.locs (by omega)
        subst hv'
        by_cases hl0 : S.ls.length = 0
        · have hlz : ((S.ls.length : Int) == 0) = true := by simp [hl0]
          go_wp2_with fail
          go_roundw
          case rel => exact ⟨i + 1, S, by omega, by omega, by go_num, hpy.next⟩
          case measure => simp [intOf]; omega
        · have hlz : ((S.ls.length : Int) == 0) = false := by simpa using hl0
          obtain ⟨kk, hkk, hkk2⟩ : ∃ kk : Nat, nn % S.ls.length = kk ∧ kk < S.ls.length := ⟨nn % S.ls.length, rfl, Nat.mod_lt _ (by omega)⟩
          have hrem : Int.tmod (nn : Int) (S.ls.length : Int) = (kk : Int) := by rw [← Int.ofNat_tmod, hkk]
          have hwn : IntKind.i64.wrap (nn : Int) = (nn : Int) := IntWalk.i64_in _ (by omega)
          obtain ⟨p, hp⟩ : ∃ p, S.ls[kk]? = some p := ⟨_, List.getElem?_eq_getElem hkk2⟩
          obtain ⟨G2, rfl, hG2, k0, k1, k2⟩ := hloc.2.2.2 kk p hp
          have hlc := hloc.2.1
          have hfit := hpy.good.inv.fit p (List.mem_of_getElem? hp)
          have hpr := hpy.good.inv.per
          have hsr := hpy.good.inv.segs
          have hf := free_any S hpy.good hc2 b g cap ms p.seg p.pl p.n (by unfold isInt; omega) (by unfold isInt; omega) (by unfold isInt; omega) wr hpy.at_
          unfold FreeEnds at hf
          have hgd := hpy.good.drop p.seg p.pl p.n
          rw [drop_at hpy.good hp] at hf hgd
          have HFr := Lib.hid hf
          have hel : (S.ls.eraseIdx kk).length ≤ S.ls.length := List.length_eraseIdx_le _ _
          clear hf hloc hp
          go_wp2_with fail
          refine HFr.out.mono ?_
          rintro e w2 ⟨rfl, hs2, hm2⟩
          obtain ⟨hv2, hb2, hle2⟩ := hpy.mod hm2
          clear HFr k0 k1 k2
          go_upto_region 16 with fail
          have hwk : IntKind.i64.wrap ((kk : Int) + 1) = (kk : Int) + 1 := IntWalk.i64_in _ (by omega)
          have hk1 : (kk : Int) ≤ (cp2 : Int) := by omega
          have hk2 : (kk : Int) + 1 ≤ (S.ls.length : Int) := by omega
          have hk3 : (0 : Int) ≤ (kk : Int) + 1 := by omega
          have hk4 : (S.ls.length : Int) ≤ (cp2 : Int) := by omega
          have j1 : (kk : Int) ≤ (kk : Int) + 1 := by omega
          have j2 : cp2 = kk + 1 → (S.ls.length : Int) ≤ (kk : Int) + 1 := by omega
          by_cases hcp : cp2 = kk + 1
          · have j3 := j2 hcp
            refine wp_region_settle_then 8 (Below w2.heap.size w2) (by kernel_rfl) (by kernel_rfl) (by kernel_rfl) (by kernel_rfl) (by kernel_rfl) (below_drew (Below.refl _ _)) ?_
            repeat (first
              | (refine settledL_not ?_ ?_
                 · rfl
                 simp only [Act.put, List.setIfInBounds_toArray, List.set_cons_zero, List.set_cons_succ])
              | (refine settledL_val (v := ?_) ?_ (fun w' hS => ?_) ?_
                 rotate_left
                 · rfl
                 · skip
                   go_simp
                   with_reducible rfl
                 simp only [Act.put, List.setIfInBounds_toArray, List.set_cons_zero, List.set_cons_succ]))
            refine settledL_end (fun w3 hS => ?_)
            obtain ⟨g3, c3, e3, hc3, hall⟩ := live_cut (hv2.on hS) (by omega) (Nat.le_trans hle2 hS.size) kk hkk2 29
            cases e3
            obtain ⟨v4, w4, hrun, hv4, hb4⟩ := hall 0 (.inl hcp)
            clear hall
            refine seq_step (by rfl) (fun K hK => ?_)
            refine oper_append_run _ _ _ rfl _ _ _ _ ?hs ?hx hrun ?_
            case hs => go_simp
            case hx => go_simp
            simp only [Act.put, List.setIfInBounds_toArray, List.set_cons_zero, List.set_cons_succ]
            refine hK.out _ _ ?_
            clear hK K
            refine seq_step (by rfl) (fun K hK => ?_)
            go_simp
            refine hK.out _ _ (seq_nil ?_)
            clear hK K
            have hb24 := hS.on hb4
            have hpl2 : Play w B b g cap ms N M (i + 1) v4 ⟨S.segs, S.per, S.ls.eraseIdx kk, S.now, S.mark, S.cnt⟩ w4 := ⟨hgd, hpy.segs, hpy.per, by have := hpy.cnt; show S.cnt ≤ i + 1; omega, hs2.on hb24, hv4, hb2.on hb24, hpy.foot, Nat.le_trans hle2 hb24.size⟩
            clear hrun hv4 hb4 hS hb24 hv2 hb2 hs2 hm2 hle2
            have hlt2 := hpl2.len
            obtain ⟨a', c', hv', hloc⟩ := hpl2.live.locs (by omega)
            have hap := apart_any ⟨S.segs, S.per, S.ls.eraseIdx kk, S.now, S.mark, S.cnt⟩ hpl2.good (by have := hpl2.cnt; omega) (by rw [hpl2.segs]; omega) b g cap ms a' _ c' w4 hpl2.at_ hloc
            rw [hpl2.per] at hap
            have HAP := Lib.hid hap
            clear hap hloc
            subst hv'
            go_wp2_with fail
            refine HAP.out.mono ?_
            rintro e wy ⟨rfl, hby⟩
            have hpl3 := hpl2.on hby
            clear HAP
            go_wp2_with fail
            go_roundw
            case rel => exact ⟨i + 1, ⟨S.segs, S.per, S.ls.eraseIdx kk, S.now, S.mark, S.cnt⟩, by omega, by omega, by go_num, hpl3⟩
            case measure => simp [intOf]; omega

          · refine wp_region_settle_then 8 (Below w2.heap.size w2) (by kernel_rfl) (by kernel_rfl) (by kernel_rfl) (by kernel_rfl) (by kernel_rfl) (below_drew (Below.refl _ _)) ?_
            repeat (first
              | (refine settledL_not ?_ ?_
                 · rfl
                 simp only [Act.put, List.setIfInBounds_toArray, List.set_cons_zero, List.set_cons_succ])
              | (refine settledL_val (v := ?_) ?_ (fun w' hS => ?_) ?_
                 rotate_left
                 · rfl
                 · skip
                   go_simp
                   with_reducible rfl
                 simp only [Act.put, List.setIfInBounds_toArray, List.set_cons_zero, List.set_cons_succ]))
            refine settledL_end (fun w3 hS => ?_)
            obtain ⟨g3, c3, e3, hc3, hall⟩ := live_cut (hv2.on hS) (by omega) (Nat.le_trans hle2 hS.size) kk hkk2 29
            cases e3
            obtain ⟨v4, w4, hrun, hv4, hb4⟩ := hall ((kk + 1) * 3) (.inr rfl)
            clear hall
            refine seq_step (by rfl) (fun K hK => ?_)
            refine oper_append_run _ _ _ rfl _ _ _ _ ?hs ?hx hrun ?_
            case hs => go_simp
            case hx => go_simp
            simp only [Act.put, List.setIfInBounds_toArray, List.set_cons_zero, List.set_cons_succ]
            refine hK.out _ _ ?_
            clear hK K
            refine seq_step (by rfl) (fun K hK => ?_)
            go_simp
            refine hK.out _ _ (seq_nil ?_)
            clear hK K
            have hb24 := hS.on hb4
            have hpl2 : Play w B b g cap ms N M (i + 1) v4 ⟨S.segs, S.per, S.ls.eraseIdx kk, S.now, S.mark, S.cnt⟩ w4 := ⟨hgd, hpy.segs, hpy.per, by have := hpy.cnt; show S.cnt ≤ i + 1; omega, hs2.on hb24, hv4, hb2.on hb24, hpy.foot, Nat.le_trans hle2 hb24.size⟩
            clear hrun hv4 hb4 hS hb24 hv2 hb2 hs2 hm2 hle2
            have hlt2 := hpl2.len
            obtain ⟨a', c', hv', hloc⟩ := hpl2.live.locs (by omega)
            have hap := apart_any ⟨S.segs, S.per, S.ls.eraseIdx kk, S.now, S.mark, S.cnt⟩ hpl2.good (by have := hpl2.cnt; omega) (by rw [hpl2.segs]; omega) b g cap ms a' _ c' w4 hpl2.at_ hloc
            rw [hpl2.per] at hap
            have HAP := Lib.hid hap
            clear hap hloc
            subst hv'
            go_wp2_with fail
            refine HAP.out.mono ?_
            rintro e wy ⟨rfl, hby⟩
            have hpl3 := hpl2.on hby
            clear HAP
            go_wp2_with fail
            go_roundw
            case rel => exact ⟨i + 1, ⟨S.segs, S.per, S.ls.eraseIdx kk, S.now, S.mark, S.cnt⟩, by omega, by omega, by go_num, hpl3⟩
            case measure => simp [intOf]; omega

      | false =>
        rw [hfr] at c0
        obtain ⟨kk, hkk, hkk2⟩ : ∃ kk : Nat, nn % M = kk ∧ kk < M := ⟨nn % M, rfl, Nat.mod_lt _ (by omega)⟩
        have hrem : Int.tmod (nn : Int) (M : Int) = (kk : Int) := by rw [← Int.ofNat_tmod, hkk]
        have hM0 : ¬ (M = 0) := by omega
        have hwn : IntKind.i64.wrap (nn : Int) = (nn : Int) := IntWalk.i64_in _ (by omega)
        have hMz : ¬ ((M : Int) = 0) := by omega
        have hwr : IntKind.i64.wrap (1 + (kk : Int)) = 1 + (kk : Int) := IntWalk.i64_in _ (by omega)
        have hls := alloc_ls S (1 + kk) sp
        have hsg := alloc_segs S (1 + kk) sp
        have hgd := hpy.good.alloc (1 + kk) sp
        have hbd := alloc_bad S (1 + kk) sp (by omega) (by rw [hpy.per]; omega)
        obtain ⟨r, hr⟩ : ∃ r, S.alloc (1 + kk) sp = r := ⟨_, rfl⟩
        rw [hr] at hls hsg hgd hbd
        obtain ⟨⟨x, y, z⟩, err, S2⟩ := r
        simp only at hls hsg hgd hbd
        have HAD := Lib.hid (alloc_keep S hpy.good hc2 b g cap ms (1 + kk) sp (by unfold isInt; omega) wr.drew (hpy.at_.on (below_drew (Below.refl _ _))) G (o + i * 3) _ _ c1 c2 ⟨hG, hGn⟩ ((x, y, z), err, S2) hr)
        have HAX := Lib.hid (alloc_keepX S hpy.good hc2 b g cap ms (1 + kk) sp (by unfold isInt; omega) wr hpy.at_ G (o + i * 3) _ _ c1 c2 ⟨hG, hGn⟩ ((x, y, z), err, S2) hr)
        have HLS := Lib.hid hls
        clear hls hr
        have hbl := hpy.at_.below
        go_upto_region 17 with fail
        clear c0
        go_cut [13, 14] (fun s13 s14 wx => GotLoc wr b g cap ms ((x, y, z), err, S2) s13 s14 wx)
        case first =>
          have hEX : ¬ (G = wr.heap.size) := by omega
          have hEX2 : ¬ (wr.heap.size = G) := by omega
          go_region_held3 (fun w' => w'.cell? ⟨G, o + i * 3 + 1, none⟩ = some (.int .u8 nn) ∧ w'.cell? ⟨G, o + i * 3 + 2, none⟩ = some (.bool sp)) (go_keep)
            (first
              | (go_at_call 15; (with_reducible refine HAD.out.mono ?_); rintro e w' ⟨rfl, hs', hm', k1, k2⟩; unfold allocV)
              | (go_at_call 15; (with_reducible refine HAX.out.mono ?_); rintro e w' ⟨rfl, hs', hm', k1, k2, y0, y1, y2, z0, z1, z2⟩; unfold allocV))
          all_goals
            go_wp2_with fail
            go_meet
            first
              | exact got_a hs' (((Mod.refl _ _).drew).trans hm')
              | exact got_b hbl hs' hm'
        case rest =>
        obtain ⟨X, rfl, rfl, hs2, hX, hm2⟩ := hcut
        generalize wc = w2 at *
        simp only at hX hs2
        obtain ⟨hv2, hb2, hle2⟩ := hpy.mod hm2
        by_cases he : err = 0
        · subst he
          have hls2 := (HLS.out.resolve_right (fun hh => hh.1 rfl)).2
          have l0 : w2.cell? ⟨X, 0, none⟩ = some (.int .i64 (x : Nat)) := by rw [hX.cell]; rfl
          have l1 : w2.cell? ⟨X, 1, none⟩ = some (.int .i64 (y : Nat)) := by rw [hX.cell]; rfl
          have l2 : w2.cell? ⟨X, 2, none⟩ = some (.int .i64 (z : Nat)) := by rw [hX.cell]; rfl
          obtain ⟨v3, w3, hrun, hv3, T, hmT, hTB⟩ := live_append hv2 (by omega) hle2 ⟨x, y, z⟩ 29 #[.int .i64 (x : Nat), .int .i64 (y : Nat), .int .i64 (z : Nat)] rfl w2.heap.size rfl
          have hs3 := hs2.mod hmT (fun q hq hqT => by have := (hpy.foot q hq).2; have := hTB q hqT; omega)
          have hBw : w.heap.size ≤ B := by have := (hpy.foot b (by simp)); omega
          have hpl2 : Play w B b g cap ms N M (i + 1) v3 S2 w3 := ⟨hgd, hsg.1.trans hpy.segs, hsg.2.1.trans hpy.per, by have := hpy.cnt; omega, hs3, by rw [hls2]; exact hv3, Mod.fresh hb2 hmT (fun q hq => by have := hTB q hq; omega), hpy.foot, Nat.le_trans hle2 hmT.size⟩
          clear HAD HAX HLS hls2 hv2 hb2 hle2 hv3 hmT hTB hs3 hs2 hm2 hX
          go_upto_region 22 with (at_builtin; (with_reducible refine wpList_append_run rfl _ _ _ rfl _ _ _ _ ?_ ?_ hrun ?_); rfl; rfl)
          clear hrun l0 l1 l2
          have hlt2 := hpl2.len
          obtain ⟨a', c', hv', hloc⟩ := hpl2.live.locs (by omega)
          have hap := apart_any S2 hpl2.good (by have := hpl2.cnt; omega) (by rw [hpl2.segs]; omega) b g cap ms a' _ c' w3 hpl2.at_ hloc
          rw [hpl2.per] at hap
          have HAP := Lib.hid hap
          clear hap hloc
          subst hv'
          go_wp2_with fail
          refine HAP.out.mono ?_
          rintro e wy ⟨rfl, hby⟩
          have hpl3 := hpl2.on hby
          clear HAP
          go_wp2_with fail
          go_roundw
          case rel => exact ⟨i + 1, S2, by omega, by omega, by go_num, hpl3⟩
          case measure => simp [intOf]; omega
        · have hS2 := (HLS.out.resolve_left (fun hh => he hh.1)).2
          have he7 : err = 7 := hbd.resolve_left he
          subst hS2
          subst he7
          have hpl2 : Play w B b g cap ms N M (i + 1) u10 S2 w2 := ⟨hgd, hpy.segs, hpy.per, by have := hpy.cnt; omega, hs2, hv2, hb2, hpy.foot, hle2⟩
          clear HAD HAX HLS hv2 hb2 hle2 hs2 hm2 hX
          have hlt2 := hpl2.len
          obtain ⟨a', c', hv', hloc⟩ := hpl2.live.locs (by omega)
          have hap := apart_any S2 hpl2.good (by have := hpl2.cnt; omega) (by rw [hpl2.segs]; omega) b g cap ms a' _ c' w2 hpl2.at_ hloc
          rw [hpl2.per] at hap
          have HAP := Lib.hid hap
          clear hap hloc
          subst hv'
          go_wp2_with fail
          refine HAP.out.mono ?_
          rintro e wy ⟨rfl, hby⟩
          have hpl3 := hpl2.on hby
          clear HAP
          go_wp2_with fail
          go_roundw
          case rel => exact ⟨i + 1, S2, by omega, by omega, by go_num, hpl3⟩
          case measure => simp [intOf]; omega
    · have hl0 : S.ls.length ≤ 150 := by have := hpy.len; omega
      obtain ⟨a2, cp2, hv', hloc⟩ := hpy.live.locs (by omega)
      subst hv'
      have hfoot := hpy.foot
      have hcnt := hpy.cnt
      have hst : ∃ S2 : Sp, S2.Good ∧ S2.segs = N ∧ S2.cnt ≤ 150 ∧ S2.ls = S.ls.drop 0 ∧ SpAt wr b g cap ms S2 ∧ LocsAt wr a2 S.ls.length cp2 S.ls ∧ LiveAt wr B (.slice a2 S.ls.length cp2) S.ls ∧ Below w.heap.size w wr ∧ B ≤ wr.heap.size := ⟨S, hpy.good, hpy.segs, by omega, rfl, hpy.at_, hloc, hpy.live, hpy.bel, hpy.le⟩
      clear hpy hloc
      generalize hl : S.ls = l at *
      generalize hL : l.length = L at *
      generalize wr = w5 at *
      by_cases hin2 : i < n
      · have h150 : ¬ (i < 150) := fun hx => hlt ⟨hin2, hx⟩
        clear hlt
        go_wp2_with fail
        go_loopw [15] (fun s15 wr => ∃ (j : Nat) (S2 : Sp), j ≤ L ∧ s15 = .int .i64 j ∧ S2.Good ∧ S2.segs = N ∧ S2.cnt ≤ 150 ∧ S2.ls = l.drop j ∧ SpAt wr b g cap ms S2 ∧ LocsAt wr a2 L cp2 l ∧ LiveAt wr B (.slice a2 L cp2) l ∧ Below w.heap.size w wr ∧ B ≤ wr.heap.size) (fun s15 _ => L - (intOf s15).toNat)
        case atStart =>
          obtain ⟨S2, hS2⟩ := hst
          exact ⟨0, S2, by omega, rfl, hS2⟩
        case round =>
          obtain ⟨j, S2, hj, rfl, hgd, hsg, hc2, hls, hs2, hloc, hlv, hbw, hle⟩ := hrel
          clear hst
          by_cases hjL : j < L
          · obtain ⟨p, hp⟩ : ∃ p, l[j]? = some p := ⟨_, List.getElem?_eq_getElem (by rw [hL]; exact hjL)⟩
            obtain ⟨G2, rfl, hG2, k0, k1, k2⟩ := hloc.2.2.2 j p hp
            have hp0 : S2.ls[0]? = some p := by rw [hls, List.getElem?_drop]; simpa using hp
            have hfit := hgd.inv.fit p (List.mem_of_getElem? hp0)
            have hpr := hgd.inv.per
            have hsr := hgd.inv.segs
            have hlc := hloc.2.1
            have hf := free_any S2 hgd (by omega) b g cap ms p.seg p.pl p.n (by unfold isInt; omega) (by unfold isInt; omega) (by unfold isInt; omega) wr hs2
            unfold FreeEnds at hf
            have hgd2 := hgd.drop p.seg p.pl p.n
            rw [drop_at hgd hp0] at hf hgd2
            have hls2 : S2.ls.eraseIdx 0 = l.drop (j + 1) := by rw [hls, List.eraseIdx_zero, List.tail_drop]
            rw [hls2] at hf hgd2
            have HFr := Lib.hid hf
            clear hf hp hp0
            go_wp2_with fail
            refine HFr.out.mono ?_
            rintro e w6 ⟨rfl, hs6, hm6⟩
            have hlv6 := hlv.mod hm6 (fun x hx => (hfoot x hx).2)
            have hbw6 := Mod.fresh hbw hm6 (fun x hx => (hfoot x hx).1)
            have hle6 := Nat.le_trans hle hm6.size
            obtain ⟨a7, c7, e7, hloc6⟩ := hlv6.locs (by omega)
            rw [hL] at e7 hloc6
            cases e7
            clear HFr k0 k1 k2
            go_wp2_with fail
            go_roundw
            case rel => exact ⟨j + 1, ⟨S2.segs, S2.per, l.drop (j + 1), S2.now, S2.mark, S2.cnt⟩, by omega, by go_num, hgd2, hsg, hc2, rfl, hs6, hloc6, hlv6, hbw6, hle6⟩
            case measure => simp [intOf]; omega
          · have hnil : S2.ls = [] := by rw [hls]; exact List.drop_eq_nil_of_le (by omega)
            have hsr := hgd.inv.segs
            have hlive : ∀ x, x < S2.segs → liveN S2.ls x ≤ 1000000 := fun x _ => by rw [hnil]; simp [liveN]
            have hvi := victim_any S2 b g cap ms wr hs2 hsr.2 hlive
            rw [victim_nil hnil] at hvi
            have HVi := Lib.hid hvi
            have hem := empty_nil2 hnil
            clear hvi hlive hls
            go_wp2_with fail
            refine HVi.out.mono ?_
            rintro e w6 ⟨rfl, hb6⟩
            have HEm := Lib.hid (empty_any S2 b g cap ms w6 (hs2.on hb6) hsr.2)
            go_wp2_with fail
            refine HEm.out.mono ?_
            rintro e w7 ⟨rfl, hb7⟩
            have hbf := (hbw.on hb6).on hb7
            generalize S2.empty = em at *
            have hwn : IntKind.i64.wrap ((N : Int) - 1) = (N : Int) - 1 := IntWalk.i64_in _ (by omega)
            have hge : ((N : Int) - 1 ≤ (em : Int)) := by omega
            go_wp2_with fail
            go_ret
            exact ⟨by first | rfl | (simp; omega), hbf⟩
      · clear hlt
        go_wp2_with fail
        go_loopw [15] (fun s15 wr => ∃ (j : Nat) (S2 : Sp), j ≤ L ∧ s15 = .int .i64 j ∧ S2.Good ∧ S2.segs = N ∧ S2.cnt ≤ 150 ∧ S2.ls = l.drop j ∧ SpAt wr b g cap ms S2 ∧ LocsAt wr a2 L cp2 l ∧ LiveAt wr B (.slice a2 L cp2) l ∧ Below w.heap.size w wr ∧ B ≤ wr.heap.size) (fun s15 _ => L - (intOf s15).toNat)
        case atStart =>
          obtain ⟨S2, hS2⟩ := hst
          exact ⟨0, S2, by omega, rfl, hS2⟩
        case round =>
          obtain ⟨j, S2, hj, rfl, hgd, hsg, hc2, hls, hs2, hloc, hlv, hbw, hle⟩ := hrel
          clear hst
          by_cases hjL : j < L
          · obtain ⟨p, hp⟩ : ∃ p, l[j]? = some p := ⟨_, List.getElem?_eq_getElem (by rw [hL]; exact hjL)⟩
            obtain ⟨G2, rfl, hG2, k0, k1, k2⟩ := hloc.2.2.2 j p hp
            have hp0 : S2.ls[0]? = some p := by rw [hls, List.getElem?_drop]; simpa using hp
            have hfit := hgd.inv.fit p (List.mem_of_getElem? hp0)
            have hpr := hgd.inv.per
            have hsr := hgd.inv.segs
            have hlc := hloc.2.1
            have hf := free_any S2 hgd (by omega) b g cap ms p.seg p.pl p.n (by unfold isInt; omega) (by unfold isInt; omega) (by unfold isInt; omega) wr hs2
            unfold FreeEnds at hf
            have hgd2 := hgd.drop p.seg p.pl p.n
            rw [drop_at hgd hp0] at hf hgd2
            have hls2 : S2.ls.eraseIdx 0 = l.drop (j + 1) := by rw [hls, List.eraseIdx_zero, List.tail_drop]
            rw [hls2] at hf hgd2
            have HFr := Lib.hid hf
            clear hf hp hp0
            go_wp2_with fail
            refine HFr.out.mono ?_
            rintro e w6 ⟨rfl, hs6, hm6⟩
            have hlv6 := hlv.mod hm6 (fun x hx => (hfoot x hx).2)
            have hbw6 := Mod.fresh hbw hm6 (fun x hx => (hfoot x hx).1)
            have hle6 := Nat.le_trans hle hm6.size
            obtain ⟨a7, c7, e7, hloc6⟩ := hlv6.locs (by omega)
            rw [hL] at e7 hloc6
            cases e7
            clear HFr k0 k1 k2
            go_wp2_with fail
            go_roundw
            case rel => exact ⟨j + 1, ⟨S2.segs, S2.per, l.drop (j + 1), S2.now, S2.mark, S2.cnt⟩, by omega, by go_num, hgd2, hsg, hc2, rfl, hs6, hloc6, hlv6, hbw6, hle6⟩
            case measure => simp [intOf]; omega
          · have hnil : S2.ls = [] := by rw [hls]; exact List.drop_eq_nil_of_le (by omega)
            have hsr := hgd.inv.segs
            have hlive : ∀ x, x < S2.segs → liveN S2.ls x ≤ 1000000 := fun x _ => by rw [hnil]; simp [liveN]
            have hvi := victim_any S2 b g cap ms wr hs2 hsr.2 hlive
            rw [victim_nil hnil] at hvi
            have HVi := Lib.hid hvi
            have hem := empty_nil2 hnil
            clear hvi hlive hls
            go_wp2_with fail
            refine HVi.out.mono ?_
            rintro e w6 ⟨rfl, hb6⟩
            have HEm := Lib.hid (empty_any S2 b g cap ms w6 (hs2.on hb6) hsr.2)
            go_wp2_with fail
            refine HEm.out.mono ?_
            rintro e w7 ⟨rfl, hb7⟩
            have hbf := (hbw.on hb6).on hb7
            generalize S2.empty = em at *
            have hwn : IntKind.i64.wrap ((N : Int) - 1) = (N : Int) - 1 := IntWalk.i64_in _ (by omega)
            have hge : ((N : Int) - 1 ≤ (em : Int)) := by omega
            go_wp2_with fail
            go_ret
            exact ⟨by first | rfl | (simp; omega), hbf⟩
end Go.Proofs.Ytmicpjdlldjapaa
