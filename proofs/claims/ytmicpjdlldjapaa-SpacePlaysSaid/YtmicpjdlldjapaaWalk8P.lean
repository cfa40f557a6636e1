/-
  The walk of SpacePlays. No condition.
-/
import Derived.Test.YtmicpjdlldjapaaPlay8
namespace Go.Proofs.Ytmicpjdlldjapaa
set_option linter.unusedVariables false
set_option linter.unusedSimpArgs false
open Go.RowKit

theorem victimV_eq (o : Option Nat) : victimV o = .tuple #[.int .i64 ((o.getD 0 : Nat) : Int), .bool o.isSome] := by cases o <;> rfl

set_option maxRecDepth 10000 in
set_option maxHeartbeats 8000000 in
theorem plays_law (a : Option Addr) (n c : Nat) (xs : List ActP) (s0 s1 : Int) (hi0 : isInt s0) (hi1 : isInt s1) (w : World) (hd : ActsAt w a n c xs) :
    Calls Try.prog 3 #[.slice a n c, .agg #[.int .i64 s0, .int .i64 s1]] w fun e w' => e = .returned (.bool true) ∧ Below w.heap.size w w' := by
  have hn1 := hd.2.2.1
  unfold isInt at hi0 hi1
  have hL0 : Blk (w.alloc (.cells #[.int .i64 s0, .int .i64 s1] 23)) w.heap.size [.int .i64 s0, .int .i64 s1] 23 := Blk.new _ _ _
  have hb0 := (Below.refl w.heap.size w).alloc (Nat.le_refl _) (.cells #[.int .i64 s0, .int .i64 s1] 23)
  go_enter Try.func3, Try.ntmps3
  go_upto_region 1 with fail
  generalize w.alloc (.cells #[.int .i64 s0, .int .i64 s1] 23) = w1 at *
  have HF := Lib.hid (show ∀ w', Below w1.heap.size w1 w' → (w'.cell? ⟨w.heap.size, 0, none⟩ = some (.int .i64 s0) ∧ w'.cell? ⟨w.heap.size, 1, none⟩ = some (.int .i64 s1)) from
    fun w' hb => ⟨by rw [(hL0.on hb).cell]; rfl, by rw [(hL0.on hb).cell]; rfl⟩)
  refine wp_region_float [0, 1, 2, 3, 5, 6, 7, 8] [4, 9, 10, 11] [9, 10, 11] (Below w1.heap.size w1) (by kernel_rfl) (by kernel_rfl) (by kernel_rfl) (by kernel_rfl) (fun c a d v w h => by cases d <;> exact h) (below_drew (Below.refl _ _)) ?_
  have hS : Below w1.heap.size w1 { w1 with drawn := w1.drawn + 1 } := below_drew (Below.refl _ _)
  generalize ({ w1 with drawn := w1.drawn + 1 } : World) = w2 at *
  simp only [pick, List.map_cons, List.map_nil, List.getD_cons_zero, List.getD_cons_succ]
  repeat (
    refine takes_val (v := ?_) ?_ (fun w' hS => ?_) ?_
    rotate_left
    · rfl
    · obtain ⟨k0, k1⟩ := HF.out w' hS
      go_simp
      with_reducible rfl
    simp only [Act.put, List.setIfInBounds_toArray, List.set_cons_zero, List.set_cons_succ])
  refine takes_nil ?_
  by_cases hbad : s0 < 2 ∨ 64 < s0 ∨ s1 < 1 ∨ 64 < s1
  · have HN1 := Lib.hid (new_none s0 s1 hbad)
    have HN2 := Lib.hid (rnew_none s0 s1 hbad)
    clear hbad
    refine seqW_step (by rfl) (fun K hK => ?_)
    go_simp
    refine (HN1.out w2).mono ?_
    rintro e w3 ⟨rfl, rfl⟩
    refine hK.out _ _ (.inr hS) ?_
    clear hK K
    refine seqW_step (by rfl) (fun K hK => ?_)
    go_simp
    refine (HN2.out w2).mono ?_
    rintro e w3 ⟨rfl, rfl⟩
    refine hK.out _ _ (.inl (by rfl)) ?_
    clear hK K
    refine seqW_step (by rfl) (fun K hK => ?_)
    go_simp
    refine hK.out _ _ (.inl (by rfl)) ?_
    clear hK K
    refine seqW_step (by rfl) (fun K hK => ?_)
    go_simp
    refine hK.out _ _ (.inl (by rfl)) (seqW_nil ?_)
    clear hK K
    have hbw := hb0.on hS
    go_wp2_with fail
    refine (works_any w2).mono ?_
    rintro e w3 ⟨rfl, hb3⟩
    have hbf := hbw.on hb3
    go_wp2_with fail
    go_ret
    exact ⟨rfl, hbf⟩
  · obtain ⟨N, rfl⟩ := Int.eq_ofNat_of_zero_le (show 0 ≤ s0 by omega)
    obtain ⟨M, rfl⟩ := Int.eq_ofNat_of_zero_le (show 0 ≤ s1 by omega)
    have hN : 2 ≤ N ∧ N ≤ 64 := by omega
    have hM : 1 ≤ M ∧ M ≤ 64 := by omega
    clear hbad hi0 hi1
    refine seqW_step (by rfl) (fun K hK => ?_)
    go_simp
    refine (new_any N M hN hM w2).mono ?_
    rintro e w3 ⟨b, g, cap, ms, rfl, hs3, hb3, hge3⟩
    refine hK.out _ _ (.inr (hS.on hb3)) ?_
    clear hK K
    refine seqW_step (by rfl) (fun K hK => ?_)
    go_simp
    refine (rnew_any N M hN hM w3).mono ?_
    rintro e w4 ⟨rfl, hr4, hb4, hsz4⟩
    refine hK.out _ _ (.inl (by rfl)) ?_
    clear hK K
    refine seqW_step (by rfl) (fun K hK => ?_)
    go_simp
    refine hK.out _ _ (.inl (by rfl)) ?_
    clear hK K
    refine seqW_step (by rfl) (fun K hK => ?_)
    go_simp
    refine hK.out _ _ (.inl (by rfl)) (seqW_nil ?_)
    clear hK K HF
    have hlt3 := hs3.below
    have hbA := hb0.on hS
    have hbw := (hbA.on hb3).on hb4
    have hpl : PlayR w (w3.heap.size + 1) b g cap ms w3.heap.size N M 0 (.slice none 0 0) (.slice none 0 0) (Sp.new N M) w4 [] :=
      ⟨new_good N M hN hM, rfl, rfl, Nat.le_refl _, hs3.on hb4, hr4, World.ownsRow_nil _ _ _ _, Nat.le_refl _, fun x hx => by simp [Value.ownBlock] at hx, hbw, fun x hx => by
        have h1 := hbA.size
        rcases List.mem_cons.1 hx with rfl | hx
        · have := hb3.size; omega
        · have := hlt3 x hx; have := hge3 x hx; omega, fun hx => by have := hlt3 _ hx; omega, by omega, by simp⟩
    generalize hB : w3.heap.size + 1 = B at *
    generalize w3.heap.size = r at *
    clear hs3 hb3 hge3 hr4 hb4 hsz4 hlt3 hbw hbA hB hS hb0 hL0
    go_wp2_with fail
    go_loopw [7, 8, 9, 10, 11, 12, 13, 14, 15, 16, 17, 18] (fun s7 s8 _ _ _ _ _ _ _ _ _ _ wr => ∃ (i : Nat) (vr : Value) (S : Sp) (G : List Pc), i ≤ 100 ∧ i ≤ n ∧ s8 = .int .i64 i ∧ PlayR w B b g cap ms r N M i s7 vr S wr G) (fun _ s8 _ _ _ _ _ _ _ _ _ _ _ => 100 - (intOf s8).toNat)
    case atStart => exact ⟨0, _, _, [], by omega, by omega, rfl, hpl⟩
    case round =>
      obtain ⟨i, vr, S, G, hi, hin, rfl, hpy⟩ := hrel
      clear hpl
      by_cases hlt : i < n ∧ i < 100
      · obtain ⟨h1, h2⟩ := hlt
        obtain ⟨d, hdi⟩ : ∃ d, xs[i]? = some d := ⟨_, List.getElem?_eq_getElem (by rw [hd.1]; exact h1)⟩
        obtain ⟨hok, Gd, o, rfl, hGd, hcell⟩ := (hd.on hpy.bel).2.2.2 i d hdi
        have hcc := hd.2.1
        have hc2 : S.cnt < 10000 := by have := hpy.cnt; omega
        have hgl := hpy.glen
        obtain ⟨what, nn, sp, seg, pl, len⟩ := d
        obtain ⟨hi1, hi2, hi3, hi4, hi5⟩ := hok
        simp only at hi1 hi2 hi3 hi4 hi5
        have c0 : wr.cell? ⟨Gd, o + i * 6, none⟩ = some (.int .i64 what) := hcell 0 _ rfl
        have c1 : wr.cell? ⟨Gd, o + i * 6 + 1, none⟩ = some (.int .i64 nn) := hcell 1 _ rfl
        have c2 : wr.cell? ⟨Gd, o + i * 6 + 2, none⟩ = some (.bool sp) := hcell 2 _ rfl
        have c3 : wr.cell? ⟨Gd, o + i * 6 + 3, none⟩ = some (.int .i64 seg) := hcell 3 _ rfl
        have c4 : wr.cell? ⟨Gd, o + i * 6 + 4, none⟩ = some (.int .i64 pl) := hcell 4 _ rfl
        have c5 : wr.cell? ⟨Gd, o + i * 6 + 5, none⟩ = some (.int .i64 len) := hcell 5 _ rfl
        clear hcell hdi
        go_upto_region 9 with fail
        have hX : Blk (wr.alloc (.cells #[.int .i64 what, .int .i64 nn, .bool sp, .int .i64 seg, .int .i64 pl, .int .i64 len] 33)) wr.heap.size [.int .i64 what, .int .i64 nn, .bool sp, .int .i64 seg, .int .i64 pl, .int .i64 len] 33 := Blk.new _ _ _
        have hbX := (Below.refl wr.heap.size wr).alloc (Nat.le_refl _) (.cells #[.int .i64 what, .int .i64 nn, .bool sp, .int .i64 seg, .int .i64 pl, .int .i64 len] 33)
        generalize wr.alloc (.cells #[.int .i64 what, .int .i64 nn, .bool sp, .int .i64 seg, .int .i64 pl, .int .i64 len] 33) = w5 at *
        have hpy5 := hpy.on hbX
        have hXB : B ≤ wr.heap.size := hpy.le
        have hXv : vr.ownBlock ≠ some wr.heap.size := fun hh => by have := (hpy.ref.own.lt _ hh).2; omega
        have hX7 : u7.ownBlock ≠ some wr.heap.size := fun hh => by have := (hpy.own.lt _ hh).2; omega
        generalize wr.heap.size = X at *
        clear hpy hbX c0 c1 c2 c3 c4 c5 hGd
        have x0 : w5.cell? ⟨X, 0, none⟩ = some (.int .i64 what) := by rw [hX.cell]; rfl
        go_upto_block 2 with fail
        go_cut [7] (fun s7 wx => ∃ (v2 : Value) (S2 : Sp) (G2 : List Pc), PlayR w B b g cap ms r N M (i + 1) s7 v2 S2 wx G2 ∧ Blk wx X [.int .i64 what, .int .i64 nn, .bool sp, .int .i64 seg, .int .i64 pl, .int .i64 len] 33)
        case first =>
          go_upto_region 16 with fail
          go_cut [92] (fun s92 wx => w5 = wx ∧ s92 = .bool (decide (what = 3)))
          case first =>
            by_cases q3 : what = 3
            · have q3' : (what == 3) = true := by simp [q3]
              have HQ := Lib.hid q3
              clear q3
              go_wp2_with fail
              go_meet
              exact ⟨rfl, by simp [HQ.out]⟩
            · have q3' : (what == 3) = false := by simpa using q3
              have HQ := Lib.hid q3
              clear q3
              go_wp2_with fail
              go_meet
              exact ⟨rfl, by simp [HQ.out]⟩
          case rest =>
          obtain ⟨rfl, rfl⟩ := hcut
          go_upto_if 92 with fail
          go_cut [92] (fun s92 wx => w5 = wx ∧ s92 = .bool (decide (what = 3 ∨ what = 4)))
          case first =>
            by_cases q3 : what = 3
            · have hq : decide (what = 3) = true := by simp [q3]
              rw [hq]
              have HQ := Lib.hid q3
              clear q3 hq
              go_wp2_with fail
              go_meet
              exact ⟨rfl, by simp [HQ.out]⟩
            · have hq : decide (what = 3) = false := by simp [q3]
              rw [hq]
              have HQ := Lib.hid q3
              clear q3 hq
              by_cases q4 : what = 4
              · have q4' : (what == 4) = true := by simp [q4]
                have HQ4 := Lib.hid q4
                clear q4
                go_wp2_with fail
                go_meet
                exact ⟨rfl, by simp [HQ4.out]⟩
              · have q4' : (what == 4) = false := by simpa using q4
                have HQ4 := Lib.hid q4
                clear q4
                go_wp2_with fail
                go_meet
                exact ⟨rfl, by simp [HQ.out, HQ4.out]⟩
          case rest =>
          obtain ⟨rfl, rfl⟩ := hcut
          go_upto_if 92 with fail
          by_cases q : what = 3 ∨ what = 4
          · have hq : decide (what = 3 ∨ what = 4) = true := by simp only [decide_eq_true_eq]; exact q
            rw [hq]
            clear hq q
            have x3 : w5.cell? ⟨X, 3, none⟩ = some (.int .i64 seg) := by rw [hX.cell]; rfl
            have x4 : w5.cell? ⟨X, 4, none⟩ = some (.int .i64 pl) := by rw [hX.cell]; rfl
            have x5 : w5.cell? ⟨X, 5, none⟩ = some (.int .i64 len) := by rw [hX.cell]; rfl
            go_upto_region 19 with fail
            have hP : Blk (w5.alloc (.cells #[.int .i64 seg, .int .i64 pl, .int .i64 len] 31)) w5.heap.size [.int .i64 seg, .int .i64 pl, .int .i64 len] 31 := Blk.new _ _ _
            have hbP := (Below.refl w5.heap.size w5).alloc (Nat.le_refl _) (.cells #[.int .i64 seg, .int .i64 pl, .int .i64 len] 31)
            generalize w5.alloc (.cells #[.int .i64 seg, .int .i64 pl, .int .i64 len] 31) = w6 at *
            have hpy6 := hpy5.on hbP
            have hX6 := hX.on hbP
            have hPB : B ≤ w5.heap.size := hpy5.le
            have hPX : X < w5.heap.size := hX.lt
            have hPv : vr.ownBlock ≠ some w5.heap.size := fun hh => by have := (hpy5.ref.own.lt _ hh).2; omega
            have hP7 : u7.ownBlock ≠ some w5.heap.size := fun hh => by have := (hpy5.own.lt _ hh).2; omega
            generalize w5.heap.size = P at *
            clear x0 x3 x4 x5 hbP hX hpy5
            obtain ⟨ga, gc, rfl, hloc⟩ := own_locs hpy6.own (by omega)
            have hlc := hloc.2.1
            have x0 : w6.cell? ⟨X, 0, none⟩ = some (.int .i64 what) := by rw [hX6.cell]; rfl
            have x1 : w6.cell? ⟨X, 1, none⟩ = some (.int .i64 nn) := by rw [hX6.cell]; rfl
            go_cut [111] (fun s111 wx => w6 = wx ∧ s111 = .bool (decide (what = 3 ∧ 0 ≤ nn ∧ nn < (G.length : Int))))
            case first =>
              by_cases q3 : what = 3
              · have q3' : (what == 3) = true := by simp [q3]
                have HQ := Lib.hid q3
                clear q3
                by_cases q4 : 0 ≤ nn
                · by_cases q5 : nn < (G.length : Int)
                  · go_wp2_with fail
                    go_meet
                    exact ⟨rfl, by simp [HQ.out, q4, q5]⟩
                  · go_wp2_with fail
                    go_meet
                    exact ⟨rfl, by simp; intro _ _; omega⟩
                · go_wp2_with fail
                  go_meet
                  exact ⟨rfl, by simp; intro _ _; omega⟩
              · have q3' : (what == 3) = false := by simpa using q3
                have HQ := Lib.hid q3
                clear q3
                go_wp2_with fail
                go_meet
                exact ⟨rfl, by simp [HQ.out]⟩
            case rest =>
            obtain ⟨rfl, rfl⟩ := hcut
            go_upto_if 111 with fail
            go_cut [] (fun wx => ∃ q0 q1 q2 : Int, isInt q0 ∧ isInt q1 ∧ isInt q2 ∧ Blk wx P [.int .i64 q0, .int .i64 q1, .int .i64 q2] 31 ∧ PlayR w B b g cap ms r N M i (.slice ga G.length gc) vr S wx G ∧ Blk wx X [.int .i64 what, .int .i64 nn, .bool sp, .int .i64 seg, .int .i64 pl, .int .i64 len] 33)
            case first =>
              by_cases q : what = 3 ∧ 0 ≤ nn ∧ nn < (G.length : Int)
              · have hq : decide (what = 3 ∧ 0 ≤ nn ∧ nn < (G.length : Int)) = true := by simp only [decide_eq_true_eq]; exact q
                rw [hq]
                clear hq
                obtain ⟨q3, q4, q5⟩ := q
                clear q3
                obtain ⟨k, rfl⟩ := Int.eq_ofNat_of_zero_le q4
                clear q4
                obtain ⟨p, hp⟩ : ∃ p, G[k]? = some p := ⟨_, List.getElem?_eq_getElem (by omega)⟩
                obtain ⟨GG, rfl, hGG, k0, k1, k2⟩ := hloc.2.2.2 k p hp
                have hpf := hpy6.fit p (List.mem_of_getElem? hp)
                clear hp
                go_upto_region 20 with fail
                refine wp_region_seq ?_
                refine seq_step (by rfl) (fun K hK => ?_)
                go_simp
                refine hK.out _ _ ?_
                clear hK K
                refine seq_step (by rfl) (fun K hK => ?_)
                go_simp
                refine hK.out _ _ ?_
                clear hK K
                refine seq_step (by rfl) (fun K hK => ?_)
                go_simp
                refine hK.out _ _ ?_
                clear hK K
                refine seq_step (by rfl) (fun K hK => ?_)
                go_simp
                refine hK.out _ _ ?_
                clear hK K
                refine seq_step (by rfl) (fun K hK => ?_)
                go_simp
                refine hK.out _ _ ?_
                clear hK K
                refine seq_step (by rfl) (fun K hK => ?_)
                refine wp_store_row 31 _ _ rfl P _ rfl rfl 31 _ hP rfl rfl (by simp [Value.oneCell']) ?_
                refine hK.out _ _ (seq_nil ?_)
                clear hK K
                have hP8 := setRow_blk hP [.int .i64 p.seg, .int .i64 p.pl, .int .i64 p.n]
                have hmP := setRow_mod w6 P #[.int .i64 p.seg, .int .i64 p.pl, .int .i64 p.n]
                have hpy8 := hpy6.away hmP hPB hPv hP7
                have hX8 := hX6.mod hmP (by simp; omega)
                simp only [Act.put, List.setIfInBounds_toArray, List.set_cons_zero, List.set_cons_succ]
                change Blk (w6.setRow P #[.int .i64 p.seg, .int .i64 p.pl, .int .i64 p.n]) P [.int .i64 p.seg, .int .i64 p.pl, .int .i64 p.n] 31 at hP8
                generalize w6.setRow P #[.int .i64 p.seg, .int .i64 p.pl, .int .i64 p.n] = w7 at *
                clear k0 k1 k2 x0 x1 hmP hpy6 hX6 hP
                go_wp2_with fail
                go_meet
                exact ⟨p.seg, p.pl, p.n, by unfold isInt; omega, by unfold isInt; omega, by unfold isInt; omega, hP8, hpy8, hX8⟩
              · have hq : decide (what = 3 ∧ 0 ≤ nn ∧ nn < (G.length : Int)) = false := by simp only [decide_eq_false_iff_not]; exact q
                rw [hq]
                clear hq q
                go_wp2_with fail
                go_meet
                exact ⟨seg, pl, len, hi3, hi4, hi5, hP, hpy6, hX6⟩
            case rest =>
            obtain ⟨q0, q1, q2, hq0, hq1, hq2, hP8, hpy8, hX8⟩ := hcut
            generalize wc = w8 at *
            go_upto_region 21 with fail
            clear hpy6 hX6 hP x0 x1 hloc hi2 hi3 hi4 hi5 hi1
            have hgd := hpy8.good.drop q0 q1 q2
            have hdr := drop_segs S q0 q1 q2
            have HFr : ∀ w', SpAt w' b g cap ms S → Calls Try.prog 11 #[.pointer (some ⟨b, 0, none⟩), .agg #[.int .i64 q0, .int .i64 q1, .int .i64 q2]] w' (FreeEnds S b g cap ms q0 q1 q2 w') := fun w' hh => free_any S hpy8.good hc2 b g cap ms q0 q1 q2 hq0 hq1 hq2 w' hh
            have HRf : ∀ w', RAt w' B r vr S → B ≤ w'.heap.size → Calls Try.prog 12 #[.pointer (some ⟨r, 0, none⟩), .agg #[.int .i64 q0, .int .i64 q1, .int .i64 q2]] w' (REnds B r vr (S.drop q0 q1 q2).2 (.int .i64 ((S.drop q0 q1 q2).1 : Nat)) w') := fun w' hh hB' => rfree_any S hpy8.good hc2 B r vr q0 q1 q2 hq0 hq1 hq2 w' hh hB'
            unfold FreeEnds at HFr
            have hcnt : (S.drop q0 q1 q2).2.cnt ≤ i + 1 := by rw [hdr.2.2]; have := hpy8.cnt; omega
            generalize S.drop q0 q1 q2 = rr at *
            obtain ⟨code, S2⟩ := rr
            simp only at HFr HRf hgd hdr hcnt
            replace HFr := Lib.hid HFr
            replace HRf := Lib.hid HRf
            have hPn : P ∉ b :: g :: ms := fun hx => by have := (hpy8.foot P (List.mem_cons_of_mem _ hx)).2; omega
            have hXn : X ∉ b :: g :: ms := fun hx => by have := (hpy8.foot X (List.mem_cons_of_mem _ hx)).2; omega
            have hXr : X ∉ r :: vr.ownBlock.toList := fun hx => by
              rcases List.mem_cons.1 hx with rfl | hx
              · have := (hpy8.foot X (by simp)).2; omega
              · exact hXv (by simpa using hx)
            have HF := Lib.hid (show ∀ w', Mod (b :: g :: ms) w8 w' → (w'.cell? ⟨P, 0, none⟩ = some (.int .i64 q0) ∧ w'.cell? ⟨P, 1, none⟩ = some (.int .i64 q1) ∧ w'.cell? ⟨P, 2, none⟩ = some (.int .i64 q2)) from
              fun w' hm => ⟨by rw [(hP8.mod hm hPn).cell]; rfl, by rw [(hP8.mod hm hPn).cell]; rfl, by rw [(hP8.mod hm hPn).cell]; rfl⟩)
            refine wp_region_float [0, 1, 3, 4] [2, 5, 6] [5, 6] (fun w' => Mod (b :: g :: ms) w8 w') (by kernel_rfl) (by kernel_rfl) (by kernel_rfl) (by kernel_rfl) (fun c a d v w h => by cases d <;> exact h) ((Mod.refl _ _).drew) ?_
            have hS : Mod (b :: g :: ms) w8 { w8 with drawn := w8.drawn + 1 } := (Mod.refl _ _).drew
            have hs9 : SpAt { w8 with drawn := w8.drawn + 1 } b g cap ms S := hpy8.at_.on (below_drew (Below.refl _ _))
            generalize ({ w8 with drawn := w8.drawn + 1 } : World) = w9 at *
            simp only [pick, List.map_cons, List.map_nil, List.getD_cons_zero, List.getD_cons_succ]
            repeat (
              refine takes_val (v := ?_) ?_ (fun w' hS => ?_) ?_
              rotate_left
              · rfl
              · obtain ⟨k0, k1, k2⟩ := HF.out w' hS
                go_simp
                with_reducible rfl
              simp only [Act.put, List.setIfInBounds_toArray, List.set_cons_zero, List.set_cons_succ])
            refine takes_nil ?_
            refine seqW_step (by rfl) (fun K hK => ?_)
            go_simp
            refine (HFr.out w9 hs9).mono ?_
            rintro e w10 ⟨rfl, hs10, hm10⟩
            have hm810 := hS.trans hm10
            obtain ⟨hr10, hB10⟩ := hpy8.refs hm810
            refine hK.out _ _ (.inr hm810) ?_
            clear hK K
            refine seqW_step (by rfl) (fun K hK => ?_)
            go_simp
            refine (HRf.out w10 hr10 hB10).mono ?_
            rintro e w11 ⟨v2, rfl, hr11, hm11, hmv⟩
            refine hK.out _ _ (.inl (by rfl)) ?_
            clear hK K
            refine seqW_step (by rfl) (fun K hK => ?_)
            go_simp
            refine hK.out _ _ (.inl (by rfl)) (seqW_nil ?_)
            clear hK K HF HFr HRf
            have hpy11 := hpy8.two hs10 hm810 hr11 hm11 hmv hgd (hdr.1.trans hpy8.segs) (hdr.2.1.trans hpy8.per) hcnt
            have hX11 := (hX8.mod hm810 hXn).mod hm11 hXr
            clear hpy8 hX8 hP8 hs9 hs10 hm10 hm810 hr10 hr11 hm11 hmv hS
            go_wp2_with fail
            go_meet
            exact ⟨v2, S2, G, hpy11, hX11⟩
          · have hq : decide (what = 3 ∨ what = 4) = false := by simp only [decide_eq_false_iff_not]; exact q
            rw [hq]
            clear hq q
            by_cases q5 : what = 5
            · have q5' : (what == 5) = true := by simp [q5]
              clear q5
              go_upto_region 24 with fail
              clear x0
              have hgd := hpy5.good.take seg pl len
              have hdr := take_segs S seg pl len
              have HFr : ∀ w', SpAt w' b g cap ms S → Calls Try.prog 13 #[.pointer (some ⟨b, 0, none⟩), .agg #[.int .i64 seg, .int .i64 pl, .int .i64 len]] w' (TakeEnds S b g cap ms seg pl len w') := fun w' hh => take_any S hpy5.good hc2 b g cap ms seg pl len hi3 hi4 hi5 w' hh
              have HRf : ∀ w', RAt w' B r vr S → B ≤ w'.heap.size → Calls Try.prog 14 #[.pointer (some ⟨r, 0, none⟩), .agg #[.int .i64 seg, .int .i64 pl, .int .i64 len]] w' (REnds B r vr (S.take seg pl len).2 (.int .i64 ((S.take seg pl len).1 : Nat)) w') := fun w' hh hB' => rtake_any S hpy5.good hc2 B r vr seg pl len hi3 hi4 hi5 w' hh hB'
              unfold TakeEnds at HFr
              have hcnt : (S.take seg pl len).2.cnt ≤ i + 1 := by have := hdr.2.2; have := hpy5.cnt; omega
              generalize S.take seg pl len = rr at *
              obtain ⟨code, S2⟩ := rr
              simp only at HFr HRf hgd hdr hcnt
              replace HFr := Lib.hid HFr
              replace HRf := Lib.hid HRf
              have hXn : X ∉ b :: g :: ms := fun hx => by have := (hpy5.foot X (List.mem_cons_of_mem _ hx)).2; omega
              have hXr : X ∉ r :: vr.ownBlock.toList := fun hx => by
                rcases List.mem_cons.1 hx with rfl | hx
                · have := (hpy5.foot X (by simp)).2; omega
                · exact hXv (by simpa using hx)
              have HF := Lib.hid (show ∀ w', Mod (b :: g :: ms) w5 w' → (w'.cell? ⟨X, 3, none⟩ = some (.int .i64 seg) ∧ w'.cell? ⟨X, 4, none⟩ = some (.int .i64 pl) ∧ w'.cell? ⟨X, 5, none⟩ = some (.int .i64 len)) from
                fun w' hm => ⟨by rw [(hX.mod hm hXn).cell]; rfl, by rw [(hX.mod hm hXn).cell]; rfl, by rw [(hX.mod hm hXn).cell]; rfl⟩)
              refine wp_region_float [0, 1, 2, 4, 5, 6] [3, 7, 8] [7, 8] (fun w' => Mod (b :: g :: ms) w5 w') (by kernel_rfl) (by kernel_rfl) (by kernel_rfl) (by kernel_rfl) (fun c a d v w h => by cases d <;> exact h) ((Mod.refl _ _).drew) ?_
              have hS : Mod (b :: g :: ms) w5 { w5 with drawn := w5.drawn + 1 } := (Mod.refl _ _).drew
              have hs9 : SpAt { w5 with drawn := w5.drawn + 1 } b g cap ms S := hpy5.at_.on (below_drew (Below.refl _ _))
              generalize ({ w5 with drawn := w5.drawn + 1 } : World) = w9 at *
              simp only [pick, List.map_cons, List.map_nil, List.getD_cons_zero, List.getD_cons_succ]
              repeat (
                refine takes_val (v := ?_) ?_ (fun w' hS => ?_) ?_
                rotate_left
                · rfl
                · obtain ⟨k0, k1, k2⟩ := HF.out w' hS
                  go_simp
                  with_reducible rfl
                simp only [Act.put, List.setIfInBounds_toArray, List.set_cons_zero, List.set_cons_succ])
              refine takes_nil ?_
              refine seqW_step (by rfl) (fun K hK => ?_)
              go_simp
              refine (HFr.out w9 hs9).mono ?_
              rintro e w10 ⟨rfl, hs10, hm10⟩
              have hm810 := hS.trans hm10
              obtain ⟨hr10, hB10⟩ := hpy5.refs hm810
              refine hK.out _ _ (.inr hm810) ?_
              clear hK K
              refine seqW_step (by rfl) (fun K hK => ?_)
              go_simp
              refine (HRf.out w10 hr10 hB10).mono ?_
              rintro e w11 ⟨v2, rfl, hr11, hm11, hmv⟩
              refine hK.out _ _ (.inl (by rfl)) ?_
              clear hK K
              refine seqW_step (by rfl) (fun K hK => ?_)
              go_simp
              refine hK.out _ _ (.inl (by rfl)) (seqW_nil ?_)
              clear hK K HF HFr HRf
              have hpy11 := hpy5.two hs10 hm810 hr11 hm11 hmv hgd (hdr.1.trans hpy5.segs) (hdr.2.1.trans hpy5.per) hcnt
              have hX11 := (hX.mod hm810 hXn).mod hm11 hXr
              clear hpy5 hX hs9 hs10 hm10 hm810 hr10 hr11 hm11 hmv hS
              go_wp2_with fail
              go_meet
              exact ⟨v2, S2, G, hpy11, hX11⟩
            · have q5' : (what == 5) = false := by simpa using q5
              clear q5
              have hls := alloc_ls S nn sp
              have hsg := alloc_segs S nn sp
              have hgd := hpy5.good.alloc nn sp
              have HA : Calls Try.prog 15 #[.pointer (some ⟨b, 0, none⟩), .int .i64 nn, .bool sp] w5 (AllocEnds S b g cap ms nn sp w5) := alloc_any S hpy5.good hc2 b g cap ms nn sp hi2 w5 hpy5.at_
              have HR : ∀ w', RAt w' B r vr S → B ≤ w'.heap.size → Calls Try.prog 16 #[.pointer (some ⟨r, 0, none⟩), .int .i64 nn, .bool sp] w' (REnds B r vr (S.alloc nn sp).2.2 (allocR S nn sp) w') := fun w' hh hB' => ralloc_any S hpy5.good hc2 B r vr nn sp hi2 w' hh hB'
              unfold AllocEnds at HA
              unfold allocR at HR
              generalize S.alloc nn sp = rr at *
              obtain ⟨⟨x, y, z⟩, err, S2⟩ := rr
              simp only at HA HR hgd hsg hls
              replace HA := Lib.hid HA
              replace HR := Lib.hid HR
              have HLS := Lib.hid hls
              clear hls
              have hXn : X ∉ b :: g :: ms := fun hx => by have := (hpy5.foot X (List.mem_cons_of_mem _ hx)).2; omega
              have hXr : X ∉ r :: vr.ownBlock.toList := fun hx => by
                rcases List.mem_cons.1 hx with rfl | hx
                · have := (hpy5.foot X (by simp)).2; omega
                · exact hXv (by simpa using hx)
              have x1 : w5.cell? ⟨X, 1, none⟩ = some (.int .i64 nn) := by rw [hX.cell]; rfl
              have x2 : w5.cell? ⟨X, 2, none⟩ = some (.bool sp) := by rw [hX.cell]; rfl
              go_wp2_with fail
              refine HA.out.mono ?_
              rintro e w6 ⟨rfl, hs6, hm6⟩
              go_upto_region 11 with fail
              have hT : Blk (w6.alloc (.cells #[.int .i64 (x : Nat), .int .i64 (y : Nat), .int .i64 (z : Nat)] 31)) w6.heap.size [.int .i64 (x : Nat), .int .i64 (y : Nat), .int .i64 (z : Nat)] 31 := Blk.new _ _ _
              have hbT := (Below.refl w6.heap.size w6).alloc (Nat.le_refl _) (.cells #[.int .i64 (x : Nat), .int .i64 (y : Nat), .int .i64 (z : Nat)] 31)
              generalize w6.alloc (.cells #[.int .i64 (x : Nat), .int .i64 (y : Nat), .int .i64 (z : Nat)] 31) = w7 at *
              have hm57 := hm6.thenBelow hbT
              have hs7 := hs6.on hbT
              obtain ⟨hr7, hB7⟩ := hpy5.refs hm57
              have hX7b := hX.mod hm57 hXn
              have hTB : B ≤ w6.heap.size := Nat.le_trans hpy5.le hm6.size
              have hTr : w6.heap.size ∉ r :: vr.ownBlock.toList := fun hx => by
                have hsz := hm6.size
                rcases List.mem_cons.1 hx with hx | hx
                · have := (hpy5.foot r (by simp)).2; omega
                · have := (hpy5.ref.own.lt w6.heap.size (by simpa using hx)).2; omega
              generalize w6.heap.size = T at *
              clear x0 x1 x2 HA hs6 hm6 hbT
              have x1 : w7.cell? ⟨X, 1, none⟩ = some (.int .i64 nn) := by rw [hX7b.cell]; rfl
              have x2 : w7.cell? ⟨X, 2, none⟩ = some (.bool sp) := by rw [hX7b.cell]; rfl
              go_wp2_with fail
              refine (HR.out w7 hr7 hB7).mono ?_
              rintro e w8 ⟨v2, rfl, hr8, hm8, hmv⟩
              have hpy8 := hpy5.two hs7 hm57 hr8 hm8 hmv hgd (hsg.1.trans hpy5.segs) (hsg.2.1.trans hpy5.per) (by have := hpy5.cnt; omega)
              have hX8 := hX7b.mod hm8 hXr
              have hT8 := hT.mod hm8 hTr
              clear x1 x2 HR hs7 hm57 hr7 hr8 hm8 hmv hX7b hT hpy5 hX
              go_upto_region 12 with fail
              have hU : Blk (w8.alloc (.cells #[.int .i64 (x : Nat), .int .i64 (y : Nat), .int .i64 (z : Nat)] 31)) w8.heap.size [.int .i64 (x : Nat), .int .i64 (y : Nat), .int .i64 (z : Nat)] 31 := Blk.new _ _ _
              have hbU := (Below.refl w8.heap.size w8).alloc (Nat.le_refl _) (.cells #[.int .i64 (x : Nat), .int .i64 (y : Nat), .int .i64 (z : Nat)] 31)
              generalize w8.alloc (.cells #[.int .i64 (x : Nat), .int .i64 (y : Nat), .int .i64 (z : Nat)] 31) = w9 at *
              have hpy9 := hpy8.on hbU
              have hX9 := hX8.on hbU
              have hT9 := hT8.on hbU
              generalize w8.heap.size = U at *
              clear hpy8 hX8 hT8 hbU
              have t0 : w9.cell? ⟨T, 0, none⟩ = some (.int .i64 (x : Nat)) := by rw [hT9.cell]; rfl
              have t1 : w9.cell? ⟨T, 1, none⟩ = some (.int .i64 (y : Nat)) := by rw [hT9.cell]; rfl
              have t2 : w9.cell? ⟨T, 2, none⟩ = some (.int .i64 (z : Nat)) := by rw [hT9.cell]; rfl
              have z0 : w9.cell? ⟨U, 0, none⟩ = some (.int .i64 (x : Nat)) := by rw [hU.cell]; rfl
              have z1 : w9.cell? ⟨U, 1, none⟩ = some (.int .i64 (y : Nat)) := by rw [hU.cell]; rfl
              have z2 : w9.cell? ⟨U, 2, none⟩ = some (.int .i64 (z : Nat)) := by rw [hU.cell]; rfl
              by_cases he : err = 0
              · subst he
                have hls2 := (HLS.out.resolve_right (fun hh => hh.1 rfl)).2
                have hfit := hpy9.good.inv.fit ⟨x, y, z⟩ (by rw [hls2]; simp)
                have hseg := hpy9.good.inv.segs
                have hper := hpy9.good.inv.per
                simp only at hfit
                obtain ⟨v8, w10, hrun, hown10, hm10, hmv10⟩ := row_append hpy9.own (by omega) hpy9.le ⟨x, y, z⟩ 29 #[.int .i64 (x : Nat), .int .i64 (y : Nat), .int .i64 (z : Nat)] rfl w9.heap.size rfl
                have hpy10 := hpy9.give hgl ⟨x, y, z⟩ hown10 hm10 hmv10 ⟨by show x ≤ 64; omega, by show y ≤ 64; omega, by show z ≤ 64; omega⟩
                have hX10 := hX9.mod hm10 (fun hx => hX7 (by simpa using hx))
                clear HLS hls2 hfit hown10 hm10 hmv10 hpy9 hX9 hT9 hU
                go_wp2_with (at_builtin; (with_reducible refine wpList_append_run rfl _ _ _ rfl _ _ _ _ ?_ ?_ hrun ?_); rfl; rfl)
                go_meet
                exact ⟨v2, S2, G ++ [⟨x, y, z⟩], hpy10, hX10⟩
              · have hez : ((err : Int) == 0) = false := by simpa using he
                clear he HLS hT9 hU
                go_wp2_with fail
                go_meet
                exact ⟨v2, S2, G, hpy9, hX9⟩
        case rest =>
        obtain ⟨v2, S2, G2, hpy2, hX2⟩ := hcut
        generalize wc = w6 at *
        clear hpy5 hX x0 hXv hX7 hc2 hgl hi1 hi2 hi3 hi4 hi5
        have hS2 := hpy2.good
        have hc3 : S2.cnt < 10000 := by have := hpy2.cnt; omega
        have hsg := hS2.inv.segs
        have HV := Lib.hid (victim_any S2 b g cap ms w6 hpy2.at_ hsg.2 (fun x _ => by have := hS2.live hc3 x; omega))
        have HRV : ∀ w', RAt w' B r v2 S2 → Calls Try.prog 18 #[.pointer (some ⟨r, 0, none⟩)] w' (fun e w'' => e = .returned (victimV S2.victim) ∧ w' = w'') := fun w' hh => rvictim_any S2 hS2 hc3 B r v2 w' hh
        rw [victimV_eq] at HRV
        replace HRV := Lib.hid HRV
        generalize S2.victim.getD 0 = vic at *
        generalize S2.victim.isSome = is at *
        go_wp2_with fail
        refine HV.out.mono ?_
        rintro e w7 ⟨rfl, hb7⟩
        have hpy7 := hpy2.on hb7
        have hX7 := hX2.on hb7
        clear HV hpy2 hX2 hb7
        go_wp2_with fail
        refine (HRV.out w7 hpy7.ref).mono ?_
        rintro e w8 ⟨rfl, rfl⟩
        clear HRV
        go_upto_region 28 with fail
        have HF := Lib.hid (show ∀ w', Below w7.heap.size w7 w' → w'.cell? ⟨X, 1, none⟩ = some (.int .i64 nn) from fun w' hb => by rw [(hX7.on hb).cell]; rfl)
        refine wp_region_settleF (Below w7.heap.size w7) (by kernel_rfl) (by kernel_rfl) (by kernel_rfl) (below_drew (Below.refl _ _)) ?_
        repeat (first
          | (refine settled_not ?_ ?_
             · rfl
             simp only [Act.put, List.setIfInBounds_toArray, List.set_cons_zero, List.set_cons_succ])
          | (refine settled_val (v := ?_) ?_ (fun w' hS => ?_) ?_
             rotate_left
             · rfl
             · have k0 := HF.out w' hS
               go_simp
               with_reducible rfl
             simp only [Act.put, List.setIfInBounds_toArray, List.set_cons_zero, List.set_cons_succ])
          | (refine settled_call (f := 19) (v := .int .i64 (S2.empty : Nat)) ?_ (fun w' hS => ?_) (fun w' hS => ((empty_any S2 b g cap ms w' (hpy7.at_.on hS) hsg.2).mono fun e w'' ⟨h1, h2⟩ => ⟨h1, hS.on h2⟩)) ?_
             · rfl
             · go_simp
             simp only [Act.put, List.setIfInBounds_toArray, List.set_cons_zero, List.set_cons_succ])
          | (refine settled_call (f := 20) (v := .int .i64 (S2.empty : Nat)) ?_ (fun w' hS => ?_) (fun w' hS => ((rempty_any S2 hS2 hc3 B r v2 w' (hpy7.ref.on hS)).mono fun e w'' ⟨h1, h2⟩ => ⟨h1, by rw [← h2]; exact hS⟩)) ?_
             · rfl
             · go_simp
             simp only [Act.put, List.setIfInBounds_toArray, List.set_cons_zero, List.set_cons_succ])
          | (refine settled_call (f := 21) (v := .int .i64 (S2.liveOf nn : Nat)) ?_ (fun w' hS => ?_) (fun w' hS => ((live_any S2 b g cap ms nn w' (hpy7.at_.on hS) hsg.2).mono fun e w'' ⟨h1, h2⟩ => ⟨h1, by rw [← h2]; exact hS⟩)) ?_
             · rfl
             · go_simp
             simp only [Act.put, List.setIfInBounds_toArray, List.set_cons_zero, List.set_cons_succ])
          | (refine settled_call (f := 22) (v := .int .i64 (S2.liveOf nn : Nat)) ?_ (fun w' hS => ?_) (fun w' hS => ((rlive_any S2 hS2 hc3 B r v2 nn w' (hpy7.ref.on hS)).mono fun e w'' ⟨h1, h2⟩ => ⟨h1, by rw [← h2]; exact hS⟩)) ?_
             · rfl
             · go_simp
             simp only [Act.put, List.setIfInBounds_toArray, List.set_cons_zero, List.set_cons_succ])
          | (refine settled_call (f := 21) (v := .int .i64 (S2.liveOf (vic : Nat) : Nat)) ?_ (fun w' hS => ?_) (fun w' hS => ((live_any S2 b g cap ms (vic : Nat) w' (hpy7.at_.on hS) hsg.2).mono fun e w'' ⟨h1, h2⟩ => ⟨h1, by rw [← h2]; exact hS⟩)) ?_
             · rfl
             · go_simp
             simp only [Act.put, List.setIfInBounds_toArray, List.set_cons_zero, List.set_cons_succ])
          | (refine settled_call (f := 22) (v := .int .i64 (S2.liveOf (vic : Nat) : Nat)) ?_ (fun w' hS => ?_) (fun w' hS => ((rlive_any S2 hS2 hc3 B r v2 (vic : Nat) w' (hpy7.ref.on hS)).mono fun e w'' ⟨h1, h2⟩ => ⟨h1, by rw [← h2]; exact hS⟩)) ?_
             · rfl
             · go_simp
             simp only [Act.put, List.setIfInBounds_toArray, List.set_cons_zero, List.set_cons_succ]))
        refine settled_nil (fun w9 hS => ?_)
        have hpy9 := hpy7.on hS
        clear HF hpy7 hX7 hS
        go_wp2_with fail
        go_roundw
        case rel => exact ⟨i + 1, v2, S2, G2, by omega, by omega, by go_num, hpy9⟩
        case measure => simp [intOf]; omega
      · have hbf := hpy.bel
        by_cases hin2 : i < n
        · have h100 : ¬ (i < 100) := fun hx => hlt ⟨hin2, hx⟩
          clear hlt hpy
          go_wp2_with fail
          refine (works_any wr).mono ?_
          rintro e w5 ⟨rfl, hb5⟩
          have hbg := hbf.on hb5
          go_wp2_with fail
          go_ret
          exact ⟨rfl, hbg⟩
        · clear hlt hpy
          go_wp2_with fail
          refine (works_any wr).mono ?_
          rintro e w5 ⟨rfl, hb5⟩
          have hbg := hbf.on hb5
          go_wp2_with fail
          go_ret
          exact ⟨rfl, hbg⟩
end Go.Proofs.Ytmicpjdlldjapaa
