/-
  The walk of package lrec's read. Condition: the text is shorter than 2^47.
-/
import Derived.Test.YtjlhkmkjegamdaaLrecD
import Derived.RangeFuncBox
namespace Go.Proofs.Ytjlhkmkjegamdaa
set_option linter.unusedVariables false
set_option linter.unusedSimpArgs false
open Go.RowKit

set_option maxRecDepth 100000 in
set_option maxHeartbeats 4000000 in
theorem read_any (s : List UInt8) (w : World) (hs : s.length ≤ 140737488355000) :
    Calls Try.prog 38 #[.string ⟨s.toArray⟩] w (ReadEnds w (readAll s)) := by
  have hshort : Wire.Rd.short (some s) := fun l hl => by cases hl; omega
  go_enter Try.func38, Try.ntmps38
  go_wp2_with fail
  have hE0 : Blk (w.alloc (.cells #[.int .u64 0, .int .u64 0, .slice none 0 0] 27)) w.heap.size (entryCells 0 0 none 0 0) 27 := Blk.new _ _ _
  have hb0 := (Below.refl w.heap.size w).alloc (Nat.le_refl _) (.cells #[.int .u64 0, .int .u64 0, .slice none 0 0] 27)
  generalize w.alloc (.cells #[.int .u64 0, .int .u64 0, .slice none 0 0] 27) = w0 at *
  refine (newReader_any s w0).mono ?_
  rintro e w1 ⟨rfl, hr1, hb1⟩
  generalize hR : w0.heap.size = R at *
  have hRE : w.heap.size < R := by rw [← hR]; exact hE0.lt
  have hE1 : Blk w1 w.heap.size (entryCells 0 0 none 0 0) 27 := hE0.of_block (hb1.block _ hRE)
  have hbel1 : Below w.heap.size w w1 := hb0.trans (hb1.mono (by omega))
  clear hE0 hb0 hb1 hR
  go_wp2_with fail
  refine (rText_any R (some s) w1 hr1 hshort).mono ?_
  rintro e w2 ⟨rfl, hr2, hm2⟩
  have hE2 := hE1.mod hm2 (by simp; omega)
  have hbel2 : Below w.heap.size w w2 := Mod.fresh hbel1 hm2 (by simp; omega)
  clear hE1 hbel1 hm2 hr1
  cases hq : Wire.rText (some s) with
  | mk sealed rd =>
  rw [hq] at hr2
  simp only at hr2
  have hsl := rText_len hq
  cases ho : openI sealed with
  | mk text is =>
  have htl := open_len sealed
  rw [ho] at htl
  simp only at htl
  have HA := Lib.hid (show readAll s = if rd.isSome && is then (readText text).map fun e => (e, (Wire.putText sealed).length) else none by
    unfold readAll; rw [hq]; simp only; rw [ho])
  have HO := Lib.hid ho
  clear hq ho
  go_wp2_with fail
  refine (open_any sealed _ (by unfold maxLen; omega)).mono ?_
  rw [HO.out]
  rintro e w3 ⟨rfl, hb3⟩
  have hr3 : RdAt w3 R rd := hr2.on hb3
  have hE3 := hE2.on hb3
  have hbel3 := hbel2.on hb3
  clear hr2 hE2 hbel2 hb3
  cases rd with
  | none =>
    go_wp2_with fail
    refine (ok_any R none _ hr3).mono ?_
    rintro e w4 ⟨rfl, rfl⟩
    go_wp2_with fail
    refine (must_false _).mono ?_
    rintro e w4 ⟨rfl, rfl⟩
    refine ⟨rfl, hbel3, ?_⟩
    rw [HA.out]
    rfl
  | some l0 =>
    cases his : is
    · go_wp2_with fail
      refine (ok_any R (some l0) _ hr3).mono ?_
      rintro e w4 ⟨rfl, rfl⟩
      go_wp2_with fail
      refine (must_false _).mono ?_
      rintro e w4 ⟨rfl, rfl⟩
      refine ⟨rfl, hbel3, ?_⟩
      rw [HA.out, his]
      rfl
    · have HA2 := Lib.hid (show readAll s = (readText text).map fun e => (e, (Wire.putText sealed).length) by rw [HA.out, his]; rfl)
      clear HA
      have hst : Wire.Rd.short (some text) := fun l hl => by cases hl; omega
      have p1 := (Wire.put_length 9 sealed.length).2
      have hpl : (Wire.putText sealed).length ≤ 140737488355100 := by unfold Wire.putText Wire.putNum; rw [List.length_append]; omega
      clear p1
      go_wp2_with fail
      refine (ok_any R (some l0) _ hr3).mono ?_
      rintro e w4 ⟨rfl, rfl⟩
      go_wp2_with fail
      refine (must_true _).mono ?_
      rintro e w4 ⟨rfl, rfl⟩
      go_wp2_with fail
      refine (putText_any [] sealed _ (by simp; omega)).mono ?_
      rw [List.nil_append]
      rintro e w4 ⟨rfl, hb4⟩
      have hE4 := hE3.on hb4
      have hbel4 := hbel3.on hb4
      clear hE3 hbel3 hb4 hr3
      go_wp2_with fail
      refine (newReader_any text w4).mono ?_
      rintro e w5 ⟨rfl, hr5, hb5⟩
      have hR2 : w.heap.size < w4.heap.size := hE4.lt
      have hE5 := hE4.on hb5
      have hbel5 := hbel4.on hb5
      clear hE4 hbel4 hb5 hRE
      generalize w4.heap.size = Q at *
      have hQlt := hr5.lt
      cases ha : Wire.rNum (some text) with
      | mk a ra =>
      cases hb : Wire.rNum ra with
      | mk b rb =>
      cases hc : Wire.rNum rb with
      | mk c rc =>
      have sa : Wire.Rd.short ra := by have := rNum_short hst; rw [ha] at this; exact this
      have sb : Wire.Rd.short rb := by have := rNum_short sa; rw [hb] at this; exact this
      have sc : Wire.Rd.short rc := by have := rNum_short sb; rw [hc] at this; exact this
      have hal : a < U64 := by have := Wire.rNum_lt (some text); rw [ha] at this; exact this
      have hbl : b < U64 := by have := Wire.rNum_lt ra; rw [hb] at this; exact this
      have HT := Lib.hid (show readText text = if 6 < c then none else match readOps c b rc with
        | none => none
        | some (rs, r) => if r = some [] ∧ checkRes a b rs = 0 then some ⟨a, b, rs⟩ else none by
          unfold readText; rw [ha]; simp only; rw [hb]; simp only; rw [hc]; rfl)
      have Ha := Lib.hid ha
      have Hb := Lib.hid hb
      have Hc := Lib.hid hc
      clear ha hb hc
      obtain ⟨e0, e1, e2⟩ := entry_load hE5
      go_wp2_with fail
      refine (rNum_any Q (some text) _ hr5 hst).mono ?_
      rw [Ha.out]
      rintro e w6 ⟨rfl, hr6, hm6⟩
      go_wp2_with fail
      refine (rNum_any Q ra _ hr6 sa).mono ?_
      rw [Hb.out]
      rintro e w7 ⟨rfl, hr7, hm7⟩
      have hm57 := hm6.trans hm7
      have hE7 := hE5.mod hm57 (by simp; omega)
      have hbel7 : Below w.heap.size w w7 := Mod.fresh hbel5 hm57 (by simp; omega)
      obtain ⟨g0, g1, g2⟩ := entry_load hE7
      have f0 := hE7.free 0
      have f1 := hE7.free 1
      clear e0 e1 e2 hE5 hbel5 hm57 hm6 hm7 hr6 hr5
      go_wp2_with fail
      have hE8 : Blk ((w7.setCell ⟨w.heap.size, 0, none⟩ (.int .u64 a)).setCell ⟨w.heap.size, 1, none⟩ (.int .u64 b)) w.heap.size (entryCells a b none 0 0) 27 := (hE7.set 0 (.int .u64 a)).set 1 (.int .u64 b)
      have hr8 : RdAt ((w7.setCell ⟨w.heap.size, 0, none⟩ (.int .u64 a)).setCell ⟨w.heap.size, 1, none⟩ (.int .u64 b)) Q rb := Blk.other (Blk.other hr7 _ _ (by simp; omega)) _ _ (by simp; omega)
      have hbel8 : Below w.heap.size w ((w7.setCell ⟨w.heap.size, 0, none⟩ (.int .u64 a)).setCell ⟨w.heap.size, 1, none⟩ (.int .u64 b)) := (hbel7.setCell (by simp) _).setCell (by simp) _
      generalize (w7.setCell ⟨w.heap.size, 0, none⟩ (.int .u64 a)).setCell ⟨w.heap.size, 1, none⟩ (.int .u64 b) = w8 at *
      clear g0 g1 g2 f0 f1 hE7 hr7 hbel7
      refine (rNum_any Q rb _ hr8 sb).mono ?_
      rw [Hc.out]
      rintro e w9 ⟨rfl, hr9, hm9⟩
      have hE9 := hE8.mod hm9 (by simp; omega)
      have hbel9 : Below w.heap.size w w9 := Mod.fresh hbel8 hm9 (by simp; omega)
      clear hE8 hr8 hbel8 hm9
      by_cases hc6 : 6 < c
      · have HF := Lib.hid (show readText text = none by rw [HT.out, if_pos hc6])
        have hd : decide ((c : Int) ≤ 6) = false := by simp; omega
        go_wp2_with fail
        refine (must_false _).mono ?_
        rintro e w10 ⟨rfl, rfl⟩
        refine ⟨rfl, hbel9, ?_⟩
        rw [HA2.out, HF.out]
        rfl
      · have HF := Lib.hid (show readText text = match readOps c b rc with
            | none => none
            | some (rs, r) => if r = some [] ∧ checkRes a b rs = 0 then some ⟨a, b, rs⟩ else none by rw [HT.out, if_neg hc6])
        have hd : decide ((c : Int) ≤ 6) = true := by simp; omega
        clear HT HO Ha Hb Hc
        go_wp2_with fail
        refine (must_true _).mono ?_
        rintro e w10 ⟨rfl, rfl⟩
        clear hd
        go_wp2_with fail
        have hEs := hE9.lt
        have hQs := hr9.lt
        go_loopw [9, 10, 11, 44] (fun _ _ _ s44 wr => ∃ (k : Nat) (rs : List Rec) (v : Value) (r : Wire.Rd), k ≤ c ∧ s44 = .int .u64 k ∧ ReadTo w9.heap.size w.heap.size Q a b c rc k rs v r wr ∧ Below w.heap.size w wr) (fun _ _ _ s44 _ => c - (intOf s44).toNat)
        case atStart => exact ⟨0, [], .slice none 0 0, rc, by omega, rfl, ReadTo.start hE9 hr9 hEs hQs sc hbl, hbel9⟩
        case round =>
          obtain ⟨k, rs, v, r, hk, rfl, hto, hbw⟩ := hrel
          by_cases hlt : k < c
          · have e1 := hto.first
            have hwr := wrap_add b k
            have hlt4 := hto.lt
            have hsr := hto.short
            have hrd := hto.rd
            have hst := hto.short
            go_wp2_with fail
            go_upto_region 13 with fail
            go_cut [10] (fun s10 wx => NewRec wr Q (Wire.rText r).1 ((b + k) % U64) (Wire.rText r).2 s10 wx)
            case first =>
              have hRQ : w.heap.size ≠ Q ∧ w.heap.size < wr.heap.size := ⟨by omega, by omega⟩
              have hEX : ¬ (w.heap.size = wr.heap.size) := by omega
              have hEX2 : ¬ (wr.heap.size = w.heap.size) := by omega
              go_region_held3 (fun w' => w'.cell? ⟨w.heap.size, 1, none⟩ = some (.int .u64 b)) (go_keep)
                (first
                  | (go_at_call 49; (with_reducible refine (rText_keep Q r wr.drew ?_ hsr w.heap.size 1 (.int .u64 b) ?_ ⟨hRQ.1, ?_⟩).mono ?_); exact hrd.drew; assumption; exact hRQ.2; rintro e w' ⟨rfl, hrd2, hm2, k1⟩)
                  | (go_at_call 49; (with_reducible refine (rText_keepX Q r _ ?_ hsr w.heap.size 1 (.int .u64 b) ?_ ⟨hRQ.1, ?_⟩ wr.heap.size (.string ⟨#[]⟩) (.int .u64 0) (.bool false) (.string ⟨#[]⟩) 24 ?_ ?_).mono ?_); exact (hrd.alloc _).drew; assumption; (simp; omega); exact (Blk.new wr [.string ⟨#[]⟩, .int .u64 0, .bool false, .string ⟨#[]⟩] _).drew; omega; rintro e w' ⟨rfl, hrd2, hm2, k1, y0, y1, y2, y3, z0, z1, z2, z3, hXB⟩))
              all_goals
                go_wp2_with fail
                go_meet
                first
                  | exact newRec_a hrd2 hm2 _ _ _ (by simp)
                  | exact newRec_b hrd2 hm2 hXB (by omega) _ _ _ (by simp)
            case rest =>
              obtain ⟨X, rfl, hXs, hX, hrc, hmc⟩ := hcut
              have hsr2 := rText_short hst
              go_wp2_with fail
              refine (rNum_any Q _ _ hrc hsr2).mono ?_
              rintro e wd ⟨rfl, hrD, hmD⟩
              have hXD := hX.mod hmD (by simp; omega)
              have hmcd := hmc.trans hmD
              generalize hnd : Wire.rNum (Wire.rText r).2 = nd at *
              obtain ⟨d, rd⟩ := nd
              simp only at *
              by_cases hd1 : 1 < d
              · have hd : decide ((d : Int) ≤ 1) = false := by simp; omega
                go_wp2_with fail
                refine (must_false _).mono ?_
                rintro e w11 ⟨rfl, rfl⟩
                have hro : readOps c b rc = none := by
                  rw [hto.all, show c - k = (c - k - 1) + 1 from by omega, readOps, hnd, if_pos hd1]; rfl
                refine ⟨rfl, Mod.fresh hbw hmcd (by simp; omega), ?_⟩
                rw [HA2.out, HF.out, hro]
                rfl
              · have hd : decide ((d : Int) ≤ 1) = true := by simp; omega
                have hsrd : Wire.Rd.short rd := by have := rNum_short hsr2; rw [hnd] at this; exact this
                have f2 := hXD.free 2
                have f3 := hXD.free 3
                have x2 : wd.cell? ⟨X, 2, none⟩ = some (.bool false) := by rw [hXD.cell]; rfl
                have x3 : wd.cell? ⟨X, 3, none⟩ = some (.string ⟨#[]⟩) := by rw [hXD.cell]; rfl
                go_wp2_with fail
                refine (must_true _).mono ?_
                rintro e w11 ⟨rfl, rfl⟩
                clear hd
                go_wp2_with fail
                refine (rText_any Q rd _ hrD hsrd).mono ?_
                rintro e we ⟨rfl, hrE, hmE⟩
                have hXE := hXD.mod hmE (by simp; omega)
                have hmce := hmcd.trans hmE
                clear f2 f3 x2 x3 hXD hmcd hrD hmD hrc hmc hX
                have f2 := hXE.free 2
                have f3 := hXE.free 3
                have x2 : we.cell? ⟨X, 2, none⟩ = some (.bool false) := by rw [hXE.cell]; rfl
                have x3 : we.cell? ⟨X, 3, none⟩ = some (.string ⟨#[]⟩) := by rw [hXE.cell]; rfl
                have x0 : we.cell? ⟨X, 0, none⟩ = some (.string ⟨(Wire.rText r).1.toArray⟩) := by rw [hXE.cell]; rfl
                have x1 : we.cell? ⟨X, 1, none⟩ = some (.int .u64 ((b + k) % U64 : Nat)) := by rw [hXE.cell]; rfl
                have hdel : ((d : Int) == 1) = (d == 1) := by rw [Bool.eq_iff_iff]; simp; omega
                generalize hx : (⟨(Wire.rText r).1, (b + k) % U64, d == 1, (Wire.rText rd).1⟩ : Rec) = x
                have hWX := (hXE.set 2 (.bool (d == 1))).set 3 (.string ⟨(Wire.rText rd).1.toArray⟩)
                have hmF : Mod [Q, X] wr ((we.setCell ⟨X, 2, none⟩ (.bool (d == 1))).setCell ⟨X, 3, none⟩ (.string ⟨(Wire.rText rd).1.toArray⟩)) :=
                  ((hmce.mono (S' := [Q, X]) (by simp)).setCell _ _ (.inl (by simp))).setCell _ _ (.inl (by simp))
                obtain ⟨hEF, hownF⟩ := hto.kept hmF (by simp; omega)
                have hrF : RdAt ((we.setCell ⟨X, 2, none⟩ (.bool (d == 1))).setCell ⟨X, 3, none⟩ (.string ⟨(Wire.rText rd).1.toArray⟩)) Q (Wire.rText rd).2 := Blk.other (Blk.other hrE _ _ (by simp; omega)) _ _ (by simp; omega)
                obtain ⟨v', wg, hrun, hown', hmg⟩ := append_rec hownF (by omega) (by have := hmF.size; omega) x 25 #[.string ⟨(Wire.rText r).1.toArray⟩, .int .u64 (((b : Int) + (k : Int)) % (U64 : Int)), .bool (d == 1), .string ⟨(Wire.rText rd).1.toArray⟩] (by subst hx; simp) we.heap.size (by simp)
                have e2 : we.cell? ⟨w.heap.size, 2, none⟩ = some v := by
                  rw [(hto.kept (hmce.mono (S' := [Q, X]) (by simp)) (by simp; omega)).1.cell]; rfl
                have hEX1 : ¬ (w.heap.size = X) := by omega
                have hEX2 : ¬ (X = w.heap.size) := by omega
                have fE := hEF.free 2
                have hEg : Blk wg w.heap.size [.int .u64 a, .int .u64 b, v] 27 := hEF.mod hmg (by
                  intro hin
                  have h1 : v.ownBlock = some w.heap.size := by simpa using hin
                  have := hto.own.lt _ h1
                  omega)
                have eg := hEg.free 2
                have eg2 : wg.cell? ⟨w.heap.size, 2, none⟩ = some v := by rw [hEg.cell]; rfl
                obtain ⟨g, cap, rfl⟩ := ownsRow_succ hown'
                go_wp2_with (at_builtin; (with_reducible refine wpList_append_run rfl _ _ _ rfl _ _ _ _ ?_ ?_ hrun ?_); rfl; rfl)
                have hk1 : c - k = (c - k - 1) + 1 := by omega
                have hvo : (v : Value).ownBlock = none ∨ ∃ y, v.ownBlock = some y ∧ w9.heap.size ≤ y := by
                  cases h : v.ownBlock with
                  | none => exact .inl rfl
                  | some y => exact .inr ⟨y, rfl, by have := hto.own.lt _ h; omega⟩
                have hvQ : ∀ y ∈ v.ownBlock.toList, w9.heap.size ≤ y := by
                  intro y hy
                  rcases hvo with e | ⟨z, e, hz⟩ <;> rw [e] at hy <;> simp at hy
                  omega
                refine ⟨⟨k + 1, rs ++ [x], .slice (some ⟨g, 0, none⟩) (k + 1) cap, (Wire.rText rd).2, by omega, by simp, ⟨⟨hlt4.1, hlt4.2.1, hlt4.2.2.1, ?_⟩, hEg.set 2 _, ownsRow_setCell_below hown' hlt4.1 _, by simp [hto.len], ?_, rText_short hsrd, ?_, ?_⟩, ?_⟩, by simp [intOf]; omega⟩
                · have h1 : wr.heap.size ≤ we.heap.size := by have := hmF.size; simpa using this
                  have h2 : we.heap.size ≤ wg.heap.size := by have := hmg.size; simpa using this
                  simp
                  omega
                · exact Blk.other (Blk.mod hrF hmg (fun hin => by have := hvQ _ hin; omega)) _ _ (by simp; omega)
                · intro y hy
                  rw [List.mem_append, List.mem_singleton] at hy
                  rcases hy with hy | rfl
                  · exact hto.oks y hy
                  · subst hx
                    exact ⟨Nat.le_trans (rText_len1 hst) (by decide), Nat.le_trans (rText_len1 hsrd) (by decide), Nat.mod_lt _ (by decide)⟩
                · have e2 : ((b + k) % U64 + 1) % U64 = (b + (k + 1)) % U64 := by rw [Nat.mod_add_mod]; rfl
                  rw [hto.all, hk1, readOps, hnd, if_neg hd1, e2, show c - (k + 1) = c - k - 1 from by omega, ← hx]
                  simp only
                  cases readOps (c - k - 1) ((b + (k + 1)) % U64) (Wire.rText rd).2 <;> simp
                · exact (Mod.fresh (Mod.fresh hbw hmF (by simp; omega)) hmg (fun y hy => by have := hvQ _ hy; omega)).setCell (by simp) _
          · obtain rfl : k = c := by omega
            have hro := hto.all
            rw [Nat.sub_self, readOps] at hro
            have hkp := hto.recs (by omega)
            obtain ⟨p, n, cp, rfl, hrs, hpB⟩ := hkp
            have HR := Lib.hid (show readText text = if r = some [] ∧ checkRes a b rs = 0 then some ⟨a, b, rs⟩ else none by rw [HF.out, hro]; simp)
            clear HF hro hlt
            have hE := hto.entry
            have hoks := hto.oks
            have hrd := hto.rd
            clear hto hr9 hE9 hbel9
            have hE' : Blk wr w.heap.size (entryCells a b p n cp) 27 := hE
            clear hE
            obtain ⟨e0, e1, e2⟩ := entry_load hE'
            go_wp2_with fail
            refine (end_any Q r wr hrd).mono ?_
            by_cases hrz : r = some []
            · rw [show decide (r = some []) = true from by simp [hrz]]
              rintro e wz ⟨rfl, rfl⟩
              go_wp2_with fail
              refine (check_any a b p n cp rs wr hrs hoks hbl).mono ?_
              rintro e wz ⟨rfl, hbz⟩
              have hEz := hE'.on hbz
              have hrsz := hrs.on hbz
              have hbelz := hbw.on hbz
              clear e0 e1 e2
              obtain ⟨e0, e1, e2⟩ := entry_load hEz
              by_cases hcz : checkRes a b rs = 0
              · have HZ := Lib.hid (show readText text = some ⟨a, b, rs⟩ by rw [HR.out, if_pos ⟨hrz, hcz⟩])
                rw [hcz]
                go_wp2_with fail
                refine (must_true _).mono ?_
                rintro e wy ⟨rfl, rfl⟩
                have z0 := hEz.free 0
                have z1 := hEz.free 1
                have z2 := hEz.free 2
                go_wp2_with fail
                have hEy := ((hEz.set 0 (.int .u64 a)).set 1 (.int .u64 b)).set 2 (.slice p n cp)
                refine bodyPost_ret (results_entry rfl _ rfl (.int .i64 (Wire.putText sealed).length) rfl hEy) rfl ⟨?_, ?_⟩
                · exact ((hbelz.setCell (by simp) _).setCell (by simp) _).setCell (by simp) _
                · rw [HA2.out, HZ.out]
                  refine ⟨p, n, cp, rfl, ?_, fun g o e => by have := hpB g o e; omega⟩
                  refine ((hrsz.other _ _ ?_).other _ _ ?_).other _ _ ?_ <;>
                    · intro g o e
                      have := hpB g o e
                      show g ≠ w.heap.size
                      omega
              · have HZ := Lib.hid (show readText text = none by rw [HR.out, if_neg (fun h => hcz h.2)])
                have hci : ((checkRes a b rs : Int) == 0) = false := by simp; omega
                go_wp2_with fail
                refine (must_false _).mono ?_
                rintro e wy ⟨rfl, rfl⟩
                refine ⟨rfl, hbelz, ?_⟩
                rw [HA2.out, HZ.out]
                rfl
            · have HZ := Lib.hid (show readText text = none by rw [HR.out, if_neg (fun h => hrz h.1)])
              rw [show decide (r = some []) = false from by simp [hrz]]
              rintro e wz ⟨rfl, rfl⟩
              go_wp2_with fail
              refine (must_false _).mono ?_
              rintro e wy ⟨rfl, rfl⟩
              refine ⟨rfl, hbw, ?_⟩
              rw [HA2.out, HZ.out]
              rfl
end Go.Proofs.Ytjlhkmkjegamdaa
