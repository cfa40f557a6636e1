/-
  The walk of the document's Decode of layer 6. Condition: the text is shorter than 2^47.
-/
import Derived.Test.YtjlhkmkjegamdaaRef6Q
import Derived.Test.YtjlhkmkjegamdaaRef6E
import Derived.RangeFuncBox
namespace Go.Proofs.Ytjlhkmkjegamdaa
set_option linter.unusedVariables false
set_option linter.unusedSimpArgs false
open Go.RowKit

theorem results_entry3 {fn : Func} {p : Tmp} {q r : Tmp} (h : fn.results = #[.cell p 27, .tmp q, .tmp r]) (tmps : Array Value) {w : World} {E ts first n c : Nat} {a : Option Addr} (t x : Value) (hp : tmps.getD p undef = .pointer (some ⟨E, 0, none⟩)) (hq : tmps.getD q undef = t) (hr : tmps.getD r undef = x)
    (hE : Blk w E (entryCells ts first a n c) 27) : (results fn tmps).run Try.prog w = .ok (.tuple #[entryV ts first a n c, t, x]) w := by
  have hp' : tmps[p]?.getD undef = .pointer (some ⟨E, 0, none⟩) := by simpa using hp
  have hq' : tmps[q]?.getD undef = t := by simpa using hq
  have hr' : tmps[r]?.getD undef = x := by simpa using hr
  have e0 : w.cell? ⟨E, 0, none⟩ = some (.int .u64 ts) := by rw [hE.cell]; rfl
  have e1 : w.cell? ⟨E, 1, none⟩ = some (.int .u64 first) := by rw [hE.cell]; rfl
  have e2 : w.cell? ⟨E, 2, none⟩ = some (.slice a n c) := by rw [hE.cell]; rfl
  simp [results, h, hp', hq', hr', go_sem, e0, e1, e2, entryV]

theorem refOps_end {b c k : Nat} {r : Wire.Rd} (h : ¬ (k < c ∧ k ≤ 6 ∧ r.isSome = true)) (h7 : k ≤ 7) : refOps b c (7 - k) k r = [] := by
  by_cases h6 : k ≤ 6
  · rw [show 7 - k = (6 - k) + 1 from by omega, refOps, if_neg (fun h2 => h ⟨h2.1, h6, h2.2⟩)]
  · rw [show 7 - k = 0 from by omega]; rfl

set_option maxRecDepth 100000 in
set_option maxHeartbeats 8000000 in
theorem rDecode_any (s : List UInt8) (w : World) (hs : s.length ≤ 140737488355000) :
    Calls Try.prog 17 #[.string ⟨s.toArray⟩] w (DecodeEnds w (readAll s)) := by
  rw [← refAll_eq]
  have hshort : Wire.Rd.short (some s) := fun l hl => by cases hl; omega
  go_enter Try.func17, Try.ntmps17
  go_wp2_with fail
  have hS0 : Blk ((w.alloc (.cells #[.int .u64 0, .int .u64 0, .slice none 0 0] 27)).alloc (.cells #[.string ⟨s.toArray⟩, .bool false] 62)) w.heap.size (entryCells 0 0 none 0 0) 27 := (Blk.new _ _ _).alloc _
  have hr0 : QdAt ((w.alloc (.cells #[.int .u64 0, .int .u64 0, .slice none 0 0] 27)).alloc (.cells #[.string ⟨s.toArray⟩, .bool false] 62)) (w.heap.size + 1) (some s) := by
    have h := Blk.new (w.alloc (.cells #[.int .u64 0, .int .u64 0, .slice none 0 0] 27)) (rdV (some s)) 62
    unfold QdAt
    simpa [rdV] using h
  have hb0 := ((Below.refl w.heap.size w).alloc (Nat.le_refl _) (.cells #[.int .u64 0, .int .u64 0, .slice none 0 0] 27)).alloc (by simp) (.cells #[.string ⟨s.toArray⟩, .bool false] 62)
  generalize (w.alloc (.cells #[.int .u64 0, .int .u64 0, .slice none 0 0] 27)).alloc (.cells #[.string ⟨s.toArray⟩, .bool false] 62) = w1 at *
  have hRS : w.heap.size < w.heap.size + 1 := Nat.lt_succ_self _
  generalize w.heap.size + 1 = R at *
  refine (qText_any R (some s) w1 hr0 hshort).mono ?_
  rintro e w2 ⟨rfl, hr2, hm2⟩
  have hS2 := hS0.mod hm2 (by simp; omega)
  have hb2 : Below w.heap.size w w2 := Mod.fresh hb0 hm2 (by simp; omega)
  clear hS0 hb0 hm2 hr0
  cases hq : Wire.rText (some s) with
  | mk sealed rd =>
  rw [hq] at hr2
  simp only at hr2
  have hsl := rText_len hq
  cases ho : openI sealed with
  | mk text is =>
  have htl := open_len sealed
  rw [ho] at htl
  simp only at htl
  have HA := Lib.hid (show refAll s = if rd.isSome && is then (if checkRes (refEntry text).ts (refEntry text).first (refEntry text).ops = 0 ∧ encBytes (refEntry text).ts (refEntry text).first (refEntry text).ops = s.take (Wire.putText sealed).length
      then some (refEntry text, (Wire.putText sealed).length) else none) else none by
    unfold refAll; rw [hq]; simp only; rw [ho])
  have HO := Lib.hid ho
  have HQ := Lib.hid hq
  clear hq ho
  go_wp2_with fail
  refine (refOpen_any sealed _ (by unfold maxLen; omega)).mono ?_
  rw [HO.out]
  rintro e w3 ⟨rfl, hb3⟩
  have hr3 : QdAt w3 R rd := hr2.on hb3
  have hS3 := hS2.on hb3
  have hbel3 := hb2.on hb3
  clear hr2 hS2 hb2 hb3
  have q0 := entry_load hS3
  obtain ⟨e0, e1, e2⟩ := q0
  have z0 := hS3.free 0
  have z1 := hS3.free 1
  have z2 := hS3.free 2
  have hSz := hS3.lt
  cases rd with
  | none =>
    have g1 : w3.cell? ⟨R, 1, none⟩ = some (.bool true) := by rw [hr3.cell]; rfl
    go_wp2_with fail
    have hSx := ((hS3.set 0 (.int .u64 0)).set 1 (.int .u64 0)).set 2 (.slice none 0 0)
    refine bodyPost_ret (results_entry3 rfl _ (.int .i64 0) (.int .i64 4) rfl rfl rfl hSx) rfl ⟨?_, ?_⟩
    · exact ((hbel3.setCell (by simp) _).setCell (by simp) _).setCell (by simp) _
    · rw [HA.out]
      rfl
  | some l0 =>
    have g0 : w3.cell? ⟨R, 0, none⟩ = some (.string ⟨l0.toArray⟩) := by rw [hr3.cell]; rfl
    have g1 : w3.cell? ⟨R, 1, none⟩ = some (.bool false) := by rw [hr3.cell]; rfl
    cases his : is
    · go_wp2_with fail
      have hSx := ((hS3.set 0 (.int .u64 0)).set 1 (.int .u64 0)).set 2 (.slice none 0 0)
      refine bodyPost_ret (results_entry3 rfl _ (.int .i64 0) (.int .i64 4) rfl rfl rfl hSx) rfl ⟨?_, ?_⟩
      · exact ((hbel3.setCell (by simp) _).setCell (by simp) _).setCell (by simp) _
      · rw [HA.out, his]
        rfl
    · have hsp : s = Wire.putText sealed ++ l0 := by
        obtain ⟨h1, _⟩ := Wire.rText_some HQ.out
        exact Option.some.inj h1
      obtain ⟨T, hT⟩ : ∃ T, (Wire.putText sealed).length = T := ⟨_, rfl⟩
      have hTl : s.length = T + l0.length := by rw [hsp, List.length_append, hT]
      have HA2 := Lib.hid (show refAll s = (if checkRes (refEntry text).ts (refEntry text).first (refEntry text).ops = 0 ∧ encBytes (refEntry text).ts (refEntry text).first (refEntry text).ops = s.take T
        then some (refEntry text, T) else none) by rw [HA.out, his, hT]; rfl)
      have HSP := Lib.hid hsp
      have HT := Lib.hid hT
      clear HA hsp hT
      have hst : Wire.Rd.short (some text) := fun l hl => by cases hl; omega
      have hTi : (s.length : Int) - (l0.length : Int) = (T : Int) := by omega
      go_wp2_with fail
      have hq4 : QdAt (w3.alloc (.cells #[.string ⟨text.toArray⟩, .bool false] 62)) w3.heap.size (some text) := Blk.new w3 (rdV (some text)) _
      have hb4 := (Below.refl w3.heap.size w3).alloc (Nat.le_refl _) (.cells #[.string ⟨text.toArray⟩, .bool false] 62)
      have hS4 := hS3.on hb4
      have hbel4 := hbel3.on hb4
      generalize w3.alloc (.cells #[.string ⟨text.toArray⟩, .bool false] 62) = w4 at *
      clear e0 e1 e2 z0 z1 z2 g0 g1 hr3 hS3 hbel3 hb4 hTi
      generalize w3.heap.size = Q at *
      cases ha : Wire.rNum (some text) with
      | mk a ra =>
      cases hb : Wire.rNum ra with
      | mk b rb =>
      cases hc : Wire.rNum rb with
      | mk c rc =>
      have sa : Wire.Rd.short ra := by have := rNum_short hst; rw [ha] at this; exact this
      have sb : Wire.Rd.short rb := by have := rNum_short sa; rw [hb] at this; exact this
      have sc : Wire.Rd.short rc := by have := rNum_short sb; rw [hc] at this; exact this
      have hal : a < U64 := by have := Wire.rNum_lt (some text); rw [ha] at this; exact this
      have hbl : b < U64 := by have := Wire.rNum_lt ra; rw [hb] at this; exact this
      have HE := Lib.hid (show refEntry text = ⟨a, b, refOps b c 7 0 rc⟩ by
        unfold refEntry; rw [ha]; simp only; rw [hb]; simp only; rw [hc])
      have Ha := Lib.hid ha
      have Hb := Lib.hid hb
      have Hc := Lib.hid hc
      clear ha hb hc
      refine (qNum_any Q (some text) w4 hq4 hst).mono ?_
      rw [Ha.out]
      rintro e w5 ⟨rfl, hq5, hm5⟩
      have hS5 := hS4.mod hm5 (by simp; omega)
      have hbel5 : Below w.heap.size w w5 := Mod.fresh hbel4 hm5 (by simp; omega)
      have hQ5 := hq5.lt
      clear hS4 hbel4 hm5 hq4
      go_wp2_with fail
      have hE6 : Blk (w5.alloc (.cells #[.int .u64 a, .int .u64 0, .slice none 0 0] 27)) w5.heap.size (entryCells a 0 none 0 0) 27 := Blk.new _ _ _
      have hb6 := (Below.refl w5.heap.size w5).alloc (Nat.le_refl _) (.cells #[.int .u64 a, .int .u64 0, .slice none 0 0] 27)
      have hS6 := hS5.on hb6
      have hbel6 := hbel5.on hb6
      have hq6 : QdAt _ Q ra := hq5.on hb6
      generalize w5.alloc (.cells #[.int .u64 a, .int .u64 0, .slice none 0 0] 27) = w6 at *
      clear hS5 hbel5 hb6 hq5
      have hSE : w.heap.size < w5.heap.size := by omega
      generalize w5.heap.size = E at *
      refine (qNum_any Q ra w6 hq6 sa).mono ?_
      rw [Hb.out]
      rintro e w7 ⟨rfl, hq7, hm7⟩
      have hE7 := hE6.mod hm7 (by simp; omega)
      have hS7 := hS6.mod hm7 (by simp; omega)
      have hbel7 : Below w.heap.size w w7 := Mod.fresh hbel6 hm7 (by simp; omega)
      clear hE6 hS6 hbel6 hm7 hq6
      obtain ⟨e0, e1, e2⟩ := entry_load hE7
      have z1 := hE7.free 1
      go_wp2_with fail
      have hE8 : Blk (w7.setCell ⟨E, 1, none⟩ (.int .u64 b)) E (entryCells a b none 0 0) 27 := hE7.set 1 (.int .u64 b)
      have hS8 := hS7.other ⟨E, 1, none⟩ (.int .u64 b) (by simp; omega)
      have hq8 : QdAt (w7.setCell ⟨E, 1, none⟩ (.int .u64 b)) Q rb := Blk.other hq7 _ _ (by simp; omega)
      have hbel8 := hbel7.setCell (p := ⟨E, 1, none⟩) (by show w.heap.size ≤ E; omega) (.int .u64 b)
      generalize w7.setCell ⟨E, 1, none⟩ (.int .u64 b) = w8 at *
      clear e0 e1 e2 z1 hE7 hS7 hq7 hbel7
      refine (qNum_any Q rb w8 hq8 sb).mono ?_
      rw [Hc.out]
      rintro e w9 ⟨rfl, hq9, hm9⟩
      have hE9 := hE8.mod hm9 (by simp; omega)
      have hS9 := hS8.mod hm9 (by simp; omega)
      have hbel9 : Below w.heap.size w w9 := Mod.fresh hbel8 hm9 (by simp; omega)
      clear hE8 hS8 hbel8 hm9 hq8
      have hE9s := hE9.lt
      have hQ9s := hq9.lt
      go_wp2_with fail
      go_loopw [12, 13] (fun s12 _ wr => ∃ (k : Nat) (rs : List Rec) (v : Value) (r : Wire.Rd), k ≤ 7 ∧ s12 = .int .u64 k ∧ QTo w9.heap.size E Q a b c rc k rs v r wr ∧ Below w.heap.size w wr ∧ Blk wr w.heap.size (entryCells 0 0 none 0 0) 27) (fun s12 _ _ => 7 - (intOf s12).toNat)
      case atStart => exact ⟨0, [], .slice none 0 0, rc, by omega, rfl, QTo.start hE9 hq9 hE9s hQ9s sc hbl, hbel9, hS9⟩
      case round =>
        obtain ⟨k, rs, v, r, hk, rfl, hto, hbw, hSw⟩ := hrel
        by_cases hlt : k < c ∧ k ≤ 6 ∧ r.isSome = true
        · obtain ⟨hkc, hk6, hrs⟩ := hlt
          obtain ⟨l, rfl⟩ := Option.isSome_iff_exists.1 hrs
          have e1 := hto.first
          have hwr := wrap_add b k
          have hlt4 := hto.lt
          have hsr := hto.short
          have hrd := hto.rd
          go_wp2_with fail
          refine (qok_any Q _ _ hrd).mono ?_
          rintro e wy ⟨rfl, rfl⟩
          go_wp2_with fail
          have hro : refOps b c (7 - k) k (some l) = ⟨(Wire.rText (some l)).1, (b + k) % U64, (Wire.rNum (Wire.rText (some l)).2).1 == 1, (Wire.rText (Wire.rNum (Wire.rText (some l)).2).2).1⟩ :: refOps b c (7 - (k + 1)) (k + 1) (Wire.rText (Wire.rNum (Wire.rText (some l)).2).2).2 := by
            rw [show 7 - k = (7 - (k + 1)) + 1 from by omega, refOps, if_pos ⟨hkc, rfl⟩]
          have HRO := Lib.hid hro
          clear hro hrs
          generalize (some l : Wire.Rd) = r at *
          have hst2 := hsr
          go_upto_region 13 with fail
          go_cut [13] (fun s13 wx => QNewRec wr Q (Wire.rText r).1 ((b + k) % U64) (Wire.rText r).2 s13 wx)
          case first =>
            have hRQ : E ≠ Q ∧ E < wr.heap.size := ⟨by omega, by omega⟩
            have hEX : ¬ (E = wr.heap.size) := by omega
            have hEX2 : ¬ (wr.heap.size = E) := by omega
            go_region_held3 (fun w' => w'.cell? ⟨E, 1, none⟩ = some (.int .u64 b)) (go_keep)
              (first
                | (go_at_call 40; (with_reducible refine (qText_keep Q r wr.drew ?_ hsr E 1 (.int .u64 b) ?_ ⟨hRQ.1, ?_⟩).mono ?_); exact hrd.drew; assumption; exact hRQ.2; rintro e w' ⟨rfl, hrd2, hm2, k1⟩)
                | (go_at_call 40; (with_reducible refine (qText_keepX Q r _ ?_ hsr E 1 (.int .u64 b) ?_ ⟨hRQ.1, ?_⟩ wr.heap.size (.string ⟨#[]⟩) (.int .u64 0) (.bool false) (.string ⟨#[]⟩) 24 ?_ ?_).mono ?_); exact (hrd.alloc _).drew; assumption; (simp; omega); exact (Blk.new wr [.string ⟨#[]⟩, .int .u64 0, .bool false, .string ⟨#[]⟩] _).drew; omega; rintro e w' ⟨rfl, hrd2, hm2, k1, y0, y1, y2, y3, z0, z1, z2, z3, hXB⟩))
            all_goals
              go_wp2_with fail
              go_meet
              first
                | exact qnewRec_a hrd2 hm2 _ _ _ (by simp)
                | exact qnewRec_b hrd2 hm2 hXB (by omega) _ _ _ (by simp)
          case rest =>
            obtain ⟨X, rfl, hXs, hX, hrc, hmc⟩ := hcut
            have hsr2 := rText_short hst2
            go_wp2_with fail
            refine (qNum_any Q _ _ hrc hsr2).mono ?_
            rintro e wd ⟨rfl, hrD, hmD⟩
            have hXD := hX.mod hmD (by simp; omega)
            have hmcd := hmc.trans hmD
            generalize hnd : Wire.rNum (Wire.rText r).2 = nd at *
            obtain ⟨d, rd⟩ := nd
            simp only at *
            have hsrd : Wire.Rd.short rd := by have := rNum_short hsr2; rw [hnd] at this; exact this
            have f2 := hXD.free 2
            have x2 : wd.cell? ⟨X, 2, none⟩ = some (.bool false) := by rw [hXD.cell]; rfl
            have hdel : ((d : Int) == 1) = (d == 1) := by rw [Bool.eq_iff_iff]; simp; omega
            generalize hdb : (d == 1) = db at *
            go_wp2_with fail
            have hXF := hXD.set 2 (.bool db)
            have hrF : QdAt (wd.setCell ⟨X, 2, none⟩ (.bool db)) Q rd := Blk.other hrD _ _ (by simp; omega)
            have hmF : Mod [Q, X] wr (wd.setCell ⟨X, 2, none⟩ (.bool db)) := (hmcd.mono (S' := [Q, X]) (by simp)).setCell _ _ (.inl (by simp))
            generalize wd.setCell ⟨X, 2, none⟩ (.bool db) = wf at *
            clear f2 x2 hXD hmcd hrD hmD hrc hmc hX hdel hdb hnd
            refine (qText_any Q rd _ hrF hsrd).mono ?_
            rintro e we ⟨rfl, hrE, hmE⟩
            have hXE : Blk we X [.string ⟨(Wire.rText r).1.toArray⟩, .int .u64 ((b + k) % U64 : Nat), .bool db, .string ⟨[].toArray⟩] 24 := hXF.mod hmE (by simp; omega)
            have hme : Mod [Q, X] wr we := hmF.trans (hmE.mono (S' := [Q, X]) (by simp))
            clear hXF hmF hrF hmE
            have f3 := hXE.free 3
            have x3 : we.cell? ⟨X, 3, none⟩ = some (.string ⟨#[]⟩) := by rw [hXE.cell]; rfl
            have x0 : we.cell? ⟨X, 0, none⟩ = some (.string ⟨(Wire.rText r).1.toArray⟩) := by rw [hXE.cell]; rfl
            have x1 : we.cell? ⟨X, 1, none⟩ = some (.int .u64 ((b + k) % U64 : Nat)) := by rw [hXE.cell]; rfl
            have x2 : we.cell? ⟨X, 2, none⟩ = some (.bool db) := by rw [hXE.cell]; rfl
            generalize hx : (⟨(Wire.rText r).1, (b + k) % U64, db, (Wire.rText rd).1⟩ : Rec) = x at *
            have hmG : Mod [Q, X] wr (we.setCell ⟨X, 3, none⟩ (.string ⟨(Wire.rText rd).1.toArray⟩)) := hme.setCell _ _ (.inl (by simp))
            obtain ⟨hEF, hownF⟩ := hto.kept hmG (by simp; omega)
            have hrG : QdAt (we.setCell ⟨X, 3, none⟩ (.string ⟨(Wire.rText rd).1.toArray⟩)) Q (Wire.rText rd).2 := Blk.other hrE _ _ (by simp; omega)
            obtain ⟨v', wg, hrun, hown', hmg⟩ := append_rec hownF (by omega) (by have := hmG.size; omega) x 25 #[.string ⟨(Wire.rText r).1.toArray⟩, .int .u64 (((b : Int) + (k : Int)) % (U64 : Int)), .bool db, .string ⟨(Wire.rText rd).1.toArray⟩] (by subst hx; simp) we.heap.size (by simp)
            have e2 : we.cell? ⟨E, 2, none⟩ = some v := by
              rw [(hto.kept hme (by simp; omega)).1.cell]; rfl
            have hEX1 : ¬ (E = X) := by omega
            have hEX2 : ¬ (X = E) := by omega
            have fE := hEF.free 2
            have hEg : Blk wg E [.int .u64 a, .int .u64 b, v] 27 := hEF.mod hmg (by
              intro hin
              have h1 : v.ownBlock = some E := by simpa using hin
              have := hto.own.lt _ h1
              omega)
            have eg := hEg.free 2
            have eg2 : wg.cell? ⟨E, 2, none⟩ = some v := by rw [hEg.cell]; rfl
            obtain ⟨g, cap, rfl⟩ := ownsRow_succ hown'
            have HHx := Lib.hid hx
            clear hx
            go_wp2_with (at_builtin; (with_reducible refine wpList_append_run rfl _ _ _ rfl _ _ _ _ ?_ ?_ hrun ?_); rfl; rfl)
            have hvQ : ∀ y ∈ v.ownBlock.toList, w9.heap.size ≤ y := by
              intro y hy
              have : v.ownBlock = some y := by simpa using hy
              have := hto.own.lt _ this
              omega
            have hSg : Blk (wg.setCell ⟨E, 2, none⟩ (.slice (some ⟨g, 0, none⟩) (k + 1) cap)) w.heap.size (entryCells 0 0 none 0 0) 27 :=
              Blk.other ((hSw.mod hmG (by simp; omega)).mod hmg (fun hin => by have := hvQ _ hin; omega)) _ _ (by simp; omega)
            refine ⟨⟨k + 1, rs ++ [x], .slice (some ⟨g, 0, none⟩) (k + 1) cap, (Wire.rText rd).2, by omega, by simp, ⟨⟨hlt4.1, hlt4.2.1, hlt4.2.2.1, ?_⟩, hEg.set 2 _, ownsRow_setCell_below hown' hlt4.1 _, by simp [hto.len], ?_, rText_short hsrd, ?_, ?_⟩, ?_, hSg⟩, by simp [intOf]; omega⟩
            · have h1 : wr.heap.size ≤ we.heap.size := by have := hmG.size; simpa using this
              have h2 : we.heap.size ≤ wg.heap.size := by have := hmg.size; simpa using this
              simp
              omega
            · exact Blk.other (Blk.mod hrG hmg (fun hin => by have := hvQ _ hin; omega)) _ _ (by simp; omega)
            · intro y hy
              rw [List.mem_append, List.mem_singleton] at hy
              rcases hy with hy | rfl
              · exact hto.oks y hy
              · rw [← HHx.out]
                exact ⟨Nat.le_trans (rText_len1 hst2) (by decide), Nat.le_trans (rText_len1 hsrd) (by decide), Nat.mod_lt _ (by decide)⟩
            · rw [hto.all, HRO.out]; simp
            · exact (Mod.fresh (Mod.fresh hbw hmG (by simp; omega)) hmg (fun y hy => by have := hvQ _ hy; omega)).setCell (by show w.heap.size ≤ E; omega) _
        · have hops : refOps b c 7 0 rc = rs := by
            rw [hto.all, refOps_end hlt hk, List.append_nil]
          obtain ⟨p, n, cp, rfl, hrs, hpB⟩ := hto.recs (by omega)
          have HE2 := Lib.hid (show refEntry text = ⟨a, b, rs⟩ by rw [HE.out, hops])
          have hE' : Blk wr E (entryCells a b p n cp) 27 := hto.entry
          have hoks := hto.oks
          have hrd := hto.rd
          have hEQ := hto.lt
          clear hops HE hE9 hS9 hq9 hbel9
          obtain ⟨e0, e1, e2⟩ := entry_load hE'
          go_upto_region 11 with fail
          go_cut [63] (fun s63 wx => s63 = .bool false ∧ wr = wx)
          case first =>
            by_cases hkc : k < c
            · by_cases hk6 : k ≤ 6
              · have hro : r.isSome = false := by
                  cases h : r.isSome with
                  | false => rfl
                  | true => exact absurd ⟨hkc, hk6, h⟩ hlt
                go_wp2_with fail
                refine (qok_any Q _ _ hrd).mono ?_
                rw [hro]
                rintro e wy ⟨rfl, rfl⟩
                go_wp2_with fail
                go_meet
                exact ⟨rfl, rfl⟩
              · go_wp2_with fail
                go_meet
                exact ⟨rfl, rfl⟩
            · go_wp2_with fail
              go_meet
              exact ⟨rfl, rfl⟩
          case rest =>
          obtain ⟨rfl, rfl⟩ := hcut
          go_upto_region 17 with fail
          have hEw := hE'.lt
          go_wp2_with fail
          refine (rEncode_any a b p n cp rs wr hrs hoks hal hbl).mono ?_
          rintro e w10 ⟨rfl, hb10⟩
          have hEz := hE'.on hb10
          have hrsz := hrs.on hb10
          have hbelz := hbw.on hb10
          have hSz := hSw.on hb10
          clear e0 e1 e2 hE' hrs hbw hSw hb10 hrd hto
          obtain ⟨e0, e1, e2⟩ := entry_load hEz
          obtain ⟨t0, t1, t2⟩ := entry_load hSz
          have z0 := hSz.free 0
          have z1 := hSz.free 1
          have z2 := hSz.free 2
          by_cases hck : checkRes a b rs = 0
          · rw [show encRes a b rs = encBytes a b rs from by unfold encRes; rw [if_pos hck], hck]
            have HCK := Lib.hid hck
            clear hck
            have hex : (⟨s.toArray⟩ : ByteArray).extract 0 T = ⟨(s.take T).toArray⟩ := by rw [extract_list, List.drop_zero, Nat.sub_zero]
            have hTs : T ≤ s.length := by omega
            generalize hB : encBytes a b rs = B at *
            have HB := Lib.hid hB
            clear hB
            generalize hU : s.take T = U at *
            have HU := Lib.hid hU
            clear hU
            by_cases heq : B = U
            · have hbb : (B == U) = true := by simp [heq]
              have hbn : (B != U) = false := by simp [heq]
              have HZ := Lib.hid (show refAll s = some (⟨a, b, rs⟩, T) by rw [HA2.out, HE2.out, if_pos ⟨HCK.out, by rw [HB.out]; exact heq⟩])
              clear heq
              go_wp2_with fail
              have hSx := ((hSz.set 0 (.int .u64 a)).set 1 (.int .u64 b)).set 2 (.slice p n cp)
              refine bodyPost_ret (results_entry3 rfl _ (.int .i64 T) (.int .i64 0) rfl rfl rfl hSx) rfl ⟨?_, ?_⟩
              · exact ((hbelz.setCell (by simp) _).setCell (by simp) _).setCell (by simp) _
              · rw [HZ.out]
                refine ⟨p, n, cp, rfl, ?_⟩
                refine ((hrsz.other _ _ ?_).other _ _ ?_).other _ _ ?_ <;>
                  · intro g o e
                    have := hpB g o e
                    show g ≠ w.heap.size
                    omega
            · have hbb : (B == U) = false := by simp [heq]
              have hbn : (B != U) = true := by simp [heq]
              have HZ := Lib.hid (show refAll s = none by rw [HA2.out, HE2.out, if_neg (fun h => heq (by rw [← HB.out]; exact h.2))])
              clear heq
              go_wp2_with fail
              have hSx := ((hSz.set 0 (.int .u64 0)).set 1 (.int .u64 0)).set 2 (.slice none 0 0)
              refine bodyPost_ret (results_entry3 rfl _ (.int .i64 0) (.int .i64 4) rfl rfl rfl hSx) rfl ⟨?_, ?_⟩
              · exact ((hbelz.setCell (by simp) _).setCell (by simp) _).setCell (by simp) _
              · rw [HZ.out]
          · have hci : ((checkRes a b rs : Int) != 0) = true := by simp; omega
            have HZ := Lib.hid (show refAll s = none by rw [HA2.out, HE2.out, if_neg (fun h => hck h.1)])
            clear hck
            go_wp2_with fail
            have hSx := ((hSz.set 0 (.int .u64 0)).set 1 (.int .u64 0)).set 2 (.slice none 0 0)
            refine bodyPost_ret (results_entry3 rfl _ (.int .i64 0) (.int .i64 4) rfl rfl rfl hSx) rfl ⟨?_, ?_⟩
            · exact ((hbelz.setCell (by simp) _).setCell (by simp) _).setCell (by simp) _
            · rw [HZ.out]
end Go.Proofs.Ytjlhkmkjegamdaa
