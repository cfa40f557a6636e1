/-
  The walk of package dmsg's Check. Condition: sizes that a machine has.
-/
import Derived.Test.YtnijijcbdajodaaMsgR
namespace Go.Proofs.Ytnijijcbdajodaa
set_option linter.unusedVariables false
set_option linter.unusedSimpArgs false
open Go.RowKit

theorem good_is (m : Msg) : goodM m = (stampB m.te && (m.kind == 1 || stampB m.di) && rightM m && restM (wipeM (if m.kind = 1 then m else { m with di := 0 }))) := rfl
theorem check_is (m : Msg) (hl : longM m = false) : (checkM m : Int) = if goodM m then 0 else 2 := by
  unfold checkM
  rw [hl]
  cases goodM m <;> rfl
theorem ruleV_mk (i j : Nat) (hj : j < 100000) : ruleV (i * 100000 + j) = .agg #[.func (.func i) #[] #[], .func (.func j) #[] #[]] := by
  unfold ruleV
  rw [show (i * 100000 + j) / 100000 = i from by omega, show (i * 100000 + j) % 100000 = j from by omega]
theorem keepK {w : World} {b : Nat} {k : Int} (i j : Nat) (hf : rulesF k = some (i * 100000 + j)) (hj : j < 100000) (hk : (Lit.int .i64 k).wf = true) (w0 : World) (h0 : w.cell? ⟨b, 0, none⟩ = some (.int .i64 k)) (hb : Below w0.heap.size w0 w) (hlt : b < w0.heap.size) :
    Calls Try.prog 28 #[] w fun e w' => ∃ q, e = .returned (.map (some q)) ∧ (Instr.lookup 56 (.map (some q)) (.int .i64 k) true).run Try.prog w' = .ok (.tuple #[.agg #[.func (.func i) #[] #[], .func (.func j) #[] #[]], .bool true]) w' ∧ (Instr.lookup 56 (.map (some q)) (.int .i64 k) true).run Try.prog (w'.alloc (.cells #[.nilFunc, .nilFunc] 54)) = .ok (.tuple #[.agg #[.func (.func i) #[] #[], .func (.func j) #[] #[]], .bool true]) (w'.alloc (.cells #[.nilFunc, .nilFunc] 54)) ∧ w'.cell? ⟨b, 0, none⟩ = some (.int .i64 k) ∧ Below w0.heap.size w0 w' :=
  (rules_any w).mono fun e w' ⟨hw, q, he, hr⟩ => ⟨q, he, by rw [hr.look k hk, hf]; simp only [ruleV_mk i j hj], by rw [(hr.on ((Below.refl _ _).alloc (Nat.le_refl _) _)).look k hk, hf]; simp only [ruleV_mk i j hj], (hw.cell (p := ⟨b, 0, none⟩) (Nat.lt_of_lt_of_le hlt hb.size)).trans h0, hb.on hw⟩
theorem keepKX {w : World} {b : Nat} {k : Int} (i j : Nat) (hf : rulesF k = some (i * 100000 + j)) (hj : j < 100000) (hk : (Lit.int .i64 k).wf = true) (w0 : World) (h0 : w.cell? ⟨b, 0, none⟩ = some (.int .i64 k)) (hb : Below w0.heap.size w0 w) (hlt : b < w0.heap.size) (X : Nat) (hX : Blk w X [.nilFunc, .nilFunc] 54) :
    Calls Try.prog 28 #[] w fun e w' => ∃ q, e = .returned (.map (some q)) ∧ (Instr.lookup 56 (.map (some q)) (.int .i64 k) true).run Try.prog w' = .ok (.tuple #[.agg #[.func (.func i) #[] #[], .func (.func j) #[] #[]], .bool true]) w' ∧ w'.cell? ⟨b, 0, none⟩ = some (.int .i64 k) ∧ Below w0.heap.size w0 w' ∧
      w'.cell? ⟨X, 0, none⟩ = some .nilFunc ∧ w'.cell? ⟨X, 1, none⟩ = some .nilFunc ∧ w'.frozen? ⟨X, 0, none⟩ = false ∧ w'.frozen? ⟨X, 1, none⟩ = false ∧ Blk w' X [.nilFunc, .nilFunc] 54 :=
  (rules_any w).mono fun e w' ⟨hw, q, he, hr⟩ => by
    have hB := hX.on hw
    exact ⟨q, he, by rw [hr.look k hk, hf]; simp only [ruleV_mk i j hj], (hw.cell (p := ⟨b, 0, none⟩) (Nat.lt_of_lt_of_le hlt hb.size)).trans h0, hb.on hw, by rw [hB.cell]; rfl, by rw [hB.cell]; rfl, hB.free _, hB.free _, hB⟩
theorem keepN {w : World} {b : Nat} {k : Int} (hf : rulesF k = none) (hk : (Lit.int .i64 k).wf = true) (w0 : World) (h0 : w.cell? ⟨b, 0, none⟩ = some (.int .i64 k)) (hb : Below w0.heap.size w0 w) (hlt : b < w0.heap.size) :
    Calls Try.prog 28 #[] w fun e w' => ∃ q, e = .returned (.map (some q)) ∧ (Instr.lookup 56 (.map (some q)) (.int .i64 k) true).run Try.prog w' = .ok (.tuple #[.agg #[.nilFunc, .nilFunc], .bool false]) w' ∧ w'.cell? ⟨b, 0, none⟩ = some (.int .i64 k) ∧ Below w0.heap.size w0 w' :=
  (rules_any w).mono fun e w' ⟨hw, q, he, hr⟩ => ⟨q, he, by rw [hr.look k hk, hf], (hw.cell (p := ⟨b, 0, none⟩) (Nat.lt_of_lt_of_le hlt hb.size)).trans h0, hb.on hw⟩

set_option maxRecDepth 100000 in
set_option maxHeartbeats 4000000 in
theorem check_core (m : Msg) (i j : Nat) (hf : rulesF m.kind = some (i * 100000 + j)) (hj : j < 100000)
    (hci : ∀ (args : Array Value) (w : World), (callFunc i args).run Try.prog w = .ok (.enter i args) w) (hcj : ∀ (args : Array Value) (w : World), (callFunc j args).run Try.prog w = .ok (.enter j args) w)
    (hright : ∀ (w' : World) (a : Option Addr) (n c : Nat), RecsAt w' a n c m.recs → Calls Try.prog i #[msgV m a n c] w' fun e w'' => e = .returned (.bool (rightM m)) ∧ Below w'.heap.size w' w'')
    (hwipe : ∀ (q : Msg) (b : Nat) (w' : World) (a : Option Addr) (n c : Nat), q.kind = m.kind → MsgAt w' b q a n c → q.recs.length = n → n ≤ 9223372036854775807 → Calls Try.prog j #[.pointer (some ⟨b, 0, none⟩)] w' (Wiped q b w'))
    (a : Option Addr) (n c : Nat) (w : World) (h : RecsAt w a n c m.recs) (hm : m.ok) :
    Calls Try.prog 10 #[msgV m a n c] w fun e w' => e = .returned (.int .i64 (checkM m)) ∧ Below w.heap.size w w' := by
  have hlen := h.len
  have hmax := h.max
  have hB := (MsgAt.new w m a n c)
  have hb0 := (Below.refl w.heap.size w).alloc (Nat.le_refl _) (msgObj m a n c)
  have hr0 := h.on hb0
  unfold msgObj at hB hb0 hr0
  unfold msgV
  go_enter Try.func10, Try.ntmps10
  go_upto_region 1 with fail
  generalize w.alloc (.cells #[.int .i64 m.kind, .int .u64 m.te, .int .u64 m.di, .int .u64 m.id, .int .u64 m.lsn, .int .u64 m.low, .string ⟨m.key.toArray⟩, .string ⟨m.hi.toArray⟩, .bool m.del, .bool m.found, .string ⟨m.val.toArray⟩, .slice a n c, .int .i64 m.err] 26) = w1 at *
  obtain ⟨c0, c1, c2, c3, c4, c5, c6, c7, c8, c9, c10, c11, c12⟩ := hB.cells
  have Hlong := Lib.hid (long_any m a n c w1 hr0 hm)
  unfold msgV at Hlong
  have HL := Lib.hid hlen
  clear hlen h
  go_wp2_with fail
  refine Hlong.out.mono ?_
  rintro e w2 ⟨rfl, hb2⟩
  have hB2 : MsgAt w2 w.heap.size m a n c := Blk.on hB hb2
  have hr2 := hr0.on hb2
  have hbb2 := hb0.on hb2
  clear c0 c1 c2 c3 c4 c5 c6 c7 c8 c9 c10 c11 c12 Hlong hB hr0 hb0 hb2
  cases hl : longM m
  · have hcc := check_is m hl
    have hgi := good_is m
    have HC := Lib.hid hcc
    have HG := Lib.hid hgi
    have HF := Lib.hid hf
    have HRt := Lib.hid hright
    have HWp := Lib.hid hwipe
    have hkw : (Lit.int .i64 m.kind).wf = true := by
      have := hm.kind
      exact WalkArith.wf_i64 (by omega)
    clear hcc hgi hl hf hright hwipe
    go_upto_region 3 with fail
    go_cut [3, 4] (fun s3 s4 wx => ∃ X, s3 = .pointer (some ⟨X, 0, none⟩) ∧ s4 = .bool true ∧ Blk wx X [.func (.func i) #[] #[], .func (.func j) #[] #[]] 54 ∧ w2.heap.size ≤ X ∧ Below w2.heap.size w2 wx)
    case first =>
      obtain ⟨c0, c1, c2, c3, c4, c5, c6, c7, c8, c9, c10, c11, c12⟩ := hB2.cells
      have hlt : w.heap.size < w2.heap.size := hB2.lt
      have hrefl := Below.refl w2.heap.size w2
      have hdrew : Below w2.heap.size w2 w2.drew := below_drew hrefl
      clear c1 c2 c3 c4 c5 c6 c7 c8 c9 c10 c11 c12
      have hPX : ¬ (w.heap.size = w2.heap.size) := by omega
      have hPX2 : ¬ (w2.heap.size = w.heap.size) := by omega
      have hdrew2 : Below w2.heap.size w2 (w2.alloc (.cells #[.nilFunc, .nilFunc] 54)).drew := below_drew ((Below.refl _ _).alloc (Nat.le_refl _) _)
      have hXb : Blk (w2.alloc (.cells #[.nilFunc, .nilFunc] 54)).drew w2.heap.size [.nilFunc, .nilFunc] 54 := (Blk.new w2 [.nilFunc, .nilFunc] _).drew
      go_region_held3 (fun w' => w'.cell? ⟨w.heap.size, 0, none⟩ = some (.int .i64 m.kind)) (go_keep)
        (first
          | (go_at_call 28; (with_reducible refine (keepK (b := w.heap.size) i j HF.out hj hkw w2 ?_ hdrew hlt).mono ?_); assumption; rintro e w' ⟨q, rfl, hlk, hlk2, k0, k1⟩)
          | (go_at_call 28; (with_reducible refine (keepKX (b := w.heap.size) i j HF.out hj hkw w2 ?_ hdrew2 hlt w2.heap.size hXb).mono ?_); assumption; rintro e w' ⟨q, rfl, hlk, k0, k1, y0, y1, z0, z1, hXB⟩))
      all_goals
        go_wp2_with fail
        go_meet
        first
          | exact ⟨w'.heap.size, rfl, rfl, Blk.new _ _ _, k1.size, k1.alloc k1.size _⟩
          | exact ⟨w2.heap.size, rfl, rfl, (hXB.set 0 _).set 1 _, Nat.le_refl _, (k1.setCell (Nat.le_refl _) _).setCell (Nat.le_refl _) _⟩
    case rest =>
      obtain ⟨X, rfl, rfl, hX, hXs, hb3⟩ := hcut
      have hB3 : MsgAt wc w.heap.size m a n c := Blk.on hB2 hb3
      have hr3 := hr2.on hb3
      have hbb3 := hbb2.on hb3
      have hlt := hB2.lt
      clear hB2 hr2 hbb2 hb3
      obtain ⟨c0, c1, c2, c3, c4, c5, c6, c7, c8, c9, c10, c11, c12⟩ := hB3.cells
      have x0 : wc.cell? ⟨X, 0, none⟩ = some (.func (.func i) #[] #[]) := by rw [hX.cell]; rfl
      have x1 : wc.cell? ⟨X, 1, none⟩ = some (.func (.func j) #[] #[]) := by rw [hX.cell]; rfl
      go_wp2_with fail
      refine (mstamp_any m.te wc).mono ?_
      rintro e w4 ⟨rfl, rfl⟩
      cases hte : stampB m.te
      · have HZ := Lib.hid (show (checkM m : Int) = 2 by rw [HC.out, HG.out, hte]; rfl)
        clear hte
        go_wp2_with fail
        go_ret
        rw [HZ.out]
        exact ⟨rfl, hbb3⟩
      · have HTe := Lib.hid hte
        have Hright := Lib.hid (HRt.out wc a n c hr3)
        unfold msgV at Hright
        clear hte
        go_wp2_with fail
        refine Hright.out.mono ?_
        rintro e w5 ⟨rfl, hb5⟩
        have hB5 : MsgAt w5 w.heap.size m a n c := Blk.on hB3 hb5
        have hX5 := hX.on hb5
        have hbb5 := hbb3.on hb5
        clear c0 c1 c2 c3 c4 c5 c6 c7 c8 c9 c10 c11 c12 x0 x1 hB3 hX hbb3 hb5 hr3 Hright
        cases hrt : rightM m
        · have HZ := Lib.hid (show (checkM m : Int) = 2 by rw [HC.out, HG.out, hrt]; simp)
          clear hrt
          go_wp2_with fail
          go_ret
          rw [HZ.out]
          exact ⟨rfl, hbb5⟩
        · have HRi := Lib.hid hrt
          clear hrt
          obtain ⟨c0, c1, c2, c3, c4, c5, c6, c7, c8, c9, c10, c11, c12⟩ := hB5.cells
          have x0 : w5.cell? ⟨X, 0, none⟩ = some (.func (.func i) #[] #[]) := by rw [hX5.cell]; rfl
          have x1 : w5.cell? ⟨X, 1, none⟩ = some (.func (.func j) #[] #[]) := by rw [hX5.cell]; rfl
          by_cases hk1 : m.kind = 1
          · have hkb : (m.kind != 1) = false := by simp [hk1]
            have HGo := Lib.hid (show goodM m = restM (wipeM m) by rw [HG.out, HTe.out, HRi.out, if_pos hk1]; simp [hk1])
            have Hw := Lib.hid (HWp.out m w.heap.size w5 a n c rfl hB5 HL.out hmax)
            clear hk1
            go_wp2_with fail
            refine Hw.out.mono ?_
            rintro e w6 ⟨rfl, hm6, a6, n6, c6', hB6, hn6, hx6⟩
            have hbb6 : Below w.heap.size w w6 := Mod.fresh hbb5 hm6 (by simp)
            clear c0 c1 c2 c3 c4 c5 c6 c7 c8 c9 c10 c11 c12 x0 x1 hm6 Hw
            obtain ⟨c0, c1, c2, c3, c4, c5, c6, c7, c8, c9, c10, c11, c12⟩ := hB6.cells
            have Hrest := Lib.hid (rest_any (wipeM m) a6 n6 c6' w6 hn6 hx6)
            unfold msgV at Hrest
            clear hn6
            generalize wipeM m = q at *
            go_wp2_with fail
            refine Hrest.out.mono ?_
            rintro e w7 ⟨rfl, hb7⟩
            cases hq : restM q
            · have HZ := Lib.hid (show (checkM m : Int) = 2 by rw [HC.out, HGo.out, hq]; rfl)
              clear hq
              go_wp2_with fail
              go_ret
              rw [HZ.out]
              exact ⟨rfl, hbb6.on hb7⟩
            · have HZ := Lib.hid (show (checkM m : Int) = 0 by rw [HC.out, HGo.out, hq]; rfl)
              clear hq
              go_wp2_with fail
              go_ret
              rw [HZ.out]
              exact ⟨rfl, hbb6.on hb7⟩
          · have hkb : (m.kind != 1) = true := by simp [hk1]
            have hkb2 : (m.kind == 1) = false := by simp [hk1]
            have HK1 := Lib.hid hk1
            have HKB := Lib.hid hkb2
            clear hk1 hkb2
            go_wp2_with fail
            refine (mstamp_any m.di w5).mono ?_
            rintro e w6 ⟨rfl, rfl⟩
            cases hdi : stampB m.di
            · have HZ := Lib.hid (show (checkM m : Int) = 2 by rw [HC.out, HG.out, HKB.out, hdi]; simp)
              clear hdi
              go_wp2_with fail
              go_ret
              rw [HZ.out]
              exact ⟨rfl, hbb5⟩
            · have HDi := Lib.hid hdi
              have HGo := Lib.hid (show goodM m = restM (wipeM { m with di := 0 }) by rw [HG.out, HTe.out, HRi.out, if_neg HK1.out, HKB.out, hdi]; rfl)
              clear hdi
              have f2 := Blk.free hB5 2
              have hB6 : MsgAt (w5.setCell ⟨w.heap.size, 2, none⟩ (.int .u64 0)) w.heap.size { m with di := 0 } a n c := Blk.set hB5 2 (.int .u64 0)
              have hX6 := hX5.other ⟨w.heap.size, 2, none⟩ (.int .u64 0) (by show X ≠ w.heap.size; omega)
              have hbb6 := hbb5.setCell (p := ⟨w.heap.size, 2, none⟩) (Nat.le_refl _) (.int .u64 0)
              have HL2 : ({ m with di := 0 } : Msg).recs.length = n := HL.out
              have hXne : ¬ (X = w.heap.size) := by omega
              have hXne2 : ¬ (w.heap.size = X) := by omega
              have Hw := Lib.hid (HWp.out { m with di := 0 } w.heap.size _ a n c rfl hB6 HL2 hmax)
              clear HL2 hB6
              go_upto_region 10 with fail
              generalize w5.setCell ⟨w.heap.size, 2, none⟩ (.int .u64 0) = w6 at *
              clear c0 c1 c2 c3 c4 c5 c6 c7 c8 c9 c10 c11 c12 x0 x1 f2 hB5 hX5 hbb5
              have x1 : w6.cell? ⟨X, 1, none⟩ = some (.func (.func j) #[] #[]) := by rw [hX6.cell]; rfl
              go_wp2_with fail
              refine Hw.out.mono ?_
              rintro e w7 ⟨rfl, hm7, a7, n7, c7', hB7, hn7, hx7⟩
              have hbb7 : Below w.heap.size w w7 := Mod.fresh hbb6 hm7 (by simp)
              clear x1 hm7 Hw
              obtain ⟨c0, c1, c2, c3, c4, c5, c6, c7, c8, c9, c10, c11, c12⟩ := hB7.cells
              have Hrest := Lib.hid (rest_any (wipeM { m with di := 0 }) a7 n7 c7' w7 hn7 hx7)
              unfold msgV at Hrest
              clear hn7
              generalize wipeM { m with di := 0 } = q at *
              go_wp2_with fail
              refine Hrest.out.mono ?_
              rintro e w8 ⟨rfl, hb8⟩
              cases hq : restM q
              · have HZ := Lib.hid (show (checkM m : Int) = 2 by rw [HC.out, HGo.out, hq]; rfl)
                clear hq
                go_wp2_with fail
                go_ret
                rw [HZ.out]
                exact ⟨rfl, hbb7.on hb8⟩
              · have HZ := Lib.hid (show (checkM m : Int) = 0 by rw [HC.out, HGo.out, hq]; rfl)
                clear hq
                go_wp2_with fail
                go_ret
                rw [HZ.out]
                exact ⟨rfl, hbb7.on hb8⟩
  · have HC := Lib.hid (show (checkM m : Int) = 3 by unfold checkM; rw [hl]; rfl)
    clear hl
    go_wp2_with fail
    go_ret
    rw [HC.out]
    exact ⟨rfl, hbb2⟩
end Go.Proofs.Ytnijijcbdajodaa
