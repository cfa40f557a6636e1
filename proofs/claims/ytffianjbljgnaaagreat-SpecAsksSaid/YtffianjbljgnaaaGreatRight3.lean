/-
  spec.replay's right: is a call, on a map? Condition: at most a million keys.
-/
import Derived.Test.YtffianjbljgnaaaGreatRight2
import Derived.Deep.RegionHeld3
namespace Go.Proofs.YtffianjbljgnaaaGreat
set_option linter.unusedVariables false
set_option linter.unusedSimpArgs false
open Go.RowKit Go.Maps

/-- Keys that are ints. -/
def intKey : KeyT 3 Int where
  val := fun n => .int .i64 n
  lit := fun n => .int .i64 n
  ok := fun n => -9223372036854775808 ≤ n ∧ n ≤ 9223372036854775807
  key := fun n hn => keyOf_int_mk Tryz.underlying3 (by
    have h1 : IntKind.i64.min = -9223372036854775808 := rfl
    have h2 : IntKind.i64.max = 9223372036854775807 := rfl
    simp only [Lit.wf, h1, h2, Bool.and_eq_true, decide_eq_true_eq]
    omega)
  inj := fun x y _ _ e => by injection e
  law := int_keyed Tryz.underlying3
theorem two_new (w : World) (A B : List Value) (TA TB : TypeId) : Blk ((w.alloc (.cells A.toArray TA)).alloc (.cells B.toArray TB)).drew w.heap.size A TA ∧ Blk ((w.alloc (.cells A.toArray TA)).alloc (.cells B.toArray TB)).drew (w.heap.size + 1) B TB ∧ Below w.heap.size w ((w.alloc (.cells A.toArray TA)).alloc (.cells B.toArray TB)).drew := by
  have h1 := (Blk.new w A TA).alloc (.cells B.toArray TB)
  have h2 := Blk.new (w.alloc (.cells A.toArray TA)) B TB
  rw [World.size_alloc] at h2
  have hb := (Below.refl w.heap.size w).alloc (Nat.le_refl _) (.cells A.toArray TA)
  exact ⟨h1.drew, h2.drew, (hb.alloc hb.size _).drew⟩
def fnF (px cx ox : Nat) : Int → Option Value := fun z =>
  if z = 4 then some (.func (.func 47) #[] #[.pointer (some ⟨px, 0, none⟩), .pointer (some ⟨cx, 0, none⟩)])
  else if z = 3 then some (.func (.func 45) #[] #[.pointer (some ⟨px, 0, none⟩), .pointer (some ⟨cx, 0, none⟩)])
  else if z = 2 then some (.func (.func 42) #[] #[.pointer (some ⟨ox, 0, none⟩), .pointer (some ⟨px, 0, none⟩), .pointer (some ⟨cx, 0, none⟩)])
  else if z = 1 then some (.func (.func 41) #[] #[.pointer (some ⟨px, 0, none⟩), .pointer (some ⟨cx, 0, none⟩), .pointer (some ⟨ox, 0, none⟩)])
  else none
/-- The map of questions, as it is built. -/
theorem fns_built (w : World) (px cx ox : Nat) : ∃ w1 w2 w3 w4,
    (Instr.makeMap 86 none).run Tryz.prog w = .ok (.map (some w.heap.size)) (w.alloc (.map #[] 0)) ∧
    (Instr.mapUpdate 86 (.map (some w.heap.size)) (.int .i64 1) (.func (.func 41) #[] #[.pointer (some ⟨px, 0, none⟩), .pointer (some ⟨cx, 0, none⟩), .pointer (some ⟨ox, 0, none⟩)])).run Tryz.prog (w.alloc (.map #[] 0)) = .ok () w1 ∧
    (Instr.mapUpdate 86 (.map (some w.heap.size)) (.int .i64 2) (.func (.func 42) #[] #[.pointer (some ⟨ox, 0, none⟩), .pointer (some ⟨px, 0, none⟩), .pointer (some ⟨cx, 0, none⟩)])).run Tryz.prog w1 = .ok () w2 ∧
    (Instr.mapUpdate 86 (.map (some w.heap.size)) (.int .i64 3) (.func (.func 45) #[] #[.pointer (some ⟨px, 0, none⟩), .pointer (some ⟨cx, 0, none⟩)])).run Tryz.prog w2 = .ok () w3 ∧
    (Instr.mapUpdate 86 (.map (some w.heap.size)) (.int .i64 4) (.func (.func 47) #[] #[.pointer (some ⟨px, 0, none⟩), .pointer (some ⟨cx, 0, none⟩)])).run Tryz.prog w3 = .ok () w4 ∧
    VMap intKey w4 w.heap.size 4 (fnF px cx ox) ∧ Below w.heap.size w w4 := by
  have h0 := VMap.made intKey w
  have hb0 := (Below.refl w.heap.size w).alloc (Nat.le_refl _) (.map #[] 0)
  obtain ⟨w1, r1, h1, m1⟩ := h0.store (e := 31) Tryz.underlying86 (by unfold maxLen; omega) 1 (by constructor <;> decide) (.func (.func 41) #[] #[.pointer (some ⟨px, 0, none⟩), .pointer (some ⟨cx, 0, none⟩), .pointer (some ⟨ox, 0, none⟩)])
  obtain ⟨w2, r2, h2, m2⟩ := h1.store (e := 31) Tryz.underlying86 (by unfold maxLen; split <;> omega) 2 (by constructor <;> decide) (.func (.func 42) #[] #[.pointer (some ⟨ox, 0, none⟩), .pointer (some ⟨px, 0, none⟩), .pointer (some ⟨cx, 0, none⟩)])
  obtain ⟨w3, r3, h3, m3⟩ := h2.store (e := 31) Tryz.underlying86 (by unfold maxLen; (repeat' split) <;> omega) 3 (by constructor <;> decide) (.func (.func 45) #[] #[.pointer (some ⟨px, 0, none⟩), .pointer (some ⟨cx, 0, none⟩)])
  obtain ⟨w4, r4, h4, m4⟩ := h3.store (e := 31) Tryz.underlying86 (by unfold maxLen; (repeat' split) <;> omega) 4 (by constructor <;> decide) (.func (.func 47) #[] #[.pointer (some ⟨px, 0, none⟩), .pointer (some ⟨cx, 0, none⟩)])
  refine ⟨w1, w2, w3, w4, VMap.made_run (k := 3) (e := 31) Tryz.underlying86, r1, r2, r3, r4, ?_, ?_⟩
  · have e : VMap intKey w4 w.heap.size 4 _ := h4
    exact e.congr fun x => rfl
  · have hm := ((m1.trans m2).trans m3).trans m4
    exact hb0.trans (hm.below (fun x hx => by simp at hx; omega) hb0.size)
def rightB (M : List KV) (q : MZ) : Bool := if q.1.kind = 1 then readB M q.1 else if q.1.kind = 2 then decide (q.2 = sel M q.1.key q.1.hi) else true
def rightM (M : List KV) (q : MZ) : List KV := if q.1.kind = 3 then app M ⟨q.1.key, 0, false, q.1.val⟩ else if q.1.kind = 4 then app M ⟨q.1.key, 0, true, []⟩ else M
def rightW (W : List Rec) (q : MZ) : List Rec := if q.1.kind = 3 then setR W ⟨q.1.key, 0, false, q.1.val⟩ else if q.1.kind = 4 then setR W ⟨q.1.key, 0, true, []⟩ else W
/-- What right ends with. -/
def RightEnd (rb sb wb : Nat) (M : List KV) (W : List Rec) (q : MZ) (w : World) (e : Ending) (w' : World) : Prop := e = .returned (.bool (rightB M q)) ∧ RepAt w' rb sb wb (rightM M q) (rightW W q) ∧ Mod [sb, wb] w w'
set_option maxRecDepth 100000 in
set_option maxHeartbeats 8000000 in
theorem right_any (w : World) (rb sb wb : Nat) (q : MZ) (M : List KV) (W : List Rec) (hR : RepAt w rb sb wb M W) (hM : M.length ≤ 1000000) (hW : W.length ≤ 1000000) (hq : MdIs w q) (hpn : q.1.pn ≤ 9223372036854775807) (hki : -9223372036854775808 ≤ q.1.kind ∧ q.1.kind ≤ 9223372036854775807) :
    Calls Tryz.prog 19 #[.pointer (some ⟨rb, 0, none⟩), .agg (mdCells q.1).toArray] w (RightEnd rb sb wb M W q w) := by
  have hb0 := ((Below.refl w.heap.size w).alloc (Nat.le_refl _) (.cells #[.pointer (some ⟨rb, 0, none⟩)] 53))
  have hb1 := hb0.alloc hb0.size (.cells (mdCells q.1).toArray 45)
  have hp0 : Blk (w.alloc (.cells #[.pointer (some ⟨rb, 0, none⟩)] 53)) w.heap.size [.pointer (some ⟨rb, 0, none⟩)] 53 := Blk.new w [.pointer (some ⟨rb, 0, none⟩)] _
  have hp1 := hp0.alloc (.cells (mdCells q.1).toArray 45)
  have hmx := md_box (w.alloc (.cells #[.pointer (some ⟨rb, 0, none⟩)] 53)) q.1
  rw [World.size_alloc] at hmx
  clear hp0 hb0
  go_enter Tryz.func19, Tryz.ntmps19
  go_upto_region 1 with fail
  generalize hw1 : (w.alloc (.cells #[.pointer (some ⟨rb, 0, none⟩)] 53)).alloc (.cells (mdCells q.1).toArray 45) = w1 at *
  have hw1s : w1.heap.size = w.heap.size + 2 := by rw [← hw1]; simp
  clear hw1
  obtain ⟨mx, hmxe⟩ : ∃ mx, w.heap.size + 1 = mx := ⟨_, rfl⟩
  rw [hmxe] at hmx
  rw [hmxe]
  have hE1 : ¬ (mx = w1.heap.size) := by omega
  have hE2 : ¬ (mx = w1.heap.size + 1) := by omega
  have hE3 : ¬ (w1.heap.size = mx) := by omega
  clear hmxe
  go_cut [5, 6] (fun s5 s6 wx => ∃ cx ox : Nat, s5 = .pointer (some ⟨cx, 0, none⟩) ∧ s6 = .pointer (some ⟨ox, 0, none⟩) ∧ Blk wx cx (callCells q.1) 39 ∧ Blk wx ox (outCells q.1) 43 ∧ Below w1.heap.size w1 wx)
  case first =>
    obtain ⟨-, -, c2, c3, c4, c5, c6, -, c8, c9, c10, c11, c12, c13, -, -⟩ := hmx
    simp only [Nat.zero_add] at c2 c3 c4 c5 c6 c8 c9 c10 c11 c12 c13
    clear hp1 hb1 hR hq hw1s
    go_region_held3 (fun w' => w'.cell? ⟨mx, 2, none⟩ = some (.int .i64 q.1.kind) ∧ w'.cell? ⟨mx, 3, none⟩ = some (.int .u64 (q.1.cts : Nat)) ∧ w'.cell? ⟨mx, 4, none⟩ = some (.string ⟨q.1.key.toArray⟩) ∧ w'.cell? ⟨mx, 5, none⟩ = some (.string ⟨q.1.hi.toArray⟩) ∧ w'.cell? ⟨mx, 6, none⟩ = some (.string ⟨q.1.val.toArray⟩) ∧
      w'.cell? ⟨mx, 8, none⟩ = some (.int .u64 (q.1.ots : Nat)) ∧ w'.cell? ⟨mx, 9, none⟩ = some (.int .i64 q.1.on) ∧ w'.cell? ⟨mx, 10, none⟩ = some (.int .i64 q.1.err) ∧ w'.cell? ⟨mx, 11, none⟩ = some (.bool q.1.found) ∧ w'.cell? ⟨mx, 12, none⟩ = some (.string ⟨q.1.oval.toArray⟩) ∧ w'.cell? ⟨mx, 13, none⟩ = some (.slice q.1.pa q.1.pn q.1.pc)) (go_keep) (fail)
    all_goals
      go_wp2_with fail
      go_meet
      refine ⟨_, _, rfl, rfl, ?_, ?_, ?_⟩
    · exact (two_new w1 (callCells q.1) (outCells q.1) 39 43).1
    · exact (two_new w1 (callCells q.1) (outCells q.1) 39 43).2.1
    · exact (two_new w1 (callCells q.1) (outCells q.1) 39 43).2.2
    · exact (two_new w1 (outCells q.1) (callCells q.1) 43 39).2.1
    · exact (two_new w1 (outCells q.1) (callCells q.1) 43 39).1
    · exact (two_new w1 (outCells q.1) (callCells q.1) 43 39).2.2
  obtain ⟨cx, ox, rfl, rfl, hcx, hox, hb2⟩ := hcut
  obtain ⟨wa, wb1, wc1, w6, r0, r1, r2, r3, r4, hV, hb6⟩ := fns_built wc w.heap.size cx ox
  have hbc6 : Below w1.heap.size w1 w6 := hb2.trans (hb6.mono hb2.size)
  have hbw6 : Below w.heap.size w w6 := hb1.trans (hbc6.mono hb1.size)
  have k0 : w6.cell? ⟨cx, 0, none⟩ = some (.int .i64 q.1.kind) := by rw [(hcx.on hb6).cell]; rfl
  have hask : AskAt w6 w.heap.size cx ox rb q.1 := ⟨by rw [(hp1.on hbc6).cell]; rfl, by have := hbw6.size; have := hbc6.size; omega, hcx.on hb6, hox.on hb6⟩
  have HA := Lib.hid hask
  have HRep := Lib.hid (hR.on hbw6)
  have HQ := Lib.hid (hq.on hbw6)
  have HB := Lib.hid hbw6
  have hl := hV.look_ok (e := 31) (z := .nilFunc) Tryz.underlying86 (by kernel_rfl) q.1.kind hki
  rw [show intKey.val q.1.kind = .int .i64 q.1.kind from rfl] at hl
  clear hask hR hq hbw6 hbc6 hb1 hb2 hb6 hp1 hmx hcx hox hV hw1s hE1 hE2 hE3
  have HPN := Lib.hid hpn
  clear hpn
  by_cases e1 : q.1.kind = 1
  · have HE := Lib.hid (show rightB M q = readB M q.1 ∧ rightM M q = M ∧ rightW W q = W by unfold rightB rightM rightW; rw [e1]; exact ⟨rfl, rfl, rfl⟩)
    have HC := Lib.hid (right1_any w6 w.heap.size cx ox rb sb wb q.1 M W HA.out HRep.out HQ.out.key)
    rw [e1] at hl k0
    rw [show fnF w.heap.size cx ox 1 = some (.func (.func 41) #[] #[.pointer (some ⟨w.heap.size, 0, none⟩), .pointer (some ⟨cx, 0, none⟩), .pointer (some ⟨ox, 0, none⟩)]) from rfl] at hl
    simp only [Option.getD_some, Option.isSome_some] at hl
    clear e1 hki
    go_wp2_with fail
    refine HC.out.mono ?_
    rintro e w7 ⟨rfl, hb7⟩
    have HF := Lib.hid (show RightEnd rb sb wb M W q w (.returned (.bool (readB M q.1))) w7 from ⟨by rw [HE.out.1], by rw [HE.out.2.1, HE.out.2.2]; exact HRep.out.on hb7, Mod.of_below (HB.out.trans (hb7.mono HB.out.size))⟩)
    clear hb7
    go_wp2_with fail
    go_ret
    exact HF.out
  · by_cases e2 : q.1.kind = 2
    · have HE := Lib.hid (show rightB M q = decide (q.2 = sel M q.1.key q.1.hi) ∧ rightM M q = M ∧ rightW W q = W by unfold rightB rightM rightW; rw [e2]; exact ⟨rfl, rfl, rfl⟩)
      have HC := Lib.hid (right2_any w6 w.heap.size cx ox rb sb wb q.1 q.2 M W HA.out HRep.out hM HQ.out.n HQ.out.rows HPN.out)
      rw [e2] at hl k0
      rw [show fnF w.heap.size cx ox 2 = some (.func (.func 42) #[] #[.pointer (some ⟨ox, 0, none⟩), .pointer (some ⟨w.heap.size, 0, none⟩), .pointer (some ⟨cx, 0, none⟩)]) from rfl] at hl
      simp only [Option.getD_some, Option.isSome_some] at hl
      clear e1 e2 hki
      go_wp2_with fail
      refine HC.out.mono ?_
      rintro e w7 ⟨rfl, hb7⟩
      have HF := Lib.hid (show RightEnd rb sb wb M W q w (.returned (.bool (decide (q.2 = sel M q.1.key q.1.hi)))) w7 from ⟨by rw [HE.out.1], by rw [HE.out.2.1, HE.out.2.2]; exact HRep.out.on hb7, Mod.of_below (HB.out.trans (hb7.mono HB.out.size))⟩)
      clear hb7
      generalize decide (q.2 = sel M q.1.key q.1.hi) = bb at *
      go_wp2_with fail
      go_ret
      exact HF.out
    · by_cases e3 : q.1.kind = 3
      · have HE := Lib.hid (show rightB M q = true ∧ rightM M q = app M ⟨q.1.key, 0, false, q.1.val⟩ ∧ rightW W q = setR W ⟨q.1.key, 0, false, q.1.val⟩ by unfold rightB rightM rightW; rw [e3]; exact ⟨rfl, rfl, rfl⟩)
        have HC := Lib.hid (right3_any w6 w.heap.size cx ox rb sb wb q.1 M W HA.out HRep.out hM hW HQ.out.key)
        rw [e3] at hl k0
        rw [show fnF w.heap.size cx ox 3 = some (.func (.func 45) #[] #[.pointer (some ⟨w.heap.size, 0, none⟩), .pointer (some ⟨cx, 0, none⟩)]) from rfl] at hl
        simp only [Option.getD_some, Option.isSome_some] at hl
        clear e1 e2 e3 hki
        go_wp2_with fail
        refine HC.out.mono ?_
        rintro e w7 ⟨rfl, hR7, hm7⟩
        have HF := Lib.hid (show RightEnd rb sb wb M W q w (.returned (.bool true)) w7 from ⟨by rw [HE.out.1], by rw [HE.out.2.1, HE.out.2.2]; exact hR7, (Mod.of_below HB.out).trans hm7⟩)
        clear hR7 hm7
        go_wp2_with fail
        go_ret
        exact HF.out
      · by_cases e4 : q.1.kind = 4
        · have HE := Lib.hid (show rightB M q = true ∧ rightM M q = app M ⟨q.1.key, 0, true, []⟩ ∧ rightW W q = setR W ⟨q.1.key, 0, true, []⟩ by unfold rightB rightM rightW; rw [e4]; exact ⟨rfl, rfl, rfl⟩)
          have HC := Lib.hid (right4_any w6 w.heap.size cx ox rb sb wb q.1 M W HA.out HRep.out hM hW HQ.out.key)
          rw [e4] at hl k0
          rw [show fnF w.heap.size cx ox 4 = some (.func (.func 47) #[] #[.pointer (some ⟨w.heap.size, 0, none⟩), .pointer (some ⟨cx, 0, none⟩)]) from rfl] at hl
          simp only [Option.getD_some, Option.isSome_some] at hl
          clear e1 e2 e3 e4 hki
          go_wp2_with fail
          refine HC.out.mono ?_
          rintro e w7 ⟨rfl, hR7, hm7⟩
          have HF := Lib.hid (show RightEnd rb sb wb M W q w (.returned (.bool true)) w7 from ⟨by rw [HE.out.1], by rw [HE.out.2.1, HE.out.2.2]; exact hR7, (Mod.of_below HB.out).trans hm7⟩)
          clear hR7 hm7
          go_wp2_with fail
          go_ret
          exact HF.out
        · have HE := Lib.hid (show RightEnd rb sb wb M W q w (.returned (.bool true)) w6 from by
            refine ⟨?_, ?_, Mod.of_below HB.out⟩
            · unfold rightB; rw [if_neg e1, if_neg e2]
            · unfold rightM rightW
              rw [if_neg e3, if_neg e4, if_neg e3, if_neg e4]
              exact HRep.out)
          rw [show fnF w.heap.size cx ox q.1.kind = none by unfold fnF; rw [if_neg e4, if_neg e3, if_neg e2, if_neg e1]] at hl
          simp only [Option.getD_none, Option.isSome_none] at hl
          clear e1 e2 e3 e4 hki
          go_wp2_with fail
          go_ret
          exact HE.out
end Go.Proofs.YtffianjbljgnaaaGreat
