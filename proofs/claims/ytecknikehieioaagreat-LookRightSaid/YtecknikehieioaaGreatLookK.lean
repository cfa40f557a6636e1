/-
  look.Kept: the first commit that is not in the log, or entry that should not be. Condition: at most a hundred thousand calls and entries. (Printed by gen_lookk.py.)
-/
import Derived.Test.YtecknikehieioaaGreatLookB
namespace Go.Proofs.YtecknikehieioaaGreat
set_option linter.unusedVariables false
set_option linter.unusedSimpArgs false
open Go.RowKit Go.Maps

/-- A map that was just made. -/
theorem made_num (w : World) : ∃ (b : Nat) (w' : World), b = w.heap.size ∧ (Instr.makeMap 61 none).run Tryz.prog w = .ok (.map (some b)) w' ∧ VMap numKey w' b 0 (fun _ => none) ∧ Below w.heap.size w w' ∧ w'.heap.size = w.heap.size + 1 :=
  ⟨w.heap.size, _, rfl, VMap.made_run (w := w) (k := 32) (e := 3) (t := 61) Tryz.underlying61, VMap.made numKey w, (Below.refl w.heap.size w).alloc (Nat.le_refl _) _, by simp⟩
theorem wroF_next (zm : List MZ) (i : Nat) (q : MZ) (h : zm[i]? = some q) (x : Nat) : wroF (zm.take (i + 1)) x = if wroteK q.1 = true ∧ x = q.1.ts then some (.int .i64 1) else wroF (zm.take i) x := by
  unfold wroF wroteB
  rw [any_next _ _ _ _ h]
  generalize ((zm.take i).any fun q => wroteK q.1 && decide (q.1.ts = x)) = b
  generalize wroteK q.1 = k
  by_cases hx : q.1.ts = x
  · rw [decide_eq_true hx]
    cases k <;> cases b <;> simp [hx]
  · have hx' : ¬ x = q.1.ts := fun e => hx e.symm
    rw [decide_eq_false hx]
    cases k <;> cases b <;> simp [hx']
theorem askF_next (zm : List MZ) (i : Nat) (q : MZ) (h : zm[i]? = some q) (x : Nat) : askF (zm.take (i + 1)) x = if q.1.kind = 5 ∧ x = q.1.ts then some (.int .i64 1) else askF (zm.take i) x := by
  unfold askF askedB
  rw [any_next _ _ _ _ h]
  generalize ((zm.take i).any fun q => askC x q.1) = b
  unfold askC
  by_cases hk : q.1.kind = 5
  · by_cases hx : q.1.ts = x
    · rw [decide_eq_true hx, decide_eq_true hk]
      cases b <;> simp [hx, hk]
    · have hx' : ¬ x = q.1.ts := fun e => hx e.symm
      rw [decide_eq_false hx]
      cases b <;> simp [hx']
  · rw [decide_eq_false hk]
    cases b <;> simp [hk]
theorem cntF_next (L : List Entry) (i : Nat) (e : Entry) (h : L[i]? = some e) (x : Nat) : cntF (L.take (i + 1)) x = if x = e.ts then some (.int .i64 ((cntE (L.take i) e.ts : Nat) + 1 : Int)) else cntF (L.take i) x := by
  unfold cntF entB cntE
  rw [any_next _ _ _ _ h, take_next _ _ _ h, List.filter_append]
  generalize ((L.take i).any fun e => decide (e.ts = x)) = b
  by_cases hx : e.ts = x
  · subst hx
    rw [decide_eq_true rfl]
    cases b <;> simp
  · have hx' : ¬ x = e.ts := fun h => hx h.symm
    rw [decide_eq_false hx, if_neg hx', List.filter_cons_of_neg (by simpa using hx)]
    cases b <;> simp
theorem cnt_get (L : List Entry) (ts : Nat) : (cntF L ts).getD (.int .i64 0) = .int .i64 (cntE L ts : Nat) := by
  unfold cntF
  cases h : entB L ts with
  | true => rfl
  | false => rw [cntE_zero L ts h]; rfl
def KeptEnd (Z : List MZ) (L : List Entry) (w : World) (e : Ending) (w' : World) : Prop := e = .returned (.int .i64 (keptL Z L)) ∧ Below w.heap.size w w'
set_option maxRecDepth 100000 in
set_option maxHeartbeats 16000000 in
theorem kept_any (w : World) (am : Option Addr) (nm cm : Nat) (zm : List MZ) (hm : MadeAt w am nm cm zm) (hnm : nm ≤ 100000) (a : Option Addr) (n c : Nat) (z : List EZ) (h : EntsAt w a n c z) (hn : n ≤ 100000) (hops : ∀ q ∈ z, q.2.ops.length ≤ 1000000) :
    Calls Tryz.prog 13 #[.slice am nm cm, .slice a n c] w (KeptEnd zm (z.map (·.2)) w) := by
  have HMM := Lib.hid hm
  have HH := Lib.hid h
  have HO := Lib.hid hops
  obtain ⟨L, hL⟩ : ∃ L, z.map (·.2) = L := ⟨_, rfl⟩
  have HL := Lib.hid hL
  have HLen := Lib.hid (show L.length = n by rw [← hL, List.length_map]; exact HH.out.len)
  rw [hL]
  have HKL := Lib.hid (show keptL zm L = if 0 ≤ firstAt (keptC zm L) 0 zm then firstAt (keptC zm L) 0 zm else if scanK zm [] 1 0 L < 0 then -1 else zm.length + scanK zm [] 1 0 L from rfl)
  unfold KeptEnd
  obtain ⟨kl, hkl⟩ : ∃ k, keptL zm L = k := ⟨_, rfl⟩
  rw [hkl] at HKL ⊢
  clear hkl hL
  obtain ⟨wb, w1, hwb, hr1, hv1, hb1, hs1⟩ := made_num w
  obtain ⟨ab, w2, hab, hr2, hv2, hb2, hs2⟩ := made_num w1
  obtain ⟨eb, w3, heb, hr3, hv3, hb3, hs3⟩ := made_num w2
  have hB3 := (hb1.trans (hb2.mono (by omega))).trans (hb3.mono (by omega))
  have HV1 := Lib.hid ((hv1.on hb2).on hb3)
  have HV2 := Lib.hid (hv2.on hb3)
  have HV3 := Lib.hid hv3
  have HB3 := Lib.hid hB3
  have HS := Lib.hid (show wb = w.heap.size ∧ ab = w.heap.size + 1 ∧ eb = w.heap.size + 2 ∧ w3.heap.size = w.heap.size + 3 by omega)
  clear hwb hab heb hs1 hs2 hs3 hb1 hb2 hb3 hv1 hv2 hv3 hB3 hm h hops
  go_enter Tryz.func13, Tryz.ntmps13
  go_upto_region 2 with fail
  clear hr1 hr2 hr3
  have hbx0 := (Below.refl w3.heap.size w3).alloc (Nat.le_refl _) (.cells #[.map (some wb)] 61)
  have hbx1 := hbx0.alloc hbx0.size (.cells #[.map (some ab)] 61)
  have hbx2 := hbx1.alloc hbx1.size (.cells #[.map (some eb)] 61)
  have hk0 : Blk (w3.alloc (.cells #[.map (some wb)] 61)) w3.heap.size [.map (some wb)] 61 := Blk.new w3 [.map (some wb)] 61
  have hk1 : Blk ((w3.alloc (.cells #[.map (some wb)] 61)).alloc (.cells #[.map (some ab)] 61)) _ [.map (some ab)] 61 := Blk.new _ [.map (some ab)] 61
  have hk2 : Blk (((w3.alloc (.cells #[.map (some wb)] 61)).alloc (.cells #[.map (some ab)] 61)).alloc (.cells #[.map (some eb)] 61)) _ [.map (some eb)] 61 := Blk.new _ [.map (some eb)] 61
  have q1 := (Below.refl (w3.alloc (.cells #[.map (some wb)] 61)).heap.size (w3.alloc (.cells #[.map (some wb)] 61))).alloc (Nat.le_refl _) (.cells #[.map (some ab)] 61)
  have q2 := (Below.refl ((w3.alloc (.cells #[.map (some wb)] 61)).alloc (.cells #[.map (some ab)] 61)).heap.size ((w3.alloc (.cells #[.map (some wb)] 61)).alloc (.cells #[.map (some ab)] 61))).alloc (Nat.le_refl _) (.cells #[.map (some eb)] 61)
  have hk0 := (hk0.on q1).on q2
  have hk1 := hk1.on q2
  simp only [World.size_alloc] at hk0 hk1 hk2
  have hsz4 : (((w3.alloc (.cells #[.map (some wb)] 61)).alloc (.cells #[.map (some ab)] 61)).alloc (.cells #[.map (some eb)] 61)).heap.size = w3.heap.size + 3 := by simp
  generalize ((w3.alloc (.cells #[.map (some wb)] 61)).alloc (.cells #[.map (some ab)] 61)).alloc (.cells #[.map (some eb)] 61) = w4 at *
  obtain ⟨xb, hxb⟩ : ∃ x, w3.heap.size = x := ⟨_, rfl⟩
  rw [hxb] at hk0 hk1 hk2 hsz4
  have HK0 := Lib.hid hk0
  have HK1 := Lib.hid hk1
  have HK2 := Lib.hid hk2
  have HV1 := Lib.hid (HV1.out.on hbx2)
  have HV2 := Lib.hid (HV2.out.on hbx2)
  have HV3 := Lib.hid (HV3.out.on hbx2)
  have HB4 := Lib.hid (HB3.out.trans (hbx2.mono HB3.out.size))
  have HP := Lib.hid (show wb = w.heap.size ∧ ab = w.heap.size + 1 ∧ eb = w.heap.size + 2 ∧ xb = w.heap.size + 3 ∧ w4.heap.size = w.heap.size + 6 by have := HS.out; omega)
  simp only [hxb]
  clear hbx0 hbx1 hbx2 hk0 hk1 hk2 q1 q2 hsz4 hxb HS HB3
  have HV1 := Lib.hid (HV1.out.congr (g := wroF (zm.take 0)) (fun x => rfl))
  have HV2 := Lib.hid (HV2.out.congr (g := askF (zm.take 0)) (fun x => rfl))
  go_wp2_with fail
  go_loopw [9, 10, 21] (fun _ _ s21 wr => ∃ (i n1 n2 : Nat), i ≤ nm ∧ s21 = .int .i64 i ∧ n1 ≤ i ∧ n2 ≤ i ∧ VMap numKey wr wb n1 (wroF (zm.take i)) ∧ VMap numKey wr ab n2 (askF (zm.take i)) ∧ Mod [wb, ab] w4 wr) (fun _ _ s21 _ => nm - (intOf s21).toNat)
  case atStart => exact ⟨0, 0, 0, by omega, rfl, by omega, by omega, HV1.out, HV2.out, Mod.refl _ _⟩
  case round =>
    clear HV1 HV2
    obtain ⟨i, n1, n2, hi, rfl, hn1, hn2, hv1, hv2, hmd⟩ := hrel
    have hsr := hmd.size
    have hp := HP.out
    have hbw : Below w.heap.size w wr := HB4.out.trans (hmd.below (fun x hx => by simp only [List.mem_cons, List.not_mem_nil, or_false] at hx; omega) (by omega))
    by_cases hlt : i < nm
    · have hil : (i : Int) < (nm : Int) := by omega
      obtain ⟨q, g, o, hq, hqz, rfl, hg, hc⟩ := (HMM.out.on hbw).row hlt
      have hBn := (Below.refl wr.heap.size wr).alloc (Nat.le_refl _) (.cells (mdCells q.1).toArray 40)
      have HC := Lib.hid hc
      have HTs := Lib.hid (show q.1.ts < 18446744073709551616 from (HMM.out.each q hqz).ts)
      have HBox := Lib.hid (md_box wr q.1)
      have HW := Lib.hid (wroF_next zm i q hq)
      have HA := Lib.hid (askF_next zm i q hq)
      have HV1 := Lib.hid (hv1.on hBn)
      have HV2 := Lib.hid (hv2.on hBn)
      have HMd := Lib.hid (hmd.thenBelow hBn)
      have hb0 := (hmd.cell (b := xb) (i := 0) (by omega) (by simp only [List.mem_cons, List.not_mem_nil, or_false]; omega)).trans (show w4.cell? ⟨xb, 0, none⟩ = some (.map (some wb)) by rw [HK0.out.cell]; rfl)
      have hb1 := (hmd.cell (b := xb + 1) (i := 0) (by omega) (by simp only [List.mem_cons, List.not_mem_nil, or_false]; omega)).trans (show w4.cell? ⟨xb + 1, 0, none⟩ = some (.map (some ab)) by rw [HK1.out.cell]; rfl)
      have HBx0 := Lib.hid ((hBn.cell (p := ⟨xb, 0, none⟩) (by show xb < _; omega)).trans hb0)
      have HBx1 := Lib.hid ((hBn.cell (p := ⟨xb + 1, 0, none⟩) (by show xb + 1 < _; omega)).trans hb1)
      have hwl : wb < xb ∧ ab < xb ∧ xb + 3 ≤ wr.heap.size ∧ wb ≠ ab := by omega
      clear hc hv1 hv2 hmd hBn hq hqz hb0 hb1 hp hsr hbw
      go_upto_region 5 with (first | ((with_reducible refine wpList_loadM rfl _ rfl _ _ _ HC.out ?_ ?_); rfl) | ((with_reducible refine wpList_storeM rfl _ _ rfl _ q.1 ?_ ?_ ?_); rfl; rfl))
      go_frame
      generalize hw5 : wr.alloc (.cells (mdCells q.1).toArray 40) = w5 at *
      have HW5 := Lib.hid (show wr.heap.size < w5.heap.size by rw [← hw5]; simp)
      clear hw5
      obtain ⟨d0, _, d2, _, _, _, _, d7, _, _, d10, _⟩ := HBox.out
      simp only [Nat.zero_add] at d2 d7 d10
      have b0 := HBx0.out
      have b1 := HBx1.out
      go_upto_region 6 with fail
      go_cut [43] (fun s wx => s = .bool (wroteK q.1) ∧ w5 = wx)
      case first =>
        have HE := Lib.hid (show wroteK q.1 = (q.1.dn && (decide (q.1.err = 0) && (decide (q.1.kind = 3) || decide (q.1.kind = 4)))) from rfl)
        cases h1 : q.1.dn with
        | false =>
          have HR := Lib.hid (show wroteK q.1 = false by rw [HE.out, h1]; rfl)
          rw [h1] at d7
          clear HE h1
          go_wp2_with fail
          go_meet
          exact ⟨by rw [HR.out], rfl⟩
        | true =>
          rw [h1] at d7
          by_cases h2 : q.1.err = 0
          · have e2 : (q.1.err == 0) = true := by simp [h2]
            by_cases h3 : q.1.kind = 3
            · have e3 : (q.1.kind == 3) = true := by simp [h3]
              have HR := Lib.hid (show wroteK q.1 = true by rw [HE.out, h1, decide_eq_true h2, decide_eq_true h3]; rfl)
              clear HE h1 h2 h3
              go_wp2_with fail
              go_meet
              exact ⟨by rw [HR.out], rfl⟩
            · have e3 : (q.1.kind == 3) = false := by simp [h3]
              by_cases h4 : q.1.kind = 4
              · have e4 : (q.1.kind == 4) = true := by simp [h4]
                have HR := Lib.hid (show wroteK q.1 = true by rw [HE.out, h1, decide_eq_true h2, decide_eq_true h4]; simp)
                clear HE h1 h2 h3 h4
                go_wp2_with fail
                go_meet
                exact ⟨by rw [HR.out], rfl⟩
              · have e4 : (q.1.kind == 4) = false := by simp [h4]
                have HR := Lib.hid (show wroteK q.1 = false by rw [HE.out, decide_eq_false h3, decide_eq_false h4]; simp)
                clear HE h1 h2 h3 h4
                go_wp2_with fail
                go_meet
                exact ⟨by rw [HR.out], rfl⟩
          · have e2 : (q.1.err == 0) = false := by simp [h2]
            have HR := Lib.hid (show wroteK q.1 = false by rw [HE.out, decide_eq_false h2]; simp)
            clear HE h1 h2
            go_wp2_with fail
            go_meet
            exact ⟨by rw [HR.out], rfl⟩
      obtain ⟨rfl, rfl⟩ := hcut
      go_upto_if 43 with fail
      go_cut [] (fun wx => ∃ k, k ≤ i + 1 ∧ VMap numKey wx wb k (wroF (zm.take (i + 1))) ∧ Mod [wb] w5 wx)
      case first =>
        cases hwk : wroteK q.1 with
        | false =>
          have HN := Lib.hid (show ∃ k, k ≤ i + 1 ∧ VMap numKey w5 wb k (wroF (zm.take (i + 1))) ∧ Mod [wb] w5 w5 from ⟨n1, by omega, HV1.out.congr (fun x => by rw [HW.out, hwk]; simp), Mod.refl _ _⟩)
          clear hwk
          go_wp2_with fail
          go_meet
          exact HN.out
        | true =>
          obtain ⟨w6, hrun, ⟨k, hk, hv⟩, hm6⟩ := num_store HV1.out (by omega) q.1.ts HTs.out 1
          have HN := Lib.hid (show ∃ k, k ≤ i + 1 ∧ VMap numKey w6 wb k (wroF (zm.take (i + 1))) ∧ Mod [wb] w5 w6 from ⟨k, by omega, hv.congr (fun x => by rw [HW.out, hwk]; simp), hm6⟩)
          clear hwk hv hm6
          go_wp2_with fail
          go_meet
          exact HN.out
      rename World => w6
      obtain ⟨n1', hn1', hv1, hm6⟩ := hcut
      have HV1' := Lib.hid hv1
      have HV2' := Lib.hid (HV2.out.mod hm6 (by simp only [List.mem_singleton]; omega))
      have HM6 := Lib.hid (HMd.out.trans (hm6.mono (fun z hz => .inl (by simp at hz; simp [hz]))))
      have d0' := (hm6.cell (b := wr.heap.size) (i := 0) HW5.out (by simp only [List.mem_singleton]; omega)).trans d0
      have d2' := (hm6.cell (b := wr.heap.size) (i := 2) HW5.out (by simp only [List.mem_singleton]; omega)).trans d2
      have b1' := (hm6.cell (b := xb + 1) (i := 0) (by have := HW5.out; omega) (by simp only [List.mem_singleton]; omega)).trans b1
      clear hv1 hm6 d0 d2 d7 d10 b0 b1 HV1 HV2 HBx0 HBx1
      by_cases hk5 : q.1.kind = 5
      · have e5 : (q.1.kind == 5) = true := by simp [hk5]
        obtain ⟨w7, hrun, ⟨k, hk, hv⟩, hm7⟩ := num_store HV2'.out (by omega) q.1.ts HTs.out 1
        have HN := Lib.hid (show VMap numKey w7 ab k (askF (zm.take (i + 1))) from hv.congr (fun x => by rw [HA.out]; simp [hk5]))
        have HN1 := Lib.hid (HV1'.out.mod hm7 (by simp only [List.mem_singleton]; omega))
        have HM7 := Lib.hid (HM6.out.trans (hm7.mono (fun z hz => .inl (by simp at hz; simp [hz]))))
        clear hk5 hv hm7
        go_wp2_with fail
        go_roundw
        case rel => exact ⟨i + 1, n1', k, by omega, by go_num, hn1', by omega, HN1.out, HN.out, HM7.out⟩
        case measure => simp [intOf]; omega
      · have e5 : (q.1.kind == 5) = false := by simp [hk5]
        have HN := Lib.hid (show VMap numKey w6 ab n2 (askF (zm.take (i + 1))) from HV2'.out.congr (fun x => by rw [HA.out]; simp [hk5]))
        clear hk5
        go_wp2_with fail
        go_roundw
        case rel => exact ⟨i + 1, n1', n2, by omega, by go_num, hn1', by omega, HV1'.out, HN.out, HM6.out⟩
        case measure => simp [intOf]; omega
    · have hge : ¬ (i : Int) < (nm : Int) := by omega
      have hall : zm.take i = zm := List.take_of_length_le (by have := HMM.out.len; omega)
      rw [hall] at hv1 hv2
      have HV1 := Lib.hid hv1
      have HV2 := Lib.hid hv2
      have HMd := Lib.hid hmd
      have HBw := Lib.hid hbw
      have HV3 := Lib.hid ((HV3.out.mod hmd (by simp only [List.mem_cons, List.not_mem_nil, or_false]; omega)).congr (g := cntF (L.take 0)) (fun x => rfl))
      have HK0 := Lib.hid (HK0.out.mod hmd (by simp only [List.mem_cons, List.not_mem_nil, or_false]; omega))
      have HK1 := Lib.hid (HK1.out.mod hmd (by simp only [List.mem_cons, List.not_mem_nil, or_false]; omega))
      have HK2 := Lib.hid (HK2.out.mod hmd (by simp only [List.mem_cons, List.not_mem_nil, or_false]; omega))
      have HSr := Lib.hid hsr
      clear hv1 hv2 hmd hbw hall hp hsr hn1 hn2
      generalize wr = wo at *
      go_wp2_with fail
      go_loopw [12, 55] (fun _ s55 wr => ∃ (i n3 : Nat), i ≤ n ∧ s55 = .int .i64 i ∧ n3 ≤ i ∧ VMap numKey wr eb n3 (cntF (L.take i)) ∧ Mod [eb] wo wr) (fun _ s55 _ => n - (intOf s55).toNat)
      case atStart => exact ⟨0, 0, by omega, rfl, by omega, HV3.out, Mod.refl _ _⟩
      case round =>
        clear HV3
        obtain ⟨j, n3, hj, rfl, hn3, hv3, hmd⟩ := hrel
        have hsr := hmd.size
        have hp := HP.out
        have hs4 := HSr.out
        have hbw : Below w.heap.size w wr := HBw.out.trans (hmd.below (fun x hx => by simp only [List.mem_singleton] at hx; omega) (by omega))
        by_cases hlt2 : j < n
        · have hjl : (j : Int) < (n : Int) := by omega
          obtain ⟨q, g, o, hq, hqz, rfl, hg, d0, d1, d2⟩ := (HH.out.on hbw).row hlt2
          have hLj : L[j]? = some q.2 := by rw [← HL.out, List.getElem?_map, hq]; rfl
          have hts : q.1.ts = q.2.ts := (HH.out.each q hqz).ts
          have HTs := Lib.hid (show q.2.ts < 18446744073709551616 from (HH.out.each q hqz).ok.ts)
          have HN := Lib.hid (cntF_next L j q.2 hLj)
          have hcl := cntE_le (L.take j) q.2.ts
          rw [List.length_take] at hcl
          have hBn := (Below.refl wr.heap.size wr).alloc (Nat.le_refl _) (.cells #[.int .u64 (q.1.ts : Nat), .int .u64 (q.1.first : Nat), .slice q.1.a q.1.n q.1.c] 43)
          have hA : Blk (wr.alloc (.cells #[.int .u64 (q.1.ts : Nat), .int .u64 (q.1.first : Nat), .slice q.1.a q.1.n q.1.c] 43)) wr.heap.size [.int .u64 (q.1.ts : Nat), .int .u64 (q.1.first : Nat), .slice q.1.a q.1.n q.1.c] 43 := Blk.new wr [.int .u64 (q.1.ts : Nat), .int .u64 (q.1.first : Nat), .slice q.1.a q.1.n q.1.c] 43
          have HA := Lib.hid hA
          have HV3 := Lib.hid (hv3.on hBn)
          have HMd := Lib.hid (hmd.thenBelow hBn)
          have hb2 := (hmd.cell (b := xb + 1 + 1) (i := 0) (by omega) (by simp only [List.mem_singleton]; omega)).trans (show wo.cell? ⟨xb + 1 + 1, 0, none⟩ = some (.map (some eb)) by rw [HK2.out.cell]; rfl)
          have HB2 := Lib.hid ((hBn.cell (p := ⟨xb + 1 + 1, 0, none⟩) (by show xb + 1 + 1 < _; omega)).trans hb2)
          obtain ⟨⟨qt, qf, qa, qn, qc⟩, e⟩ := q
          simp only at hts d0 d1 d2 HTs HN hcl HA HV3 HMd HB2
          subst hts
          clear hv3 hmd hBn hA hq hqz hLj hb2 hp hsr hs4 hbw hg
          go_upto_region 14 with fail
          generalize wr.alloc (.cells #[.int .u64 (e.ts : Nat), .int .u64 (qf : Nat), .slice qa qn qc] 43) = w5 at *
          clear d0 d1 d2
          have d0 : w5.cell? ⟨wr.heap.size, 0, none⟩ = some (.int .u64 (e.ts : Nat)) := by rw [HA.out.cell]; rfl
          have b2 := HB2.out
          have hlk := num_look HV3.out e.ts HTs.out
          rw [cnt_get] at hlk
          obtain ⟨c, hc⟩ : ∃ c, cntE (L.take j) e.ts = c := ⟨_, rfl⟩
          rw [hc] at hlk HN hcl
          have hwc : IntKind.i64.wrap ((c : Int) + 1) = (c : Int) + 1 := IntWalk.i64_in _ (by omega)
          obtain ⟨w6, hrun, ⟨k, hk, hv⟩, hm6⟩ := num_store HV3.out (by omega) e.ts HTs.out ((c : Int) + 1)
          have HV6 := Lib.hid (show VMap numKey w6 eb k (cntF (L.take (j + 1))) from hv.congr (fun x => by rw [HN.out]))
          have HM6 := Lib.hid (HMd.out.trans hm6)
          clear hc hv hm6 hcl
          go_wp2_with fail
          go_roundw
          case rel => exact ⟨j + 1, k, by omega, by go_num, by omega, HV6.out, HM6.out⟩
          case measure => simp [intOf]; omega
        · have hge2 : ¬ (j : Int) < (n : Int) := by omega
          have hall : L.take j = L := List.take_of_length_le (by have := HLen.out; omega)
          rw [hall] at hv3
          have HM5 := Lib.hid (HMM.out.on hbw)
          have HH5 := Lib.hid (HH.out.on hbw)
          have HBw5 := Lib.hid hbw
          have HK1' := Lib.hid (HK1.out.mod hmd (by simp only [List.mem_singleton]; omega))
          have HV2' := Lib.hid (HV2.out.mod hmd (by simp only [List.mem_singleton]; omega))
          have HKp := Lib.hid (show Kept1At wr xb (xb + 1 + 1) wb eb zm L from
            ⟨by rw [(HK0.out.mod hmd (by simp only [List.mem_singleton]; omega)).cell]; rfl, by rw [(HK2.out.mod hmd (by simp only [List.mem_singleton]; omega)).cell]; rfl, by omega, by omega, ⟨_, HV1.out.mod hmd (by simp only [List.mem_singleton]; omega)⟩, ⟨_, hv3⟩⟩)
          have HFK := Lib.hid (firstK_any wr (keptC zm L) xb (xb + 1 + 1) am nm cm zm HM5.out hnm (fun w' i q hq hb => kept1_any w' i xb (xb + 1 + 1) wb eb zm L (HKp.out.on hb) q.1 (HMM.out.each q hq).ts))
          have HP5 := Lib.hid (show xb + 3 ≤ wr.heap.size ∧ ab < xb ∧ w.heap.size ≤ wr.heap.size by omega)
          clear hv3 hmd hall hp hsr hs4 hbw HV1 HV2 HK0 HK1 HK2 HBw HMd hn3
          generalize wr = w5 at *
          generalize firstAt (keptC zm L) 0 zm = fk at *
          go_wp2_with fail
          refine HFK.out.mono ?_
          rintro e w6 ⟨rfl, hb6⟩
          have HB6 := Lib.hid hb6
          clear hb6 HFK HKp
          by_cases hfk : 0 ≤ fk
          · have hfk' : fk ≥ 0 := hfk
            have HR := Lib.hid (show kl = fk by rw [HKL.out, if_pos hfk])
            have HE := Lib.hid (HBw5.out.trans (HB6.out.mono HP5.out.2.2))
            clear HKL
            go_wp2_with fail
            go_ret
            exact ⟨by rw [HR.out]; try rfl, HE.out⟩
          · have hfk' : ¬ fk ≥ 0 := hfk
            rw [if_neg hfk] at HKL
            obtain ⟨mb, w7, hmb, hr7, hv7, hb7, hs7⟩ := made_num w6
            have hs6 := HB6.out.size
            have HV7 := Lib.hid hv7
            have HB7 := Lib.hid hb7
            have HS7 := Lib.hid (show mb = w6.heap.size ∧ w7.heap.size = w6.heap.size + 1 ∧ w5.heap.size ≤ w6.heap.size from ⟨hmb, hs7, hs6⟩)
            clear hmb hv7 hb7 hs7 hs6
            go_upto_region 20 with fail
            clear hr7
            have hx0 := (Below.refl w7.heap.size w7).alloc (Nat.le_refl _) (.cells #[.int .u64 (1 : Int)] 32)
            have hx1 := hx0.alloc hx0.size (.cells #[.map (some mb)] 61)
            have hy0 : Blk (w7.alloc (.cells #[.int .u64 (1 : Int)] 32)) w7.heap.size [.int .u64 ((1 : Nat) : Int)] 32 := Blk.new w7 [.int .u64 ((1 : Nat) : Int)] 32
            have q1 := (Below.refl (w7.alloc (.cells #[.int .u64 (1 : Int)] 32)).heap.size (w7.alloc (.cells #[.int .u64 (1 : Int)] 32))).alloc (Nat.le_refl _) (.cells #[.map (some mb)] 61)
            have hy1 : Blk ((w7.alloc (.cells #[.int .u64 (1 : Int)] 32)).alloc (.cells #[.map (some mb)] 61)) _ [.map (some mb)] 61 := Blk.new _ [.map (some mb)] 61
            have hy0 := hy0.on q1
            simp only [World.size_alloc] at hy1
            have hsz8 : ((w7.alloc (.cells #[.int .u64 (1 : Int)] 32)).alloc (.cells #[.map (some mb)] 61)).heap.size = w7.heap.size + 2 := by simp
            generalize (w7.alloc (.cells #[.int .u64 (1 : Int)] 32)).alloc (.cells #[.map (some mb)] 61) = w8 at *
            obtain ⟨nb, hnb⟩ : ∃ x, w7.heap.size = x := ⟨_, rfl⟩
            have HB8 := Lib.hid (HB7.out.trans (hx1.mono HB7.out.size))
            rw [hnb] at hy0 hy1 hsz8
            have hp5 := HP5.out
            have hp7 := HS7.out
            have HB58 := Lib.hid (HB6.out.trans (HB8.out.mono (by omega)))
            have HK := Lib.hid (show Kept2At w8 (xb + 1) (nb + 1) nb ab mb zm [] 1 from by
              have hk1 := HK1'.out.on HB58.out
              exact ⟨by rw [hk1.cell]; rfl, by rw [hy1.cell]; rfl, hy0, by omega, by omega, ⟨_, HV2'.out.on HB58.out⟩, ⟨0, by simp, (HV7.out.on hx1).congr (fun x => rfl)⟩, ⟨by omega, by omega⟩, ⟨by omega, by omega⟩, by omega, ⟨by omega, by omega⟩⟩)
            have HFE := Lib.hid (firstE_any w8 (xb + 1) (nb + 1) nb ab mb zm w6.heap.size (by omega) ⟨by omega, by omega⟩ a n c z (fun w' hb => (HH5.out.on HB6.out).on (HB8.out.trans hb)) hn HO.out HK.out)
            rw [HL.out] at HFE
            simp only [hnb]
            clear hx0 hx1 hy0 hy1 q1 hsz8 hnb hp5 hp7 HK
            have hsk := scanK_ge zm L [] 1 0
            generalize scanK zm [] 1 0 L = sk at *
            have HBh := Lib.hid (fun w' => behind_any sk nm (by have := HLen.out; omega) (by omega) w')
            have HR := Lib.hid (show kl = (if sk < 0 then -1 else (nm : Int) + sk) by rw [HKL.out, show (zm.length : Int) = nm by rw [HMM.out.len]])
            have hs68 : w6.heap.size ≤ w8.heap.size := HB8.out.size
            obtain ⟨bv, hbv⟩ : ∃ b, (if sk < 0 then -1 else (nm : Int) + sk) = b := ⟨_, rfl⟩
            rw [hbv] at HR
            simp only [hbv] at HBh
            clear hsk HKL hbv
            go_wp2_with fail
            refine HFE.out.mono ?_
            rintro e w9 ⟨rfl, hb9⟩
            have HB9 := Lib.hid (HBw5.out.trans ((HB58.out.mono HP5.out.2.2).trans (hb9.mono (by have := HB6.out.size; have := HP5.out.2.2; omega))))
            clear hb9 HFE
            go_wp2_with fail
            refine (HBh.out w9).mono ?_
            rintro e w10 ⟨rfl, rfl⟩
            go_wp2_with fail
            go_ret
            exact ⟨by rw [HR.out]; try rfl, HB9.out⟩
end Go.Proofs.YtecknikehieioaaGreat
