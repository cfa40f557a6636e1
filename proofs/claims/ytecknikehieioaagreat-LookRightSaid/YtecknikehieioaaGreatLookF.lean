/-
  look.Kept: the first commit that is not in the log, or entry that should not be. Condition: at most a hundred thousand calls and entries. (Printed by gen_lookf.py.)
-/
import Derived.Test.YtecknikehieioaaGreatLookP
namespace Go.Proofs.YtecknikehieioaaGreat
set_option linter.unusedVariables false
set_option linter.unusedSimpArgs false
open Go.RowKit Go.Maps

theorem behind_any (n m : Int) (hn : -1 ≤ n ∧ n ≤ 1000000000) (hm : 0 ≤ m ∧ m ≤ 1000000000) (w : World) : Calls Tryz.prog 32 #[.int .i64 n, .int .i64 m] w fun e w' => e = .returned (.int .i64 (if n < 0 then -1 else m + n)) ∧ w = w' := by
  by_cases h : n < 0
  · obtain rfl : n = -1 := by omega
    go_enter Tryz.func32, Tryz.ntmps32
    go_wp2_with fail
    go_ret
    exact ⟨rfl, rfl⟩
  · rw [if_neg h]
    go_enter Tryz.func32, Tryz.ntmps32
    go_wp2_with fail
    go_ret
    exact ⟨rfl, rfl⟩
def askF (Z : List MZ) : Nat → Option Value := fun ts => if askedB Z ts then some (.int .i64 1) else none
def wroF (Z : List MZ) : Nat → Option Value := fun ts => if wroteB Z ts then some (.int .i64 1) else none
def cntE (L : List Entry) (ts : Nat) : Nat := (L.filter fun x => decide (x.ts = ts)).length
def cntF (L : List Entry) : Nat → Option Value := fun ts => if entB L ts then some (.int .i64 (cntE L ts : Nat)) else none
theorem cntE_zero (L : List Entry) (ts : Nat) (h : entB L ts = false) : cntE L ts = 0 := by
  unfold cntE
  rw [List.length_eq_zero_iff, List.filter_eq_nil_iff]
  intro x hx hc
  unfold entB at h
  rw [List.any_eq_false] at h
  exact h x hx hc
theorem cntE_pos (L : List Entry) (ts : Nat) (h : entB L ts = true) : 0 < cntE L ts := by
  unfold cntE
  unfold entB at h
  obtain ⟨x, hx, hc⟩ := List.any_eq_true.1 h
  exact List.length_pos_iff_exists_mem.2 ⟨x, List.mem_filter.2 ⟨hx, hc⟩⟩
theorem cntE_le (L : List Entry) (ts : Nat) : cntE L ts ≤ L.length := List.length_filter_le _ _
theorem num_look {w : World} {b n : Nat} {F : Nat → Option Value} (h : VMap numKey w b n F) (ts : Nat) (hts : ts < 2 ^ 64) :
    (Instr.lookup 61 (.map (some b)) (.int .u64 (ts : Nat)) false).run Tryz.prog w = .ok ((F ts).getD (.int .i64 0)) w := by
  have := h.look_run (e := 3) (z := .int .i64 0) Tryz.underlying61 (by kernel_rfl) ts hts
  rw [show numKey.val ts = .int .u64 (ts : Nat) from rfl] at this
  exact this
theorem num_store {w : World} {b n : Nat} {F : Nat → Option Value} (h : VMap numKey w b n F) (hn : n ≤ 100000000) (ts : Nat) (hts : ts < 2 ^ 64) (v : Int) :
    ∃ w', (Instr.mapUpdate 61 (.map (some b)) (.int .u64 (ts : Nat)) (.int .i64 v)).run Tryz.prog w = .ok () w' ∧ (∃ k, k ≤ n + 1 ∧ VMap numKey w' b k (fun y => if y = ts then some (.int .i64 v) else F y)) ∧ Mod [b] w w' := by
  obtain ⟨w', hrun, hm, hmod⟩ := h.store (e := 3) Tryz.underlying61 (by unfold maxLen; omega) ts hts (.int .i64 v)
  rw [show numKey.val ts = .int .u64 (ts : Nat) from rfl] at hrun
  exact ⟨w', hrun, ⟨_, by split <;> omega, hm⟩, hmod⟩
/-- What Kept's first question finds. -/
structure Kept1At (w : World) (wx ex wb eb : Nat) (Z : List MZ) (L : List Entry) : Prop where
  wc : w.cell? ⟨wx, 0, none⟩ = some (.map (some wb))
  ec : w.cell? ⟨ex, 0, none⟩ = some (.map (some eb))
  wl : wx < w.heap.size
  el : ex < w.heap.size
  wrote : ∃ n, VMap numKey w wb n (wroF Z)
  ents : ∃ n, VMap numKey w eb n (cntF L)
theorem Kept1At.on {w w' : World} {wx ex wb eb : Nat} {Z : List MZ} {L : List Entry} (h : Kept1At w wx ex wb eb Z L) (hb : Below w.heap.size w w') : Kept1At w' wx ex wb eb Z L := by
  obtain ⟨n1, h1⟩ := h.wrote
  obtain ⟨n2, h2⟩ := h.ents
  exact ⟨(hb.cell (p := ⟨wx, 0, none⟩) h.wl).trans h.wc, (hb.cell (p := ⟨ex, 0, none⟩) h.el).trans h.ec, Nat.lt_of_lt_of_le h.wl hb.size, Nat.lt_of_lt_of_le h.el hb.size, ⟨n1, h1.on hb⟩, ⟨n2, h2.on hb⟩⟩
set_option maxRecDepth 100000 in
set_option maxHeartbeats 4000000 in
theorem kept1_any (w : World) (i : Int) (wx ex wb eb : Nat) (Z : List MZ) (L : List Entry) (h : Kept1At w wx ex wb eb Z L) (x : Md) (hts : x.ts < 18446744073709551616) :
    Calls Tryz.prog 31 #[.int .i64 i, .agg (mdCells x).toArray, .pointer (some ⟨wx, 0, none⟩), .pointer (some ⟨ex, 0, none⟩)] w fun e w' => e = .returned (.bool (keptC Z L x)) ∧ Below w.heap.size w w' := by
  have hbn := (Below.refl w.heap.size w).alloc (Nat.le_refl _) (.cells (mdCells x).toArray 40)
  have HBN := Lib.hid hbn
  have HX := Lib.hid (md_box w x)
  have H := Lib.hid (h.on hbn)
  clear hbn h
  go_enter Tryz.func31, Tryz.ntmps31
  go_upto_region 1 with fail
  generalize w.alloc (.cells (mdCells x).toArray 40) = w1 at *
  obtain ⟨d0, _, d2, _, _, _, _, d7, _, _, d10, _⟩ := HX.out
  simp only [Nat.zero_add] at d2 d7 d10
  have b0 := H.out.wc
  have b1 := H.out.ec
  obtain ⟨n1, m1⟩ := H.out.wrote
  obtain ⟨n2, m2⟩ := H.out.ents
  have l0 := num_look m1 x.ts hts
  have l1 := num_look m2 x.ts hts
  unfold wroF at l0
  unfold cntF at l1
  clear m1 m2 H HX
  have HE := Lib.hid (show keptC Z L x = (decide (x.kind = 5) && (x.dn && (decide (x.err = 0) && (wroteB Z x.ts && !entB L x.ts)))) from rfl)
  have HP := Lib.hid (cntE_pos L x.ts)
  by_cases h1 : x.kind = 5
  · rw [h1] at d2
    cases h2 : x.dn with
    | true =>
      rw [h2] at d7
      by_cases h3 : x.err = 0
      · rw [h3] at d10
        cases h4 : wroteB Z x.ts with
        | true =>
          rw [h4, if_pos rfl] at l0
          cases h5 : entB L x.ts with
          | true =>
            rw [h5, if_pos rfl] at l1
            have hp := HP.out h5
            have e5 : (((cntE L x.ts : Nat) : Int) == 0) = false := by simp; omega
            have HR := Lib.hid (show keptC Z L x = false by rw [HE.out, h5]; simp)
            clear h1 h2 h3 h4 h5 HE HP
            go_wp2_with fail
            go_ret
            exact ⟨by rw [HR.out]; first | rfl | (simp; omega), HBN.out⟩
          | false =>
            rw [h5, if_neg (by decide)] at l1
            have HR := Lib.hid (show keptC Z L x = true by rw [HE.out, h1, h2, h3, h4, h5]; rfl)
            clear h1 h2 h3 h4 h5 HE HP
            go_wp2_with fail
            go_ret
            exact ⟨by rw [HR.out]; try rfl, HBN.out⟩
        | false =>
          rw [h4, if_neg (by decide)] at l0
          have HR := Lib.hid (show keptC Z L x = false by rw [HE.out, h4]; simp)
          clear h1 h2 h3 h4 l1 HE HP
          go_wp2_with fail
          go_ret
          exact ⟨by rw [HR.out]; try rfl, HBN.out⟩
      · have e3 : (x.err == 0) = false := beq_eq_false_iff_ne.2 h3
        have HR := Lib.hid (show keptC Z L x = false by rw [HE.out, decide_eq_false h3]; simp)
        clear h1 h2 h3 l0 l1 HE HP
        go_wp2_with fail
        go_ret
        exact ⟨by rw [HR.out]; try rfl, HBN.out⟩
    | false =>
      rw [h2] at d7
      have HR := Lib.hid (show keptC Z L x = false by rw [HE.out, h2]; simp)
      clear h1 h2 l0 l1 HE HP
      go_wp2_with fail
      go_ret
      exact ⟨by rw [HR.out]; try rfl, HBN.out⟩
  · have e1 : (x.kind == 5) = false := beq_eq_false_iff_ne.2 h1
    have HR := Lib.hid (show keptC Z L x = false by rw [HE.out, decide_eq_false h1]; rfl)
    clear h1 l0 l1 HE HP
    go_wp2_with fail
    go_ret
    exact ⟨by rw [HR.out]; try rfl, HBN.out⟩

set_option maxRecDepth 100000 in
set_option maxHeartbeats 4000000 in
theorem firstK_any (w : World) (f : Md → Bool) (wx ex : Nat) (am : Option Addr) (nm cm : Nat) (zm : List MZ) (hm : MadeAt w am nm cm zm) (hnm : nm ≤ 100000)
    (hf : ∀ w' (i : Nat) q, q ∈ zm → Below w.heap.size w w' → Calls Tryz.prog 31 #[.int .i64 i, .agg (mdCells q.1).toArray, .pointer (some ⟨wx, 0, none⟩), .pointer (some ⟨ex, 0, none⟩)] w' fun e w'' => e = .returned (.bool (f q.1)) ∧ Below w'.heap.size w' w'') :
    Calls Tryz.prog 30 #[.slice am nm cm, .func (.func 31) #[] #[.pointer (some ⟨wx, 0, none⟩), .pointer (some ⟨ex, 0, none⟩)]] w fun e w' => e = .returned (.int .i64 (firstAt f 0 zm)) ∧ Below w.heap.size w w' := by
  have HMM := Lib.hid hm
  have HF := Lib.hid hf
  clear hm hf
  go_enter Tryz.func30, Tryz.ntmps30
  go_wp2_with fail
  go_loopw [4, 5, 6, 9] (fun _ _ _ s9 wr => ∃ i : Nat, i ≤ nm ∧ s9 = .int .i64 i ∧ firstAt f 0 zm = firstAt f i (zm.drop i) ∧ Below w.heap.size w wr) (fun _ _ _ s9 _ => nm - (intOf s9).toNat)
  case atStart => exact ⟨0, by omega, rfl, rfl, Below.refl _ _⟩
  case round =>
    obtain ⟨i, hi, rfl, hfi, hb⟩ := hrel
    by_cases hlt : i < nm
    · have hil : (i : Int) < (nm : Int) := by omega
      obtain ⟨q, g, o, hq, hqz, rfl, hg, hc⟩ := (HMM.out.on hb).row hlt
      have HN := Lib.hid (show firstAt f 0 zm = if f q.1 then (i : Int) else firstAt f (i + 1) (zm.drop (i + 1)) by rw [hfi, firstAt_drop _ _ _ _ hq])
      have HC := Lib.hid hc
      have hBn := (Below.refl wr.heap.size wr).alloc (Nat.le_refl _) (.cells (mdCells q.1).toArray 40)
      have HBox := Lib.hid (md_box wr q.1)
      have HB := Lib.hid (hb.trans (hBn.mono hb.size))
      have HS := Lib.hid (HF.out (wr.alloc (.cells (mdCells q.1).toArray 40)) i q hqz HB.out)
      clear hfi hq hqz hc hb hBn
      go_upto_region 4 with (first | ((with_reducible refine wpList_loadM rfl _ rfl _ _ _ HC.out ?_ ?_); rfl) | ((with_reducible refine wpList_storeM rfl _ _ rfl _ q.1 ?_ ?_ ?_); rfl; rfl))
      go_frame
      go_wp2_with ((with_reducible refine wpList_loadM rfl _ rfl _ _ _ HBox.out ?_ ?_); rfl)
      refine HS.out.mono ?_
      rintro e w2 ⟨rfl, hb2⟩
      have HB2 := Lib.hid (HB.out.trans (hb2.mono HB.out.size))
      clear hb2
      cases hak : f q.1 with
      | true =>
        have HR := Lib.hid (show firstAt f 0 zm = (i : Int) by rw [HN.out, hak]; rfl)
        clear hak
        go_wp2_with fail
        go_ret
        exact ⟨by rw [HR.out]; try rfl, HB2.out⟩
      | false =>
        have HR := Lib.hid (show firstAt f 0 zm = firstAt f (i + 1) (zm.drop (i + 1)) by rw [HN.out, hak]; rfl)
        clear hak
        go_wp2_with fail
        go_roundw
        case rel => exact ⟨i + 1, by omega, by go_num, HR.out, HB2.out⟩
        case measure => simp [intOf]; omega
    · have hge : ¬ (i : Int) < (nm : Int) := by omega
      have HR := Lib.hid (show firstAt f 0 zm = -1 by
        have hin : i = zm.length := by rw [HMM.out.len]; omega
        rw [hfi, hin, List.drop_eq_nil_of_le (Nat.le_refl _)]; rfl)
      have HB := Lib.hid hb
      clear hfi hb
      go_wp2_with fail
      go_ret
      exact ⟨by rw [HR.out]; try rfl, HB.out⟩

/-- What Kept's second question finds, and keeps. -/
structure Kept2At (w : World) (ax mx nb ab mb : Nat) (Z : List MZ) (D : List Entry) (nx : Nat) : Prop where
  ac : w.cell? ⟨ax, 0, none⟩ = some (.map (some ab))
  mc : w.cell? ⟨mx, 0, none⟩ = some (.map (some mb))
  nc : Blk w nb [.int .u64 (nx : Nat)] 32
  al : ax < w.heap.size
  ml : mx < w.heap.size
  ask : ∃ n, VMap numKey w ab n (askF Z)
  met : ∃ n, n ≤ D.length ∧ VMap numKey w mb n (oneF (D.map (·.ts)) (.int .i64 1))
  n1 : ax ≠ nb ∧ ax ≠ mb
  n2 : mx ≠ nb ∧ mx ≠ mb
  n3 : nb ≠ mb
  n4 : ab ≠ mb ∧ ab ≠ nb
theorem Kept2At.on {w w' : World} {ax mx nb ab mb : Nat} {Z : List MZ} {D : List Entry} {nx : Nat} (h : Kept2At w ax mx nb ab mb Z D nx) (hb : Below w.heap.size w w') : Kept2At w' ax mx nb ab mb Z D nx := by
  obtain ⟨n1, h1⟩ := h.ask
  obtain ⟨n2, e2, h2⟩ := h.met
  exact ⟨(hb.cell (p := ⟨ax, 0, none⟩) h.al).trans h.ac, (hb.cell (p := ⟨mx, 0, none⟩) h.ml).trans h.mc, h.nc.on hb, Nat.lt_of_lt_of_le h.al hb.size, Nat.lt_of_lt_of_le h.ml hb.size, ⟨n1, h1.on hb⟩, ⟨n2, e2, h2.on hb⟩, h.n1, h.n2, h.n3, h.n4⟩
def Kept2End (ax mx nb ab mb : Nat) (Z : List MZ) (D : List Entry) (nx : Nat) (x : Entry) (w : World) (e : Ending) (w' : World) : Prop := e = .returned (.bool (badE Z D nx x)) ∧ Kept2At w' ax mx nb ab mb Z (D ++ [x]) (nextK nx x) ∧ Mod [mb, nb] w w'
theorem entB_one (D : List Entry) (ts : Nat) : (oneF (D.map (·.ts)) (.int .i64 1) ts).getD (.int .i64 0) = .int .i64 (if entB D ts then 1 else 0) := by
  unfold oneF entB
  by_cases h : ts ∈ D.map (·.ts)
  · obtain ⟨x, hx, e⟩ := List.mem_map.1 h
    have : (D.any fun x => decide (x.ts = ts)) = true := List.any_eq_true.2 ⟨x, hx, decide_eq_true e⟩
    rw [if_pos h, this]; rfl
  · have : (D.any fun x => decide (x.ts = ts)) = false := by
      rw [List.any_eq_false]
      intro x hx hc
      exact h (List.mem_map.2 ⟨x, hx, of_decide_eq_true hc⟩)
    rw [if_neg h, this]; rfl
theorem oneF_next (D : List Entry) (x : Entry) (v : Value) (y : Nat) : (if y = x.ts then some v else oneF (D.map (·.ts)) v y) = oneF ((D ++ [x]).map (·.ts)) v y := by
  unfold oneF
  rw [List.map_append]
  by_cases h : y = x.ts <;> simp [h]
theorem cell_nb {w : World} {nb nx : Nat} (h : Blk w nb [.int .u64 (nx : Nat)] 32) : w.cell? ⟨nb, 0, none⟩ = some (.int .u64 (nx : Nat)) := by rw [h.cell]; rfl
set_option maxRecDepth 100000 in
set_option maxHeartbeats 8000000 in
theorem kept2_any (w : World) (i : Int) (ax mx nb ab mb : Nat) (Z : List MZ) (D : List Entry) (nx : Nat) (h : Kept2At w ax mx nb ab mb Z D nx) (hD : D.length ≤ 1000000) (B : Nat) (hBw : B ≤ w.heap.size) (hBm : B ≤ mb ∧ B ≤ nb) (y : Ent) (x : Entry) (hy : ∀ w', Below B w w' → EntIs w' y x) (hops : x.ops.length ≤ 1000000) :
    Calls Tryz.prog 34 #[.int .i64 i, .agg #[.int .u64 (y.ts : Nat), .int .u64 (y.first : Nat), .slice y.a y.n y.c], .pointer (some ⟨ax, 0, none⟩), .pointer (some ⟨mx, 0, none⟩), .pointer (some ⟨nb, 0, none⟩)] w (Kept2End ax mx nb ab mb Z D nx x w) := by
  obtain ⟨yt, yf, ya, yn, yc⟩ := y
  have hy0 := hy w (Below.refl _ _)
  have e1 := hy0.ts
  have e2 := hy0.first
  have e3 := hy0.n
  simp only at e1 e2 e3
  subst e1 e2 e3
  have hA : Blk (w.alloc (.cells #[.int .u64 (x.ts : Nat), .int .u64 (x.first : Nat), .slice ya x.ops.length yc] 43)) w.heap.size [.int .u64 (x.ts : Nat), .int .u64 (x.first : Nat), .slice ya x.ops.length yc] 43 := Blk.new w [.int .u64 (x.ts : Nat), .int .u64 (x.first : Nat), .slice ya x.ops.length yc] 43
  have hbn := (Below.refl w.heap.size w).alloc (Nat.le_refl _) (.cells #[.int .u64 (x.ts : Nat), .int .u64 (x.first : Nat), .slice ya x.ops.length yc] 43)
  have hlt0 : nb < w.heap.size := h.nc.lt
  have hlt1 : mb < w.heap.size := by obtain ⟨_, _, hv⟩ := h.met; exact hv.lt
  have HA := Lib.hid hA
  have HBN := Lib.hid hbn
  have H := Lib.hid (h.on hbn)
  have HY := Lib.hid hy
  have HOK := Lib.hid hy0.ok
  have HSZ := Lib.hid (show (w.alloc (.cells #[.int .u64 (x.ts : Nat), .int .u64 (x.first : Nat), .slice ya x.ops.length yc] 43)).heap.size = w.heap.size + 1 by simp)
  clear h hy hy0 hA hbn
  go_enter Tryz.func34, Tryz.ntmps34
  go_upto_region 1 with fail
  generalize w.alloc (.cells #[.int .u64 (x.ts : Nat), .int .u64 (x.first : Nat), .slice ya x.ops.length yc] 43) = w1 at *
  go_cut [8] (fun s8 wx => s8 = .bool (badE Z D nx x) ∧ w1 = wx)
  case first =>
    have d0 : w1.cell? ⟨w.heap.size, 0, none⟩ = some (.int .u64 (x.ts : Nat)) := by rw [HA.out.cell]; rfl
    have d1 : w1.cell? ⟨w.heap.size, 1, none⟩ = some (.int .u64 (x.first : Nat)) := by rw [HA.out.cell]; rfl
    have b0 := H.out.ac
    have b1 := H.out.mc
    have b2 := cell_nb H.out.nc
    obtain ⟨n1, m1⟩ := H.out.ask
    obtain ⟨n2, _, m2⟩ := H.out.met
    have l0 := num_look m1 x.ts HOK.out.ts
    have l1 := num_look m2 x.ts HOK.out.ts
    rw [entB_one] at l1
    unfold askF at l0
    have HE := Lib.hid (show badE Z D nx x = (!askedB Z x.ts || (entB D x.ts || !decide (x.first = nx))) from rfl)
    clear m1 m2
    cases h1 : askedB Z x.ts with
    | false =>
      rw [h1, if_neg (by decide)] at l0
      have HR := Lib.hid (show badE Z D nx x = true by rw [HE.out, h1]; rfl)
      clear h1 HE l1
      go_wp2_with fail
      go_meet
      exact ⟨by rw [HR.out], rfl⟩
    | true =>
      rw [h1, if_pos rfl] at l0
      cases h2 : entB D x.ts with
      | true =>
        rw [h2, if_pos rfl] at l1
        have HR := Lib.hid (show badE Z D nx x = true by rw [HE.out, h2]; simp)
        clear h1 h2 HE
        go_wp2_with fail
        go_meet
        exact ⟨by rw [HR.out], rfl⟩
      | false =>
        rw [h2, if_neg (by decide)] at l1
        by_cases h3 : x.first = nx
        · have e3 : ((x.first : Int) != (nx : Int)) = false := by simp [h3]
          have HR := Lib.hid (show badE Z D nx x = false by rw [HE.out, h1, h2, decide_eq_true h3]; rfl)
          have H3 := Lib.hid h3
          clear h1 h2 h3 HE
          go_wp2_with fail
          go_meet
          exact ⟨by rw [HR.out]; try simp [H3.out], rfl⟩
        · have e3 : ((x.first : Int) != (nx : Int)) = true := by simp; omega
          have HR := Lib.hid (show badE Z D nx x = true by rw [HE.out, decide_eq_false h3]; simp)
          have H3 := Lib.hid h3
          clear h1 h2 h3 HE
          go_wp2_with fail
          go_meet
          exact ⟨by rw [HR.out], rfl⟩
  obtain ⟨rfl, rfl⟩ := hcut
  have d0 : w1.cell? ⟨w.heap.size, 0, none⟩ = some (.int .u64 (x.ts : Nat)) := by rw [HA.out.cell]; rfl
  have b1 := H.out.mc
  obtain ⟨n2, hn2, m2⟩ := H.out.met
  obtain ⟨w2, hrun, ⟨k, hk, m3⟩, hm⟩ := num_store m2 (by omega) x.ts HOK.out.ts 1
  have hs2 := hm.size
  have HM3 := Lib.hid (show ∃ n, n ≤ (D ++ [x]).length ∧ VMap numKey w2 mb n (oneF ((D ++ [x]).map (·.ts)) (.int .i64 1)) from ⟨k, by simp; omega, m3.congr (oneF_next D x _)⟩)
  have HA2 := Lib.hid (HA.out.mod hm (by simp only [List.mem_singleton]; omega))
  have HN2 := Lib.hid (H.out.nc.mod hm (by simp only [List.mem_singleton]; exact H.out.n3))
  have HAc := Lib.hid (show w2.cell? ⟨ax, 0, none⟩ = some (.map (some ab)) from (hm.cell (b := ax) (i := 0) H.out.al (by simp only [List.mem_singleton]; exact H.out.n1.2)).trans H.out.ac)
  have HMc := Lib.hid (show w2.cell? ⟨mx, 0, none⟩ = some (.map (some mb)) from (hm.cell (b := mx) (i := 0) H.out.ml (by simp only [List.mem_singleton]; exact H.out.n2.2)).trans H.out.mc)
  have HAsk := Lib.hid (show ∃ n, VMap numKey w2 ab n (askF Z) from by
    obtain ⟨n1, m1⟩ := H.out.ask
    exact ⟨n1, m1.mod hm (by simp only [List.mem_singleton]; exact H.out.n4.1)⟩)
  have HMod := Lib.hid (show Mod [mb, nb] w w2 from by
    have h1 : Mod [mb, nb] w w1 := Mod.of_below HBN.out
    exact h1.trans (hm.mono (fun z hz => .inl (by simp at hz; simp [hz]))))
  have hB2 : Below B w w2 := (HBN.out.mono hBw).trans (hm.below (fun z hz => by simp at hz; rw [hz]; exact hBm.1) (by have := HBN.out.size; omega))
  have HY2 := Lib.hid (HY.out w2 hB2).rows
  clear m2 m3 hm hB2
  go_upto_region 3 with fail
  clear d0 b1 hrun
  have d2 : w2.cell? ⟨w.heap.size, 2, none⟩ = some (.slice ya x.ops.length yc) := by rw [HA2.out.cell]; rfl
  have HKeep := Lib.hid (show ∀ w', Mod [nb] w2 w' → ∀ nx', Blk w' nb [.int .u64 (nx' : Nat)] 32 → Kept2At w' ax mx nb ab mb Z (D ++ [x]) nx' from fun w' hm nx' hb => by
    obtain ⟨n1, a1⟩ := HAsk.out
    obtain ⟨n2, b1, b2⟩ := HM3.out
    have hh := H.out
    have hax : ax < w2.heap.size := by have := hh.al; omega
    have hmx : mx < w2.heap.size := by have := hh.ml; omega
    exact ⟨(hm.cell (b := ax) (i := 0) hax (by simp only [List.mem_singleton]; exact hh.n1.1)).trans HAc.out, (hm.cell (b := mx) (i := 0) hmx (by simp only [List.mem_singleton]; exact hh.n2.1)).trans HMc.out, hb, Nat.lt_of_lt_of_le hax hm.size, Nat.lt_of_lt_of_le hmx hm.size, ⟨n1, a1.mod hm (by simp only [List.mem_singleton]; exact hh.n4.2)⟩, ⟨n2, b1, b2.mod hm (by simp only [List.mem_singleton]; exact fun e => hh.n3 e.symm)⟩, hh.n1, hh.n2, hh.n3, hh.n4⟩)
  cases hops2 : x.ops.getLast? with
  | none =>
    have hz : x.ops.length = 0 := by rw [List.getLast?_eq_none_iff.1 hops2]; rfl
    rw [hz] at d2
    have HE := Lib.hid (show Kept2End ax mx nb ab mb Z D nx x w (.returned (.bool (badE Z D nx x))) w2 from ⟨rfl, by
      have : nextK nx x = nx := by unfold nextK; rw [hops2]
      rw [this]
      exact HKeep.out w2 (Mod.refl _ _) nx HN2.out, HMod.out⟩)
    clear hops2 hz hops
    go_wp2_with fail
    go_ret
    exact HE.out
  | some r =>
    obtain ⟨m, hm⟩ : ∃ m, x.ops.length = m + 1 := by
      cases hq : x.ops with
      | nil => rw [hq] at hops2; cases hops2
      | cons _ t => exact ⟨t.length, rfl⟩
    have hlast : x.ops[m]? = some r := by rw [← hops2, List.getLast?_eq_getElem?, hm]; rfl
    obtain ⟨r', g, o, hr', hrm, rfl, hg, c0, c1, c2, c3⟩ := recs_row HY2.out rfl (i := m) (by show m < x.ops.length; omega)
    rw [hlast] at hr'
    cases hr'
    have hwr : IntKind.u64.wrap ((r.lsn : Int) + 1) = (((r.lsn + 1) % 18446744073709551616 : Nat) : Int) := by rw [IntKind.wrap_u64]; omega
    have hnx : nextK nx x = (r.lsn + 1) % 18446744073709551616 := by unfold nextK; rw [hops2]
    rw [hm] at d2
    have hm1 : ((m : Int) + 1 > 0) := by omega
    have hbl := HN2.out.set 0 (.int .u64 (((r.lsn + 1) % 18446744073709551616 : Nat) : Int))
    have hfr := HN2.out.free 0
    have hmod := (Mod.refl [nb] w2).setCell ⟨nb, 0, none⟩ (.int .u64 (((r.lsn + 1) % 18446744073709551616 : Nat) : Int)) (.inl (by simp))
    have b2 := cell_nb HN2.out
    have HE := Lib.hid (show Kept2End ax mx nb ab mb Z D nx x w (.returned (.bool (badE Z D nx x))) (w2.setCell ⟨nb, 0, none⟩ (.int .u64 (((r.lsn + 1) % 18446744073709551616 : Nat) : Int))) from ⟨rfl, by
      rw [hnx]
      exact HKeep.out _ hmod _ hbl, HMod.out.trans (hmod.mono (fun z hz => .inl (by simp at hz; simp [hz])))⟩)
    generalize (r.lsn + 1) % 18446744073709551616 = v at *
    clear hops2 hlast hnx hbl hmod hrm
    go_wp2_with fail
    go_ret
    exact HE.out

set_option maxRecDepth 100000 in
set_option maxHeartbeats 4000000 in
theorem firstE_any (w : World) (ax mx nb ab mb : Nat) (Z : List MZ) (B : Nat) (hBw : B ≤ w.heap.size) (hBm : B ≤ mb ∧ B ≤ nb) (a : Option Addr) (n c : Nat) (z : List EZ) (hz : ∀ w', Below B w w' → EntsAt w' a n c z) (hn : n ≤ 100000) (hops : ∀ q ∈ z, q.2.ops.length ≤ 1000000) (h : Kept2At w ax mx nb ab mb Z [] 1) :
    Calls Tryz.prog 33 #[.slice a n c, .func (.func 34) #[] #[.pointer (some ⟨ax, 0, none⟩), .pointer (some ⟨mx, 0, none⟩), .pointer (some ⟨nb, 0, none⟩)]] w fun e w' => e = .returned (.int .i64 (scanK Z [] 1 0 (z.map (·.2)))) ∧ Below B w w' := by
  obtain ⟨L, hL⟩ : ∃ L, z.map (·.2) = L := ⟨_, rfl⟩
  rw [hL]
  have HZ := Lib.hid hz
  have HO := Lib.hid hops
  have HL := Lib.hid hL
  have HK := Lib.hid h
  have HLen := Lib.hid (show L.length = n by rw [← hL, List.length_map]; exact (hz w (Below.refl _ _)).len)
  clear hz hops hL h
  go_enter Tryz.func33, Tryz.ntmps33
  go_wp2_with fail
  go_loopw [4, 5, 6, 9] (fun _ _ _ s9 wr => ∃ (i nx : Nat), i ≤ n ∧ s9 = .int .i64 i ∧ Kept2At wr ax mx nb ab mb Z (L.take i) nx ∧ scanK Z [] 1 0 L = scanK Z (L.take i) nx i (L.drop i) ∧ Below B w wr) (fun _ _ _ s9 _ => n - (intOf s9).toNat)
  case atStart => exact ⟨0, 1, by omega, rfl, HK.out, rfl, Below.refl _ _⟩
  case round =>
    obtain ⟨i, nx, hi, rfl, hk, hs, hb⟩ := hrel
    by_cases hlt : i < n
    · have hil : (i : Int) < (n : Int) := by omega
      obtain ⟨q, g, o, hq, hqz, rfl, hg, d0, d1, d2⟩ := (HZ.out wr hb).row hlt
      have hLi : L[i]? = some q.2 := by rw [← HL.out, List.getElem?_map, hq]; rfl
      have HN := Lib.hid (show scanK Z [] 1 0 L = if badE Z (L.take i) nx q.2 then (i : Int) else scanK Z (L.take (i + 1)) (nextK nx q.2) (i + 1) (L.drop (i + 1)) by rw [hs]; exact scanK_step Z L nx i q.2 hLi)
      have HNx := Lib.hid (take_next L i q.2 hLi)
      have hBn := (Below.refl wr.heap.size wr).alloc (Nat.le_refl _) (.cells #[.int .u64 (q.1.ts : Nat), .int .u64 (q.1.first : Nat), .slice q.1.a q.1.n q.1.c] 43)
      have hsB := Nat.le_trans hBw hb.size
      have hb2 := hb.trans (hBn.mono hsB)
      have HS := Lib.hid (kept2_any (wr.alloc (.cells #[.int .u64 (q.1.ts : Nat), .int .u64 (q.1.first : Nat), .slice q.1.a q.1.n q.1.c] 43)) i ax mx nb ab mb Z (L.take i) nx (hk.on hBn) (by rw [List.length_take]; omega) B (Nat.le_trans hsB hBn.size) hBm q.1 q.2 (fun w' hb' => (HZ.out w' (hb2.trans hb')).each q hqz) (HO.out q hqz))
      have HB := Lib.hid hb2
      have HSz := Lib.hid (Nat.le_trans hsB hBn.size)
      clear hs hq hLi hk hb hBn hb2
      obtain ⟨⟨qt, qf, qa, qn, qc⟩, x⟩ := q
      simp only at d0 d1 d2 HS HN HNx HB HSz
      go_wp2_with fail
      refine HS.out.mono ?_
      rintro e w2 ⟨rfl, hk2, hm⟩
      have HB2 := Lib.hid (HB.out.trans (hm.below (fun y hy => by simp only [List.mem_cons, List.not_mem_nil, or_false] at hy; rcases hy with rfl | rfl; exact hBm.1; exact hBm.2) HSz.out))
      have HK2 := Lib.hid (show Kept2At w2 ax mx nb ab mb Z (L.take (i + 1)) (nextK nx x) by rw [HNx.out]; exact hk2)
      clear hk2 hm
      cases hak : badE Z (L.take i) nx x with
      | true =>
        have HR := Lib.hid (show scanK Z [] 1 0 L = (i : Int) by rw [HN.out, hak]; rfl)
        clear hak
        go_wp2_with fail
        go_ret
        exact ⟨by rw [HR.out]; try rfl, HB2.out⟩
      | false =>
        have HR := Lib.hid (show scanK Z [] 1 0 L = scanK Z (L.take (i + 1)) (nextK nx x) (i + 1) (L.drop (i + 1)) by rw [HN.out, hak]; rfl)
        clear hak
        go_wp2_with fail
        go_roundw
        case rel => exact ⟨i + 1, nextK nx x, by omega, by go_num, HK2.out, HR.out, HB2.out⟩
        case measure => simp [intOf]; omega
    · have hge : ¬ (i : Int) < (n : Int) := by omega
      have HR := Lib.hid (show scanK Z [] 1 0 L = -1 by
        rw [hs, List.drop_eq_nil_of_le (by rw [HLen.out]; omega)]; rfl)
      have HB := Lib.hid hb
      clear hs hb hk
      go_wp2_with fail
      go_ret
      exact ⟨by rw [HR.out]; try rfl, HB.out⟩

end Go.Proofs.YtecknikehieioaaGreat
