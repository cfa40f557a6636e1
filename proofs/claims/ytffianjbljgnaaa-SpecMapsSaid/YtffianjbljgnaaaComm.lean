/-
  spec.Committed: which transactions are, in order. Condition: at most twelve of them (BoundU).
-/
import Derived.Test.YtffianjbljgnaaaMade
namespace Go.Proofs.Ytffianjbljgnaaa
set_option linter.unusedVariables false
set_option linter.unusedSimpArgs false
open Go.RowKit

/-- A number is put among others that rise. -/
def insA (x : Nat) : List Nat → List Nat
  | [] => [x]
  | y :: t => if y < x then y :: insA x t else if y = x then y :: t else x :: y :: t
theorem insA_mem (x : Nat) (L : List Nat) (y : Nat) : y ∈ insA x L ↔ y = x ∨ y ∈ L := by
  induction L with
  | nil => simp [insA]
  | cons z t ih =>
    unfold insA
    split
    · rw [List.mem_cons, ih, List.mem_cons]
      constructor
      · rintro (h | h | h) <;> simp [h]
      · rintro (h | h | h) <;> simp [h]
    · split
      · rename_i h
        subst h
        constructor
        · intro h; exact .inr h
        · rintro (h | h)
          · rw [h]; simp
          · exact h
      · rw [List.mem_cons]
theorem insA_asc {L : List Nat} (h : L.Pairwise (fun x y => x < y)) (x : Nat) : (insA x L).Pairwise (fun x y => x < y) := by
  induction L with
  | nil => simp [insA]
  | cons z t ih =>
    obtain ⟨h1, h2⟩ := List.pairwise_cons.1 h
    unfold insA
    split
    · rename_i hlt
      refine List.pairwise_cons.2 ⟨fun q hq => ?_, ih h2⟩
      rcases (insA_mem x t q).1 hq with rfl | hq
      · exact hlt
      · exact h1 q hq
    · split
      · exact h
      · refine List.pairwise_cons.2 ⟨fun q hq => ?_, h⟩
        rcases List.mem_cons.1 hq with rfl | hq
        · omega
        · have := h1 q hq; omega
theorem insA_length {L : List Nat} (h : L.Pairwise (fun x y => x < y)) (x : Nat) : (insA x L).length = if x ∈ L then L.length else L.length + 1 := by
  induction L with
  | nil => simp [insA]
  | cons z t ih =>
    obtain ⟨h1, h2⟩ := List.pairwise_cons.1 h
    unfold insA
    split
    · rename_i hlt
      have : ¬ x = z := by omega
      rw [List.length_cons, ih h2]
      simp only [List.mem_cons, this, false_or, List.length_cons]
      split <;> rfl
    · split
      · rename_i he
        simp [he]
      · rename_i hn he
        have : x ∉ z :: t := fun hm => by
          rcases List.mem_cons.1 hm with rfl | hm
          · exact he rfl
          · have := h1 x hm; omega
        rw [if_neg this]; rfl
theorem asc_ext {L L' : List Nat} (h : L.Pairwise (fun x y => x < y)) (h' : L'.Pairwise (fun x y => x < y)) (hm : ∀ x, x ∈ L ↔ x ∈ L') : L = L' := by
  induction L generalizing L' with
  | nil =>
    cases L' with
    | nil => rfl
    | cons y t => have := (hm y).2 (by simp); cases this
  | cons x t ih =>
    obtain ⟨h1, h2⟩ := List.pairwise_cons.1 h
    cases L' with
    | nil => have := (hm x).1 (by simp); cases this
    | cons y t' =>
      obtain ⟨h3, h4⟩ := List.pairwise_cons.1 h'
      have e : x = y := by
        have a1 := (hm x).1 (by simp)
        have a2 := (hm y).2 (by simp)
        rcases List.mem_cons.1 a1 with e | a1
        · exact e
        · rcases List.mem_cons.1 a2 with e | a2
          · exact e.symm
          · have := h3 x a1; have := h1 y a2; omega
      subst e
      congr 1
      refine ih h2 h4 fun z => ?_
      have := hm z
      simp only [List.mem_cons] at this
      constructor
      · intro hz
        rcases this.1 (.inr hz) with rfl | hz'
        · have := h1 z hz; omega
        · exact hz'
      · intro hz
        rcases this.2 (.inr hz) with rfl | hz'
        · have := h3 z hz; omega
        · exact hz'
/-- Does a call make its transaction a committed one? -/
def okM (tss : List Nat) (m : Md) : Bool := ackM m || (decide (m.kind = 5) && decide (m.ts ∈ tss))
def commL (tss : List Nat) (z : List MZ) : List Nat := z.foldl (fun L q => if okM tss q.1 then insA q.1.ts L else L) []
theorem commL_asc (tss : List Nat) (z : List MZ) : (commL tss z).Pairwise (fun x y => x < y) := by
  unfold commL
  have : ∀ (z : List MZ) (L : List Nat), L.Pairwise (fun x y => x < y) → (z.foldl (fun L q => if okM tss q.1 then insA q.1.ts L else L) L).Pairwise (fun x y => x < y) := by
    intro z
    induction z with
    | nil => intro L h; exact h
    | cons q t ih =>
      intro L h
      rw [List.foldl_cons]
      refine ih _ ?_
      split
      · exact insA_asc h _
      · exact h
  exact this z [] List.Pairwise.nil
theorem commL_le (tss : List Nat) (z : List MZ) : (commL tss z).length ≤ z.length := by
  unfold commL
  have : ∀ (z : List MZ) (L : List Nat), L.Pairwise (fun x y => x < y) → (z.foldl (fun L q => if okM tss q.1 then insA q.1.ts L else L) L).length ≤ L.length + z.length := by
    intro z
    induction z with
    | nil => intro L _; exact Nat.le_refl _
    | cons q t ih =>
      intro L h
      rw [List.foldl_cons, List.length_cons]
      split
      · have := ih _ (insA_asc h q.1.ts)
        have := insA_length h q.1.ts
        split at this <;> omega
      · have := ih _ h
        omega
  simpa using this z [] List.Pairwise.nil
theorem commL_lt (tss : List Nat) (z : List MZ) (h : ∀ q ∈ z, q.1.ts < 18446744073709551616) (x : Nat) (hx : x ∈ commL tss z) : x < 18446744073709551616 := by
  unfold commL at hx
  have : ∀ (z : List MZ) (L : List Nat), (∀ q ∈ z, q.1.ts < 18446744073709551616) → (∀ y ∈ L, y < 18446744073709551616) → ∀ y ∈ z.foldl (fun L q => if okM tss q.1 then insA q.1.ts L else L) L, y < 18446744073709551616 := by
    intro z
    induction z with
    | nil => intro L _ h y hy; exact h y hy
    | cons q t ih =>
      intro L hz hL y hy
      rw [List.foldl_cons] at hy
      refine ih _ (fun q' hq' => hz q' (List.mem_cons_of_mem _ hq')) ?_ y hy
      split
      · intro u hu
        rcases (insA_mem _ _ _).1 hu with rfl | hu
        · exact hz q (by simp)
        · exact hL u hu
      · exact hL
  exact this z [] h (by simp) x hx
def oneF (L : List Nat) (v : Value) : Nat → Option Value := fun x => if x ∈ L then some v else none
/-- What Committed ends with. -/
def CommEnd (L : List Nat) (w : World) (e : Ending) (w' : World) : Prop :=
  ∃ (a : Option Addr) (c : Nat), e = .returned (.slice a L.length c) ∧ RowsAt w' a L.length c 1 (u64s L) ∧ (∀ g o, a = some ⟨g, o, none⟩ → w.heap.size ≤ g) ∧ Below w.heap.size w w'
set_option maxRecDepth 100000 in
set_option maxHeartbeats 4000000 in
theorem comm_any (w : World) (am : Option Addr) (nm cm : Nat) (zm : List MZ) (hm : MadeAt w am nm cm zm) (hnm : nm ≤ 100000) (a : Option Addr) (n c : Nat) (z : List EZ) (h : EntsAt w a n c z) (hn : n ≤ 100000) (hB : BoundU (commL (z.map (·.1.ts)) zm).length) :
    Calls Try.prog 11 #[.slice am nm cm, .slice a n c] w (CommEnd (commL (z.map (·.1.ts)) zm) w) := by
  have hM0 := VMap.made_run (w := w) (k := 29) (e := 3) (t := 84) Try.underlying84
  have HV0 := Lib.hid ((VMap.made numKey w).congr (g := oneF [] (.int .i64 1)) (fun x => by unfold oneF; simp))
  have HB0 := Lib.hid ((Below.refl w.heap.size w).alloc (Nat.le_refl _) (.map #[] 0))
  have HH := Lib.hid h
  have HMM := Lib.hid hm
  clear h hm
  go_enter Try.func11, Try.ntmps11
  go_wp2_with fail
  clear hM0
  go_loopw [7, 14] (fun _ s14 wr => ∃ (i k : Nat), i ≤ n ∧ s14 = .int .i64 i ∧ k ≤ i ∧ VMap numKey wr w.heap.size k (oneF ((z.map (·.1.ts)).take i) (.int .i64 1)) ∧ Below w.heap.size w wr) (fun _ s14 _ => n - (intOf s14).toNat)
  case atStart => exact ⟨0, 0, by omega, rfl, by omega, HV0.out, HB0.out⟩
  case round =>
    obtain ⟨i, k, hi, rfl, hk, hV, hb⟩ := hrel
    by_cases hlt : i < n
    · have hil : (i : Int) < (n : Int) := by omega
      obtain ⟨q, g, o, hq, hqz, rfl, hg, c0, c1, c2⟩ := (HH.out.on hb).row hlt
      have hBn := (Below.refl wr.heap.size wr).alloc (Nat.le_refl _) (.cells #[.int .u64 (q.1.ts : Nat), .int .u64 (q.1.first : Nat), .slice q.1.a q.1.n q.1.c] 40)
      have hts : q.1.ts < 2 ^ 64 := by have := (HH.out.each q hqz); rw [this.ts]; exact this.ok.ts
      obtain ⟨w2, hrun, hV2, hm2⟩ := (hV.on hBn).store (e := 3) Try.underlying84 (by unfold maxLen; omega) q.1.ts hts (.int .i64 1)
      have HV2 := Lib.hid (hV2.congr (g := oneF ((z.map (·.1.ts)).take (i + 1)) (.int .i64 1)) (fun x => by
        rw [List.take_add_one, List.getElem?_map, hq]
        unfold oneF
        by_cases hx : x = q.1.ts
        · simp [hx]
        · simp [hx]))
      rw [show numKey.val q.1.ts = .int .u64 (q.1.ts : Nat) from rfl] at hrun
      have hbx := hb.trans (hBn.mono hb.size)
      have HB2 := Lib.hid (hbx.trans (hm2.below (fun x hx => by simp at hx; omega) hbx.size))
      clear hV hV2 hb hBn hm2 hq hqz hbx
      go_wp2_with fail
      go_roundw
      case rel => exact ⟨i + 1, _, by omega, by go_num, by split <;> omega, HV2.out, HB2.out⟩
      case measure => simp [intOf]; omega
    · have hge : ¬ (i : Int) < (n : Int) := by omega
      have hin : i = (z.map (·.1.ts)).length := by rw [List.length_map, HH.out.len]; omega
      rw [hin, List.take_of_length_le (Nat.le_refl _)] at hV
      have HV := Lib.hid hV
      have HB := Lib.hid hb
      have hM1 := VMap.made_run (w := wr) (k := 29) (e := 4) (t := 85) Try.underlying85
      have HO0 := Lib.hid ((VMap.made numKey wr).congr (g := oneF [] (.bool true)) (fun x => by unfold oneF; simp))
      have hBn := (Below.refl wr.heap.size wr).alloc (Nat.le_refl _) (.map #[] 0)
      have HV1 := Lib.hid (hV.on hBn)
      have HB1 := Lib.hid (hb.trans (hBn.mono hb.size))
      have HLt := Lib.hid hV.lt
      have hwr := hb.size
      clear hV hb hBn hin hi hk
      obtain ⟨wo, hwo⟩ : ∃ wo, wo = wr := ⟨_, rfl⟩
      subst hwo
      go_wp2_with fail
      clear hM1
      go_loopw [10, 25] (fun _ s25 wx => ∃ (j : Nat), j ≤ nm ∧ s25 = .int .i64 j ∧ VMap numKey wx wo.heap.size (commL (z.map (·.1.ts)) (zm.take j)).length (oneF (commL (z.map (·.1.ts)) (zm.take j)) (.bool true)) ∧ VMap numKey wx w.heap.size k (oneF (z.map (·.1.ts)) (.int .i64 1)) ∧ Below w.heap.size w wx) (fun _ s25 _ => nm - (intOf s25).toNat)
      case atStart => exact ⟨0, by omega, rfl, HO0.out, HV1.out, HB1.out⟩
      case round =>
        obtain ⟨j, hj, rfl, hO, hV, hb⟩ := hrel
        by_cases hltj : j < nm
        · have hjl : (j : Int) < (nm : Int) := by omega
          obtain ⟨q, g, o, hq, hqz, rfl, hg, hc⟩ := (HMM.out.on hb).row hltj
          have HQ := Lib.hid (HMM.out.each q hqz)
          have HNext := Lib.hid (show commL (z.map (·.1.ts)) (zm.take (j + 1)) = if okM (z.map (·.1.ts)) q.1 then insA q.1.ts (commL (z.map (·.1.ts)) (zm.take j)) else commL (z.map (·.1.ts)) (zm.take j) by
            unfold commL
            rw [List.take_add_one, hq, List.foldl_append]; rfl)
          have HLen := Lib.hid (show (commL (z.map (·.1.ts)) (zm.take j)).length ≤ j from Nat.le_trans (commL_le _ _) (by rw [List.length_take]; omega))
          have hBn := (Below.refl wr.heap.size wr).alloc (Nat.le_refl _) (.cells (mdCells q.1).toArray 37)
          have HC := Lib.hid hc
          have HBox := Lib.hid (md_box wr q.1)
          have HAck := Lib.hid (ack_any q.1 (wr.alloc (.cells (mdCells q.1).toArray 37)))
          have HO := Lib.hid (hO.on hBn)
          have HV2 := Lib.hid (hV.on hBn)
          have HB2 := Lib.hid (hb.trans (hBn.mono hb.size))
          clear hc hO hV hb hBn hq hqz
          go_upto_region 11 with (first | ((with_reducible refine wpList_loadM rfl _ rfl _ _ _ HC.out ?_ ?_); rfl) | ((with_reducible refine wpList_storeM rfl _ _ rfl _ q.1 ?_ ?_ ?_); rfl; rfl))
          go_frame
          go_cut [43] (fun s43 wx => s43 = .bool (okM (z.map (·.1.ts)) q.1) ∧ Below (wr.alloc (.cells (mdCells q.1).toArray 37)).heap.size (wr.alloc (.cells (mdCells q.1).toArray 37)) wx)
          case first =>
            go_wp2_with ((with_reducible refine wpList_loadM rfl _ rfl _ _ _ HBox.out ?_ ?_); rfl)
            refine HAck.out.mono ?_
            rintro e w2 ⟨rfl, hb2⟩
            have HBB := Lib.hid hb2
            cases hak : ackM q.1 with
            | true =>
              have HOk := Lib.hid (show okM (z.map (·.1.ts)) q.1 = true by unfold okM; rw [hak]; rfl)
              clear hak hb2
              go_wp2_with fail
              go_meet
              exact ⟨by rw [HOk.out], HBB.out⟩
            | false =>
              obtain ⟨d0, _, d2, _⟩ := HBox.out.on (by simp) hb2
              have hlook := (HV2.out.on hb2).look_run (e := 3) (z := .int .i64 0) Try.underlying84 (by kernel_rfl) q.1.ts HQ.out.ts
              rw [show numKey.val q.1.ts = .int .u64 (q.1.ts : Nat) from rfl] at hlook
              by_cases hk5 : q.1.kind = 5
              · rw [hk5] at d2
                by_cases hin : q.1.ts ∈ z.map (·.1.ts)
                · have HOk := Lib.hid (show okM (z.map (·.1.ts)) q.1 = true by unfold okM; rw [hak, hk5]; simp only [hin, decide_true]; rfl)
                  rw [show (oneF (z.map (·.1.ts)) (.int .i64 1) q.1.ts).getD (.int .i64 0) = .int .i64 1 by unfold oneF; rw [if_pos hin]; rfl] at hlook
                  clear hak hk5 hin hb2
                  go_wp2_with fail
                  go_meet
                  exact ⟨by rw [HOk.out], HBB.out⟩
                · have HOk := Lib.hid (show okM (z.map (·.1.ts)) q.1 = false by unfold okM; rw [hak, hk5]; simp only [hin, decide_false]; rfl)
                  rw [show (oneF (z.map (·.1.ts)) (.int .i64 1) q.1.ts).getD (.int .i64 0) = .int .i64 0 by unfold oneF; rw [if_neg hin]; rfl] at hlook
                  clear hak hk5 hin hb2
                  go_wp2_with fail
                  go_meet
                  exact ⟨by rw [HOk.out], HBB.out⟩
              · have HOk := Lib.hid (show okM (z.map (·.1.ts)) q.1 = false by unfold okM; rw [hak, decide_eq_false hk5]; rfl)
                have hk6 : (q.1.kind == 5) = false := by simp [hk5]
                clear hak hb2 hlook
                go_wp2_with fail
                go_meet
                exact ⟨by rw [HOk.out]; try (simp [hk5]), HBB.out⟩
          obtain ⟨rfl, hb2⟩ := hcut
          cases hok : okM (z.map (·.1.ts)) q.1 with
          | false =>
            have hn := HNext.out
            rw [hok] at hn
            have HN := Lib.hid hn
            have HBB := Lib.hid hb2
            clear hok hn hb2
            go_wp2_with fail
            go_roundw
            case rel => exact ⟨j + 1, by omega, by go_num, by rw [HN.out]; exact HO.out.on HBB.out, HV2.out.on HBB.out, HB2.out.trans (HBB.out.mono HB2.out.size)⟩
            case measure => simp [intOf]; omega
          | true =>
            have hn := HNext.out
            rw [hok] at hn
            have hbx := HB2.out.trans (hb2.mono HB2.out.size)
            obtain ⟨d0, _⟩ := HBox.out.on (by simp) hb2
            obtain ⟨w3, hrun, hO3, hm3⟩ := (HO.out.on hb2).store (e := 4) Try.underlying85 (by have := HLen.out; unfold maxLen; omega) q.1.ts HQ.out.ts (.bool true)
            rw [show numKey.val q.1.ts = .int .u64 (q.1.ts : Nat) from rfl] at hrun
            have HO3 := Lib.hid (show VMap numKey w3 wo.heap.size (commL (z.map (·.1.ts)) (zm.take (j + 1))).length (oneF (commL (z.map (·.1.ts)) (zm.take (j + 1))) (.bool true)) by
              rw [if_pos rfl] at hn
              have hcnt : (if (oneF (commL (z.map (·.1.ts)) (zm.take j)) (.bool true) q.1.ts).isSome then (commL (z.map (·.1.ts)) (zm.take j)).length else (commL (z.map (·.1.ts)) (zm.take j)).length + 1) = (commL (z.map (·.1.ts)) (zm.take (j + 1))).length := by
                rw [hn, insA_length (commL_asc _ _)]
                unfold oneF
                by_cases hin : q.1.ts ∈ commL (z.map (·.1.ts)) (zm.take j)
                · simp [hin]
                · simp [hin]
              rw [hcnt] at hO3
              refine hO3.congr fun x => ?_
              rw [hn]
              unfold oneF
              by_cases hx : x = q.1.ts
              · simp [hx, insA_mem]
              · simp [hx, insA_mem])
            have HV3 := Lib.hid ((HV2.out.on hb2).mod hm3 (by simp; have := HLt.out; omega))
            have HB3 := Lib.hid (hbx.trans (hm3.below (fun x hx => by simp at hx; have := HLt.out; omega) hbx.size))
            clear hok hn hbx hO3 hm3 hb2
            go_wp2_with fail
            go_roundw
            case rel => exact ⟨j + 1, by omega, by go_num, HO3.out, HV3.out, HB3.out⟩
            case measure => simp [intOf]; omega
        · have hgej : ¬ (j : Int) < (nm : Int) := by omega
          have hjn : j = zm.length := by rw [HMM.out.len]; omega
          rw [hjn, List.take_of_length_le (Nat.le_refl _)] at hO
          have hbk := (Below.refl wr.heap.size wr).alloc (Nat.le_refl _) (.cells #[.map (some wo.heap.size)] 85)
          have HK := Lib.hid (keysU_any (some wo.heap.size) wr)
          have HS := Lib.hid (sortedU_any wr.heap.size wo.heap.size _ _ (wr.alloc (.cells #[.map (some wo.heap.size)] 85)) (by simp) (by simp) (hO.on hbk) hB)
          have HBw := Lib.hid (hb.trans (hbk.mono hb.size))
          clear hO hV hb hbk hjn
          go_wp2_with fail
          refine HK.out.mono ?_
          rintro e w2 ⟨rfl, rfl⟩
          go_wp2_with fail
          refine HS.out.mono ?_
          rintro e w3 ⟨a3, c3, L, rfl, hrows, hasc, hmem, hlen, hold3, hb3⟩
          have HE := Lib.hid (show CommEnd (commL (z.map (·.1.ts)) zm) w (.returned (.slice a3 L.length c3)) w3 from by
            have hL : L = commL (z.map (·.1.ts)) zm := by
              refine asc_ext hasc (commL_asc _ _) fun x => ?_
              rw [hmem x]
              unfold oneF
              constructor
              · rintro ⟨_, h⟩
                refine Classical.byContradiction fun hn => ?_
                rw [if_neg hn] at h
                cases h
              · intro hx
                refine ⟨?_, by rw [if_pos hx]; rfl⟩
                exact commL_lt _ _ (fun q hq => (HMM.out.each q hq).ts) x hx
            subst hL
            exact ⟨a3, c3, rfl, hrows, (fun g o e => Nat.le_trans HBw.out.size (hold3 g o e)), HBw.out.trans (hb3.mono HBw.out.size)⟩)
          clear hrows hasc hmem hlen hold3 hb3
          go_wp2_with fail
          go_ret
          exact HE.out
end Go.Proofs.Ytffianjbljgnaaa
