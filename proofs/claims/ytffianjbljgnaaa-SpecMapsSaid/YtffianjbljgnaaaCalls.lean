/-
  spec.calls: the places of a transaction's calls that count, in order. Condition: at most a thousand of them (BoundC).
-/
import Derived.Test.YtffianjbljgnaaaComm
import Derived.Test.YtffianjbljgnaaaSymT
namespace Go.Proofs.Ytffianjbljgnaaa
set_option linter.unusedVariables false
set_option linter.unusedSimpArgs false
open Go.RowKit

/-- How many places are sorted. -/
def BoundC (n : Nat) : Prop := n < 1001
def okC (ts : Nat) (m : Md) : Bool := decide (m.ts = ts) && (m.dn && decide (m.err = 0))
def nAt (z : List MZ) (i : Nat) : Int := match z[i]? with | some q => q.1.n | none => 0
def indsL (ts : Nat) (z : List MZ) : List Nat := (List.range z.length).filter fun i => match z[i]? with | some q => okC ts q.1 | none => false
def callsL (ts : Nat) (z : List MZ) : List Nat := isort (fun x y => decide (nAt z x < nAt z y)) (indsL ts z)
theorem ltI_cmp (z : List MZ) : ltI (fun x y => cmpI (nAt z x) (nAt z y)) = fun x y => decide (nAt z x < nAt z y) := by
  funext x y
  unfold ltI
  have := cmpI_neg (nAt z x) (nAt z y)
  by_cases h : nAt z x < nAt z y
  · rw [decide_eq_true (this.2 h), decide_eq_true h]
  · rw [decide_eq_false (fun hh => h (this.1 hh)), decide_eq_false h]
set_option maxRecDepth 100000 in
set_option maxHeartbeats 2000000 in
theorem calls1_any (w0 w : World) (am : Option Addr) (nm cm : Nat) (zm : List MZ) (hm : MadeAt w am nm cm zm) (CB x y : Nat) (hx : x < nm) (hy : y < nm) (hnm : nm ≤ 100000) (hb : w.cell? ⟨CB, 0, none⟩ = some (.slice am nm cm)) (hCB : CB < w.heap.size) :
    Calls Try.prog 45 #[.int .i64 x, .int .i64 y, .pointer (some ⟨CB, 0, none⟩)] w fun e w' => e = .returned (.int .i64 (cmpI (nAt zm x) (nAt zm y))) ∧ Below w.heap.size w w' := by
  obtain ⟨q, g, o, hq, hqz, ha, hg, hc⟩ := hm.row hx
  obtain ⟨q', g', o', hq', hqz', ha', _, hc'⟩ := hm.row hy
  subst ha
  cases ha'
  obtain ⟨_, c1, _⟩ := hc
  obtain ⟨_, d1, _⟩ := hc'
  have HX := Lib.hid (show nAt zm x = q.1.n by unfold nAt; rw [hq])
  have HY := Lib.hid (show nAt zm y = q'.1.n by unfold nAt; rw [hq'])
  have hxl : (x : Int) < (nm : Int) := by omega
  have hyl : (y : Int) < (nm : Int) := by omega
  have HF := Lib.hid (show ∀ w', Below w.heap.size w w' → (w'.cell? ⟨CB, 0, none⟩ = some (.slice (some ⟨g, o, none⟩) nm cm) ∧ w'.cell? ⟨g, o + x * 16 + 1, none⟩ = some (.int .i64 q.1.n) ∧ w'.cell? ⟨g, o + y * 16 + 1, none⟩ = some (.int .i64 q'.1.n)) from
    fun w' hw => ⟨(hw.cell (p := ⟨CB, 0, none⟩) hCB).trans hb, (hw.cell (p := ⟨g, o + x * 16 + 1, none⟩) hg).trans c1, (hw.cell (p := ⟨g, o + y * 16 + 1, none⟩) hg).trans d1⟩)
  clear hm hq hq' hqz hqz' c1 d1 hb
  go_enter Try.func45, Try.ntmps45
  go_upto_region 1 with fail
  refine wp_region_settle (Below w.heap.size w) (by kernel_rfl) (by kernel_rfl) (by kernel_rfl) (below_drew (Below.refl _ _)) ?_
  repeat (first
    | (refine settled_not ?_ ?_
       · rfl
       simp only [Act.put, List.setIfInBounds_toArray, List.set_cons_zero, List.set_cons_succ])
    | (refine settled_val (v := ?_) ?_ (fun w' hS => ?_) ?_
       rotate_left
       · rfl
       · obtain ⟨k0, k1, k2⟩ := HF.out w' hS
         go_simp
         with_reducible rfl
       simp only [Act.put, List.setIfInBounds_toArray, List.set_cons_zero, List.set_cons_succ])
    | (refine settled_call (f := 46) (v := .int .i64 (cmpI q.1.n q'.1.n)) ?_ (fun w' hS => ?_) (fun w' hS => ((compare_int q.1.n q'.1.n w').mono fun e w'' ⟨h1, h2⟩ => ⟨h1, by rw [← h2]; exact hS⟩)) ?_
       · rfl
       · go_simp
       simp only [Act.put, List.setIfInBounds_toArray, List.set_cons_zero, List.set_cons_succ]))
  refine settled_nil (fun w2 hS => ?_)
  go_wp2_with fail
  go_ret
  exact ⟨by rw [HX.out, HY.out]; rfl, hS⟩
set_option maxHeartbeats 1000000 in
theorem insI_none (CB : Nat) (w : World) : Calls Try.prog 72 #[.slice none 0 0, .int .i64 0, .int .i64 0, .func (.func 45) #[] #[.pointer (some ⟨CB, 0, none⟩)]] w fun e w' => e = .returned (.tuple #[]) ∧ w = w' := by
  go_enter Try.func72, Try.ntmps72
  go_wp2_with fail
  go_loopw [8] (fun s6 wr => w = wr ∧ s6 = .int .i64 1) (fun _ _ => 0)
  case atStart => exact ⟨rfl, rfl⟩
  case round =>
    obtain ⟨rfl, rfl⟩ := hrel
    go_wp2_with fail
    go_end0
    exact ⟨rfl, rfl⟩
set_option maxHeartbeats 1000000 in
theorem stabI_none (CB : Nat) (w : World) : Calls Try.prog 62 #[.slice none 0 0, .int .i64 0, .func (.func 45) #[] #[.pointer (some ⟨CB, 0, none⟩)]] w fun e w' => e = .returned (.tuple #[]) ∧ w = w' := by
  have HI := Lib.hid (insI_none CB w)
  go_enter Try.func62, Try.ntmps62
  go_wp2_with fail
  go_loopw [7, 8] (fun s7 s8 wr => w = wr ∧ s7 = .int .i64 0 ∧ s8 = .int .i64 20) (fun _ _ _ => 0)
  case atStart => exact ⟨rfl, rfl, rfl⟩
  case round =>
    obtain ⟨rfl, rfl, rfl⟩ := hrel
    go_wp2_with fail
    refine HI.out.mono ?_
    rintro e w1 ⟨rfl, rfl⟩
    go_wp2_with fail
    go_loopw [6, 7, 8, 9] (fun s6 s7 s8 s9 wr => w = wr ∧ s6 = .int .i64 20) (fun _ _ _ _ _ => 0)
    case atStart => exact ⟨rfl, rfl⟩
    case round =>
      obtain ⟨rfl, rfl⟩ := hrel
      go_wp2_with fail
      go_end0
      exact ⟨rfl, rfl⟩
set_option maxHeartbeats 1000000 in
theorem stableI_none (CB : Nat) (w : World) : Calls Try.prog 44 #[.slice none 0 0, .func (.func 45) #[] #[.pointer (some ⟨CB, 0, none⟩)]] w fun e w' => e = .returned (.tuple #[]) ∧ w = w' := by
  have HS := Lib.hid (stabI_none CB w)
  go_enter Try.func44, Try.ntmps44
  go_wp2_with fail
  refine HS.out.mono ?_
  rintro e w1 ⟨rfl, rfl⟩
  go_wp2_with fail
  go_end0
  exact ⟨rfl, rfl⟩
theorem info_int : (Try.prog.info? 3).map (fun i => (i.zero, i.size, i.bytes)) = some (some (.int .i64 0), 1, 8) := by kernel_rfl
/-- The part of the places that the first i calls give. -/
def indsP (ts : Nat) (z : List MZ) (i : Nat) : List Nat := (List.range i).filter fun i => match z[i]? with | some q => okC ts q.1 | none => false
theorem indsP_le (ts : Nat) (z : List MZ) (i : Nat) : (indsP ts z i).length ≤ i := by
  unfold indsP
  exact Nat.le_trans (List.length_filter_le _ _) (by simp)
theorem indsP_succ (ts : Nat) (z : List MZ) (i : Nat) (q : MZ) (hq : z[i]? = some q) : indsP ts z (i + 1) = indsP ts z i ++ (if okC ts q.1 then [i] else []) := by
  unfold indsP
  rw [List.range_succ, List.filter_append]
  congr 1
  rw [List.filter_cons]
  simp only [hq, List.filter_nil]
theorem indsL_mem (ts : Nat) (z : List MZ) (i : Nat) (h : i ∈ indsL ts z) : i < z.length := by
  have := (List.mem_filter.1 h).1
  simpa using this
/-- What calls ends with. -/
def CallsEnd (ts : Nat) (z : List MZ) (w : World) (e : Ending) (w' : World) : Prop :=
  ∃ (a : Option Addr) (c : Nat), e = .returned (.slice a (callsL ts z).length c) ∧ RowsAt w' a (callsL ts z).length c 1 (i64s (callsL ts z)) ∧ (∀ g o, a = some ⟨g, o, none⟩ → w.heap.size ≤ g) ∧ Below w.heap.size w w'
set_option maxRecDepth 100000 in
set_option maxHeartbeats 4000000 in
theorem calls_any (w : World) (am : Option Addr) (nm cm : Nat) (zm : List MZ) (hm : MadeAt w am nm cm zm) (hnm : nm ≤ 100000) (ts : Nat) (hB : BoundC (indsL ts zm).length) :
    Calls Try.prog 27 #[.slice am nm cm, .int .u64 ts] w (CallsEnd ts zm w) := by
  have hb0 := (Below.refl w.heap.size w).alloc (Nat.le_refl _) (.cells #[.slice am nm cm] 24)
  have HBx : Blk (w.alloc (.cells #[.slice am nm cm] 24)) w.heap.size [.slice am nm cm] 24 := Blk.new w [.slice am nm cm] _
  have HBox := Lib.hid HBx
  have HB0 := Lib.hid hb0
  have HMM := Lib.hid hm
  clear hm HBx hb0
  go_enter Try.func27, Try.ntmps27
  go_wp2_with fail
  go_loopw [5, 6, 7, 10] (fun s5 _ _ s10 wr => ∃ i : Nat, i ≤ nm ∧ s10 = .int .i64 i ∧ wr.ownsRow (w.heap.size + 1) 3 1 s5 (indsP ts zm i).length (i64s (indsP ts zm i)) ∧ Below (w.alloc (.cells #[.slice am nm cm] 24)).heap.size (w.alloc (.cells #[.slice am nm cm] 24)) wr) (fun _ _ _ s10 _ => nm - (intOf s10).toNat)
  case atStart => exact ⟨0, by omega, rfl, ⟨rfl, .inl ⟨rfl, rfl⟩⟩, Below.refl _ _⟩
  case round =>
    obtain ⟨i, hi, rfl, hown, hb⟩ := hrel
    have hsz := hb.size
    rw [World.size_alloc] at hsz
    have HB := Lib.hid (HB0.out.trans (hb.mono (by simp)))
    by_cases hlt : i < nm
    · have hil : (i : Int) < (nm : Int) := by omega
      obtain ⟨q, g, o, hq, hqz, rfl, hg, hc⟩ := (HMM.out.on HB.out).row hlt
      have hBn := (Below.refl wr.heap.size wr).alloc (Nat.le_refl _) (.cells (mdCells q.1).toArray 37)
      have HNext := Lib.hid (indsP_succ ts zm i q hq)
      have HC := Lib.hid hc
      have HQt := Lib.hid (HMM.out.each q hqz).ts
      have HBox2 := Lib.hid (md_box wr q.1)
      have HOwn := Lib.hid (hown.alloc (.cells (mdCells q.1).toArray 37))
      have HBn := Lib.hid (hb.trans (hBn.mono hb.size))
      have hbo := (hBn.size)
      rw [World.size_alloc] at hbo
      clear hc hown hb hBn hq hqz
      go_upto_region 5 with (first | ((with_reducible refine wpList_loadM rfl _ rfl _ _ _ HC.out ?_ ?_); rfl) | ((with_reducible refine wpList_storeM rfl _ _ rfl _ q.1 ?_ ?_ ?_); rfl; rfl))
      go_frame
      generalize hw2 : wr.alloc (.cells (mdCells q.1).toArray 37) = w2 at *
      have HW2 := Lib.hid (show wr.heap.size < w2.heap.size by rw [← hw2]; simp)
      clear hw2
      go_cut [28] (fun s28 wx => s28 = .bool (okC ts q.1) ∧ w2 = wx)
      case first =>
        obtain ⟨d0, _, _, _, _, _, _, d7, _, _, d10, _⟩ := HBox2.out
        by_cases h1 : q.1.ts = ts
        · have e1 : ((q.1.ts : Int) == (ts : Int)) = true := by simp [h1]
          cases hdn : q.1.dn with
          | true =>
            rw [hdn] at d7
            by_cases h2 : q.1.err = 0
            · have e2 : (q.1.err == 0) = true := by simp [h2]
              have HOk := Lib.hid (show okC ts q.1 = true by unfold okC; rw [hdn]; simp [h1, h2])
              clear h1 h2 hdn
              go_wp2_with fail
              go_meet
              exact ⟨by rw [HOk.out], rfl⟩
            · have e2 : (q.1.err == 0) = false := by simp [h2]
              have HOk := Lib.hid (show okC ts q.1 = false by unfold okC; rw [hdn]; simp [h1, h2])
              clear h1 h2 hdn
              go_wp2_with fail
              go_meet
              exact ⟨by rw [HOk.out], rfl⟩
          | false =>
            rw [hdn] at d7
            have HOk := Lib.hid (show okC ts q.1 = false by unfold okC; rw [hdn]; simp)
            clear h1 hdn
            go_wp2_with fail
            go_meet
            exact ⟨by rw [HOk.out], rfl⟩
        · have e1 : ((q.1.ts : Int) == (ts : Int)) = false := by simp; omega
          have HOk := Lib.hid (show okC ts q.1 = false by unfold okC; simp [h1])
          clear h1
          go_wp2_with fail
          go_meet
          exact ⟨by rw [HOk.out], rfl⟩
      obtain ⟨rfl, rfl⟩ := hcut
      cases hok : okC ts q.1 with
      | false =>
        have hn := HNext.out
        rw [hok] at hn
        have HN := Lib.hid hn
        clear hok hn
        go_wp2_with fail
        go_roundw
        case rel => exact ⟨i + 1, by omega, by go_num, by rw [HN.out]; simpa using HOwn.out, HBn.out⟩
        case measure => simp [intOf]; omega
      | true =>
        have hn := HNext.out
        rw [hok] at hn
        have HN := Lib.hid hn
        have hbn := (Below.refl w2.heap.size w2).alloc (Nat.le_refl _) (.cells #[.int .i64 (i : Int)] 3)
        obtain ⟨v', w', hrun, hown', hmod, hblk⟩ := own_append 77 3 77 _ 1 8 Try.underlying77 info_int rfl (by decide) (by decide) (HOwn.out.alloc (.cells #[.int .i64 (i : Int)] 3))
          (by have := indsP_le ts zm i; omega) (by have := HW2.out; simp; omega) ⟨w2.heap.size, 0, none⟩ 1 1 [.int .i64 (i : Int)] (by omega) (by omega) rfl
          (fun k u hk => by rw [addr_add', Nat.zero_add, World.cell?_alloc_new]; simpa using hk)
          (by intro u hu; simp only [List.mem_cons, List.not_mem_nil, or_false] at hu; subst hu; rfl)
        have HOwn' := Lib.hid hown'
        have HM := Lib.hid (show Below (w.alloc (.cells #[.slice (some ⟨g, o, none⟩) nm cm] 24)).heap.size (w.alloc (.cells #[.slice (some ⟨g, o, none⟩) nm cm] 24)) w' from by
          refine HBn.out.trans (((Mod.of_below hbn).trans hmod).below (fun x hx => ?_) HBn.out.size)
          have := (HOwn.out.lt x (by simpa using hx)).1
          simp
          omega)
        clear hown' hmod hblk hbn hok hn
        go_wp2_with (at_builtin; (with_reducible refine wpList_append_run rfl _ _ _ rfl _ _ _ _ ?_ ?_ hrun ?_); rfl; rfl)
        go_roundw
        case rel => exact ⟨i + 1, by omega, by go_num, by rw [HN.out, List.length_append]; simpa [i64s] using HOwn'.out, HM.out⟩
        case measure => simp [intOf]; omega
    · have hge : ¬ (i : Int) < (nm : Int) := by omega
      have hin : i = zm.length := by rw [HMM.out.len]; omega
      rw [hin, show indsP ts zm zm.length = indsL ts zm from rfl] at hown
      have HCB := Lib.hid (show ∀ w', Below wr.heap.size wr w' ∨ (∃ x, w.heap.size + 1 ≤ x ∧ Mod [x] wr w') → w'.cell? ⟨w.heap.size, 0, none⟩ = some (.slice am nm cm) ∧ w.heap.size < w'.heap.size ∧ Below w.heap.size w w' from by
        have hx := HBox.out.on hb
        rintro w' (h | ⟨x, hx1, h⟩)
        · exact ⟨by rw [(hx.on h).cell]; rfl, by have := h.size; omega, HB.out.trans (h.mono HB.out.size)⟩
        · exact ⟨by rw [(hx.mod h (by simp; omega)).cell]; rfl, by have := h.size; omega, HB.out.trans (h.below (fun y hy => by simp at hy; omega) HB.out.size)⟩)
      have HLe := Lib.hid (show (indsL ts zm).length ≤ nm by have := indsP_le ts zm zm.length; have h2 := HMM.out.len; rw [show indsP ts zm zm.length = indsL ts zm from rfl] at this; omega)
      by_cases hnil : u5 = .slice none 0 0
      · subst hnil
        have hl : indsL ts zm = [] := by
          rcases hown.2 with ⟨_, h0⟩ | ⟨g, cap, cur, he, _⟩
          · exact List.eq_nil_of_length_eq_zero h0
          · cases he
        have HE := Lib.hid (show CallsEnd ts zm w (.returned (.slice none 0 0)) wr from by
          have : callsL ts zm = [] := by unfold callsL; rw [hl]; rfl
          exact ⟨none, 0, by rw [this]; rfl, by rw [this]; exact RowsAt.nil _ _, (fun g o e => by cases e), HB.out⟩)
        have HS := Lib.hid (stableI_none w.heap.size wr)
        clear hown hl hin hb
        go_wp2_with fail
        refine HS.out.mono ?_
        rintro e w2 ⟨rfl, rfl⟩
        go_wp2_with fail
        go_ret
        exact HE.out
      · obtain ⟨g, cap, rest, rfl, hg, hc1, hc2, hblk⟩ : ∃ g cap rest, u5 = .slice (some ⟨g, 0, none⟩) (indsL ts zm).length cap ∧ w.heap.size + 1 ≤ g ∧ (indsL ts zm).length ≤ cap ∧ cap ≤ maxLen ∧ Blk wr g (i64s (indsL ts zm) ++ rest) 3 := by
          rcases hown.2 with ⟨h0, _⟩ | ⟨g, cap, cur, rfl, hg, hh, hcp, hmx, hcs, htk⟩
          · exact absurd h0 hnil
          · exact ⟨g, cap, cur.toList.drop ((indsL ts zm).length * 1), rfl, hg, hcp, hmx, by unfold Blk; rw [hh, ← htk, List.take_append_drop]⟩
        have HS := Lib.hid (stable_any g (indsL ts zm) rest cap (by unfold BoundC at hB; omega) hc1 (nAt zm) w.heap.size wr ⟨fun w' hm' x y hx hy => by
          obtain ⟨e1, e2, e3⟩ := HCB.out w' (.inr ⟨g, hg, hm'⟩)
          exact calls1_any w w' am nm cm zm (HMM.out.on e3) w.heap.size x y (by have := indsL_mem _ _ _ hx; have := HMM.out.len; omega) (by have := indsL_mem _ _ _ hy; have := HMM.out.len; omega) hnm e1 e2⟩ hblk)
        clear hown hnil hblk hin hb
        go_wp2_with fail
        refine HS.out.mono ?_
        rintro e w2 ⟨rfl, hb2, hm2⟩
        rw [ltI_cmp] at hb2
        have HE := Lib.hid (show CallsEnd ts zm w (.returned (.slice (some ⟨g, 0, none⟩) (indsL ts zm).length cap)) w2 from by
          have hl : (callsL ts zm).length = (indsL ts zm).length := isort_length _ _
          refine ⟨some ⟨g, 0, none⟩, cap, by rw [hl], ?_, (fun g' o e => by cases e; omega), (HCB.out w2 (.inr ⟨g, hg, hm2⟩)).2.2⟩
          exact RowsAt.of_blk hb2 (by simp [i64s]) (by rw [hl]; exact hc1) (by rw [hl]; unfold maxLen at hc2; omega))
        clear hb2 hm2
        go_wp2_with fail
        go_ret
        exact HE.out
end Go.Proofs.Ytffianjbljgnaaa
