/-
  spec.Order: the first begin that is out of it. No condition but at most a hundred thousand calls.
-/
import Derived.Test.YtecknikehieioaaGreatIndex
namespace Go.Proofs.YtecknikehieioaaGreat
set_option linter.unusedVariables false
set_option linter.unusedSimpArgs false
open Go.RowKit Go.Maps

def belowC (b x : Md) : Bool := ackM x && (decide (x.til ≤ b.frm) && decide (b.ts ≤ x.ts))
theorem firstAt_lt (f : Md → Bool) (z : List MZ) (i : Nat) : -1 ≤ firstAt f i z ∧ firstAt f i z < i + z.length ∨ firstAt f i z = -1 := by
  induction z generalizing i with
  | nil => exact .inr rfl
  | cons q t ih =>
    unfold firstAt
    split
    · left; simp; omega
    · have := ih (i + 1)
      simp only [List.length_cons]
      omega
theorem firstAt_any (f : Md → Bool) (z : List MZ) (i : Nat) : decide (0 ≤ firstAt f i z) = z.any fun q => f q.1 := by
  induction z generalizing i with
  | nil => rfl
  | cons q t ih =>
    unfold firstAt
    rw [List.any_cons]
    cases h : f q.1 with
    | true => simp
    | false => simp only [Bool.false_eq_true, if_false, Bool.false_or]; exact ih (i + 1)
def orderC (z : List MZ) (b : Md) : Bool := decide (b.kind = 0) && z.any fun q => belowC b q.1
def orderL (z : List MZ) : Int := firstAt (orderC z) 0 z
set_option maxRecDepth 100000 in
set_option maxHeartbeats 2000000 in
theorem order11_any (w : World) (x b : Md) (bb : Nat) (hb : MdCellsAt w bb 0 b) (hbl : bb < w.heap.size) :
    Calls Tryz.prog 70 #[.agg (mdCells x).toArray, .pointer (some ⟨bb, 0, none⟩)] w fun e w' => e = .returned (.bool (belowC b x)) ∧ Below w.heap.size w w' := by
  have hbn := (Below.refl w.heap.size w).alloc (Nat.le_refl _) (.cells (mdCells x).toArray 40)
  have HBN := Lib.hid hbn
  have HX := Lib.hid (md_box w x)
  have HBb := Lib.hid (hb.on hbl hbn)
  have hl : bb < (w.alloc (.cells (mdCells x).toArray 40)).heap.size := by simp; omega
  have hxl : w.heap.size < (w.alloc (.cells (mdCells x).toArray 40)).heap.size := by simp
  clear hbn hb
  go_enter Tryz.func70, Tryz.ntmps70
  go_upto_region 1 with fail
  generalize w.alloc (.cells (mdCells x).toArray 40) = w1 at *
  go_wp2_with ((with_reducible refine wpList_loadM rfl _ rfl _ _ _ HX.out ?_ ?_); rfl)
  refine (ack_any x w1).mono ?_
  rintro e w2 ⟨rfl, hb2⟩
  have HB2 := Lib.hid (HBN.out.trans (hb2.mono HBN.out.size))
  obtain ⟨d0, _, _, _, _, _, _, _, _, _, _, _, _, _, _, d15⟩ := HX.out.on hxl hb2
  obtain ⟨k0, _, _, _, _, _, _, _, _, _, _, _, _, _, k14, _⟩ := HBb.out.on hl hb2
  simp only [Nat.zero_add] at d15 k14
  clear hb2 hl hxl
  cases hak : ackM x with
  | false =>
    have HE := Lib.hid (show belowC b x = false by unfold belowC; rw [hak]; rfl)
    clear hak
    go_wp2_with fail
    go_ret
    exact ⟨by rw [HE.out]; try rfl, HB2.out⟩
  | true =>
    by_cases h1 : x.til ≤ b.frm
    · by_cases h2 : b.ts ≤ x.ts
      · have h3 : (b.ts : Int) ≤ (x.ts : Int) := by omega
        have HE := Lib.hid (show belowC b x = true by unfold belowC; rw [hak, decide_eq_true h1, decide_eq_true h2]; rfl)
        have H1 := Lib.hid h1
        have e1 : decide (x.til ≤ b.frm) = true := decide_eq_true h1
        have e2 : decide ((b.ts : Int) ≤ (x.ts : Int)) = true := decide_eq_true h3
        clear hak h2
        go_wp2_with fail
        go_ret
        exact ⟨by rw [HE.out]; first | rfl | (simp [h3]), HB2.out⟩
      · have h3 : ¬ (b.ts : Int) ≤ (x.ts : Int) := by omega
        have HE := Lib.hid (show belowC b x = false by unfold belowC; rw [hak, decide_eq_true h1, decide_eq_false h2]; rfl)
        have e1 : decide (x.til ≤ b.frm) = true := decide_eq_true h1
        clear hak h2
        go_wp2_with fail
        go_ret
        exact ⟨by rw [HE.out]; first | rfl | (simp; omega), HB2.out⟩
    · have HE := Lib.hid (show belowC b x = false by unfold belowC; rw [hak, decide_eq_false h1]; rfl)
      have e1 : decide (x.til ≤ b.frm) = false := decide_eq_false h1
      have H1 := Lib.hid (show b.frm < x.til by omega)
      clear hak
      go_wp2_with fail
      go_ret
      exact ⟨by rw [HE.out]; first | rfl | (have := H1.out; simp; omega), HB2.out⟩
set_option maxRecDepth 100000 in
set_option maxHeartbeats 4000000 in
theorem index11_any (w : World) (f : Md → Bool) (pb : Nat) (am : Option Addr) (nm cm : Nat) (zm : List MZ) (hm : MadeAt w am nm cm zm) (hnm : nm ≤ 100000)
    (hf : ∀ w' q, q ∈ zm → Below w.heap.size w w' → Calls Tryz.prog 70 #[.agg (mdCells q.1).toArray, .pointer (some ⟨pb, 0, none⟩)] w' fun e w'' => e = .returned (.bool (f q.1)) ∧ Below w'.heap.size w' w'') :
    Calls Tryz.prog 60 #[.slice am nm cm, .func (.func 70) #[] #[.pointer (some ⟨pb, 0, none⟩)]] w fun e w' => e = .returned (.int .i64 (firstAt f 0 zm)) ∧ Below w.heap.size w w' := by
  have HMM := Lib.hid hm
  have HF := Lib.hid hf
  clear hm hf
  go_enter Tryz.func60, Tryz.ntmps60
  go_wp2_with fail
  go_loopw [4, 5, 8] (fun _ _ s8 wr => ∃ i : Nat, i ≤ nm ∧ s8 = .int .i64 i ∧ firstAt f 0 zm = firstAt f i (zm.drop i) ∧ Below w.heap.size w wr) (fun _ _ s8 _ => nm - (intOf s8).toNat)
  case atStart => exact ⟨0, by omega, rfl, rfl, Below.refl _ _⟩
  case round =>
    obtain ⟨i, hi, rfl, hfi, hb⟩ := hrel
    by_cases hlt : i < nm
    · have hil : (i : Int) < (nm : Int) := by omega
      obtain ⟨q, g, o, hq, hqz, rfl, hg, hc⟩ := (HMM.out.on hb).row hlt
      have HN := Lib.hid (show firstAt f 0 zm = if f q.1 then (i : Int) else firstAt f (i + 1) (zm.drop (i + 1)) by rw [hfi, firstAt_drop _ _ _ _ hq])
      have HC := Lib.hid hc
      have HS := Lib.hid (HF.out wr q hqz hb)
      have HB := Lib.hid hb
      clear hfi hq hqz hc hb
      go_wp2_with ((with_reducible refine wpList_loadM rfl _ rfl _ _ _ HC.out ?_ ?_); rfl)
      refine HS.out.mono ?_
      rintro e w2 ⟨rfl, hb2⟩
      have HB2 := Lib.hid (HB.out.trans (hb2.mono HB.out.size))
      clear hb2
      cases hak : f q.1 with
      | true =>
        have HR := Lib.hid (show firstAt f 0 zm = (i : Int) by rw [HN.out, hak]; rfl)
        clear hak
        go_wp2_with fail
        go_ret
        exact ⟨by rw [HR.out]; try rfl, HB2.out⟩
      | false =>
        have HR := Lib.hid (show firstAt f 0 zm = firstAt f (i + 1) (zm.drop (i + 1)) by rw [HN.out, hak]; rfl)
        clear hak
        go_wp2_with fail
        go_roundw
        case rel => exact ⟨i + 1, by omega, by go_num, HR.out, HB2.out⟩
        case measure => simp [intOf]; omega
    · have hge : ¬ (i : Int) < (nm : Int) := by omega
      have HR := Lib.hid (show firstAt f 0 zm = -1 by
        have hin : i = zm.length := by rw [HMM.out.len]; omega
        rw [hfi, hin, List.drop_eq_nil_of_le (Nat.le_refl _)]; rfl)
      have HB := Lib.hid hb
      clear hfi hb
      go_wp2_with fail
      go_ret
      exact ⟨by rw [HR.out]; try rfl, HB.out⟩
set_option maxRecDepth 100000 in
set_option maxHeartbeats 2000000 in
theorem containsM_any (w : World) (b : Md) (bb : Nat) (hb : MdCellsAt w bb 0 b) (hbl : bb < w.heap.size) (am : Option Addr) (nm cm : Nat) (zm : List MZ) (hm : MadeAt w am nm cm zm) (hnm : nm ≤ 100000) :
    Calls Tryz.prog 69 #[.slice am nm cm, .func (.func 70) #[] #[.pointer (some ⟨bb, 0, none⟩)]] w fun e w' => e = .returned (.bool (zm.any fun q => belowC b q.1)) ∧ Below w.heap.size w w' := by
  have HI := Lib.hid (index11_any w (belowC b) bb am nm cm zm hm hnm fun w' q _ hb' => order11_any w' q.1 b bb (hb.on hbl hb') (Nat.lt_of_lt_of_le hbl hb'.size))
  have HA := Lib.hid (firstAt_any (belowC b) zm 0)
  clear hm hb
  generalize firstAt (belowC b) 0 zm = v at *
  go_enter Tryz.func69, Tryz.ntmps69
  go_wp2_with fail
  refine HI.out.mono ?_
  rintro e w1 ⟨rfl, hb1⟩
  have HB := Lib.hid hb1
  clear hb1
  go_wp2_with fail
  go_ret
  exact ⟨by rw [← HA.out]; rfl, HB.out⟩
set_option maxRecDepth 100000 in
set_option maxHeartbeats 2000000 in
theorem order1_any (w : World) (b : Md) (pb : Nat) (am : Option Addr) (nm cm : Nat) (zm : List MZ) (hp : w.cell? ⟨pb, 0, none⟩ = some (.slice am nm cm)) (hpl : pb < w.heap.size) (hm : MadeAt w am nm cm zm) (hnm : nm ≤ 100000) :
    Calls Tryz.prog 68 #[.agg (mdCells b).toArray, .pointer (some ⟨pb, 0, none⟩)] w fun e w' => e = .returned (.bool (orderC zm b)) ∧ Below w.heap.size w w' := by
  have hbn := (Below.refl w.heap.size w).alloc (Nat.le_refl _) (.cells (mdCells b).toArray 40)
  have HC := Lib.hid (containsM_any (w.alloc (.cells (mdCells b).toArray 40)) b w.heap.size (md_box w b) (by simp) am nm cm zm (hm.on hbn) hnm)
  have hc := (hbn.cell (p := ⟨pb, 0, none⟩) hpl).trans hp
  obtain ⟨_, _, d2, _⟩ := md_box w b
  simp only [Nat.zero_add] at d2
  have HB := Lib.hid hbn
  clear hbn hm hp
  go_enter Tryz.func68, Tryz.ntmps68
  go_upto_region 1 with fail
  generalize w.alloc (.cells (mdCells b).toArray 40) = w1 at *
  by_cases h1 : b.kind = 0
  · have HE := Lib.hid (show orderC zm b = zm.any fun q => belowC b q.1 by unfold orderC; rw [decide_eq_true h1]; rfl)
    rw [h1] at d2
    clear h1
    generalize (zm.any fun q => belowC b q.1) = v at *
    go_wp2_with fail
    refine HC.out.mono ?_
    rintro e w2 ⟨rfl, hb2⟩
    have HB2 := Lib.hid (HB.out.trans (hb2.mono HB.out.size))
    clear hb2
    go_wp2_with fail
    go_ret
    exact ⟨by rw [HE.out]; try rfl, HB2.out⟩
  · have HE := Lib.hid (show orderC zm b = false by unfold orderC; rw [decide_eq_false h1]; rfl)
    have e1 : (b.kind == 0) = false := beq_eq_false_iff_ne.2 h1
    have H1 := Lib.hid h1
    clear h1
    go_wp2_with fail
    go_ret
    exact ⟨by rw [HE.out]; first | rfl | (simp [H1.out]), HB.out⟩
set_option maxRecDepth 100000 in
set_option maxHeartbeats 4000000 in
theorem index1_any (w : World) (f : Md → Bool) (pb : Nat) (am : Option Addr) (nm cm : Nat) (zm : List MZ) (hm : MadeAt w am nm cm zm) (hnm : nm ≤ 100000)
    (hf : ∀ w' q, q ∈ zm → Below w.heap.size w w' → Calls Tryz.prog 68 #[.agg (mdCells q.1).toArray, .pointer (some ⟨pb, 0, none⟩)] w' fun e w'' => e = .returned (.bool (f q.1)) ∧ Below w'.heap.size w' w'') :
    Calls Tryz.prog 60 #[.slice am nm cm, .func (.func 68) #[] #[.pointer (some ⟨pb, 0, none⟩)]] w fun e w' => e = .returned (.int .i64 (firstAt f 0 zm)) ∧ Below w.heap.size w w' := by
  have HMM := Lib.hid hm
  have HF := Lib.hid hf
  clear hm hf
  go_enter Tryz.func60, Tryz.ntmps60
  go_wp2_with fail
  go_loopw [4, 5, 8] (fun _ _ s8 wr => ∃ i : Nat, i ≤ nm ∧ s8 = .int .i64 i ∧ firstAt f 0 zm = firstAt f i (zm.drop i) ∧ Below w.heap.size w wr) (fun _ _ s8 _ => nm - (intOf s8).toNat)
  case atStart => exact ⟨0, by omega, rfl, rfl, Below.refl _ _⟩
  case round =>
    obtain ⟨i, hi, rfl, hfi, hb⟩ := hrel
    by_cases hlt : i < nm
    · have hil : (i : Int) < (nm : Int) := by omega
      obtain ⟨q, g, o, hq, hqz, rfl, hg, hc⟩ := (HMM.out.on hb).row hlt
      have HN := Lib.hid (show firstAt f 0 zm = if f q.1 then (i : Int) else firstAt f (i + 1) (zm.drop (i + 1)) by rw [hfi, firstAt_drop _ _ _ _ hq])
      have HC := Lib.hid hc
      have HS := Lib.hid (HF.out wr q hqz hb)
      have HB := Lib.hid hb
      clear hfi hq hqz hc hb
      go_wp2_with ((with_reducible refine wpList_loadM rfl _ rfl _ _ _ HC.out ?_ ?_); rfl)
      refine HS.out.mono ?_
      rintro e w2 ⟨rfl, hb2⟩
      have HB2 := Lib.hid (HB.out.trans (hb2.mono HB.out.size))
      clear hb2
      cases hak : f q.1 with
      | true =>
        have HR := Lib.hid (show firstAt f 0 zm = (i : Int) by rw [HN.out, hak]; rfl)
        clear hak
        go_wp2_with fail
        go_ret
        exact ⟨by rw [HR.out]; try rfl, HB2.out⟩
      | false =>
        have HR := Lib.hid (show firstAt f 0 zm = firstAt f (i + 1) (zm.drop (i + 1)) by rw [HN.out, hak]; rfl)
        clear hak
        go_wp2_with fail
        go_roundw
        case rel => exact ⟨i + 1, by omega, by go_num, HR.out, HB2.out⟩
        case measure => simp [intOf]; omega
    · have hge : ¬ (i : Int) < (nm : Int) := by omega
      have HR := Lib.hid (show firstAt f 0 zm = -1 by
        have hin : i = zm.length := by rw [HMM.out.len]; omega
        rw [hfi, hin, List.drop_eq_nil_of_le (Nat.le_refl _)]; rfl)
      have HB := Lib.hid hb
      clear hfi hb
      go_wp2_with fail
      go_ret
      exact ⟨by rw [HR.out]; try rfl, HB.out⟩
set_option maxRecDepth 100000 in
set_option maxHeartbeats 2000000 in
theorem order_any (w : World) (am : Option Addr) (nm cm : Nat) (zm : List MZ) (hm : MadeAt w am nm cm zm) (hnm : nm ≤ 100000) :
    Calls Tryz.prog 28 #[.slice am nm cm] w fun e w' => e = .returned (.int .i64 (orderL zm)) ∧ Below w.heap.size w w' := by
  have hbn := (Below.refl w.heap.size w).alloc (Nat.le_refl _) (.cells #[.slice am nm cm] 22)
  have hB : Blk (w.alloc (.cells #[.slice am nm cm] 22)) w.heap.size [.slice am nm cm] 22 := Blk.new w [.slice am nm cm] _
  have hc : (w.alloc (.cells #[.slice am nm cm] 22)).cell? ⟨w.heap.size, 0, none⟩ = some (.slice am nm cm) := by rw [hB.cell]; rfl
  have HI := Lib.hid (index1_any (w.alloc (.cells #[.slice am nm cm] 22)) (orderC zm) w.heap.size am nm cm zm (hm.on hbn) hnm fun w' q _ hb' => order1_any w' q.1 w.heap.size am nm cm zm ((hb'.cell (p := ⟨w.heap.size, 0, none⟩) (by simp)).trans hc) (Nat.lt_of_lt_of_le (by simp) hb'.size) ((hm.on hbn).on hb') hnm)
  have HB := Lib.hid hbn
  clear hbn hB hm
  go_enter Tryz.func28, Tryz.ntmps28
  go_wp2_with fail
  refine HI.out.mono ?_
  rintro e w2 ⟨rfl, hb2⟩
  have HB2 := Lib.hid (HB.out.trans (hb2.mono HB.out.size))
  clear hb2
  go_wp2_with fail
  go_ret
  exact ⟨rfl, HB2.out⟩
end Go.Proofs.YtecknikehieioaaGreat
