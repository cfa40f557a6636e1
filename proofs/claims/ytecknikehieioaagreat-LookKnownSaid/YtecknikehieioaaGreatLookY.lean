/-
  Texts folded into one: Order, Plan, LookX, LookY.
-/
import Derived.Test.YtecknikehieioaaGreatIndex
import Derived.Test.YtecknikehieioaaGreatSettleF
import Derived.Test.YtecknikehieioaaGreatLookC
import Derived.Great.BuildSlice

/-! ### Order -/
namespace Go.Proofs.YtecknikehieioaaGreat
set_option linter.unusedVariables false
set_option linter.unusedSimpArgs false
open Go.RowKit Go.Maps

def belowC (b x : Md) : Bool := ackM x && (decide (x.til ≤ b.frm) && decide (b.ts ≤ x.ts))
theorem firstAt_lt (f : Md → Bool) (z : List MZ) (i : Nat) : -1 ≤ firstAt f i z ∧ firstAt f i z < i + z.length ∨ firstAt f i z = -1 := by
  induction z generalizing i with
  | nil => exact .inr rfl
  | cons q t ih =>
    unfold firstAt
    split
    · left; simp; omega
    · have := ih (i + 1)
      simp only [List.length_cons]
      omega
theorem firstAt_any (f : Md → Bool) (z : List MZ) (i : Nat) : decide (0 ≤ firstAt f i z) = z.any fun q => f q.1 := by
  induction z generalizing i with
  | nil => rfl
  | cons q t ih =>
    unfold firstAt
    rw [List.any_cons]
    cases h : f q.1 with
    | true => simp
    | false => simp only [Bool.false_eq_true, if_false, Bool.false_or]; exact ih (i + 1)
def orderC (z : List MZ) (b : Md) : Bool := decide (b.kind = 0) && z.any fun q => belowC b q.1
def orderL (z : List MZ) : Int := firstAt (orderC z) 0 z
set_option maxRecDepth 100000 in
set_option maxHeartbeats 2000000 in
theorem order11_any (w : World) (x b : Md) (bb : Nat) (hb : MdCellsAt w bb 0 b) (hbl : bb < w.heap.size) :
    Calls Tryz.prog 70 #[.agg (mdCells x).toArray, .pointer (some ⟨bb, 0, none⟩)] w fun e w' => e = .returned (.bool (belowC b x)) ∧ Below w.heap.size w w' := by
  have hbn := (Below.refl w.heap.size w).alloc (Nat.le_refl _) (.cells (mdCells x).toArray 40)
  have HBN := Lib.hid hbn
  have HX := Lib.hid (md_box w x)
  have HBb := Lib.hid (hb.on hbl hbn)
  have hl : bb < (w.alloc (.cells (mdCells x).toArray 40)).heap.size := by simp; omega
  have hxl : w.heap.size < (w.alloc (.cells (mdCells x).toArray 40)).heap.size := by simp
  clear hbn hb
  go_enter Tryz.func70, Tryz.ntmps70
  go_upto_region 1 with fail
  generalize w.alloc (.cells (mdCells x).toArray 40) = w1 at *
  go_wp2_with ((with_reducible refine wpList_loadM rfl _ rfl _ _ _ HX.out ?_ ?_); rfl)
  refine (ack_any x w1).mono ?_
  rintro e w2 ⟨rfl, hb2⟩
  have HB2 := Lib.hid (HBN.out.trans (hb2.mono HBN.out.size))
  obtain ⟨d0, _, _, _, _, _, _, _, _, _, _, _, _, _, _, d15⟩ := HX.out.on hxl hb2
  obtain ⟨k0, _, _, _, _, _, _, _, _, _, _, _, _, _, k14, _⟩ := HBb.out.on hl hb2
  simp only [Nat.zero_add] at d15 k14
  clear hb2 hl hxl
  cases hak : ackM x with
  | false =>
    have HE := Lib.hid (show belowC b x = false by unfold belowC; rw [hak]; rfl)
    clear hak
    go_wp2_with fail
    go_ret
    exact ⟨by rw [HE.out]; try rfl, HB2.out⟩
  | true =>
    by_cases h1 : x.til ≤ b.frm
    · by_cases h2 : b.ts ≤ x.ts
      · have h3 : (b.ts : Int) ≤ (x.ts : Int) := by omega
        have HE := Lib.hid (show belowC b x = true by unfold belowC; rw [hak, decide_eq_true h1, decide_eq_true h2]; rfl)
        have H1 := Lib.hid h1
        have e1 : decide (x.til ≤ b.frm) = true := decide_eq_true h1
        have e2 : decide ((b.ts : Int) ≤ (x.ts : Int)) = true := decide_eq_true h3
        clear hak h2
        go_wp2_with fail
        go_ret
        exact ⟨by rw [HE.out]; first | rfl | (simp [h3]), HB2.out⟩
      · have h3 : ¬ (b.ts : Int) ≤ (x.ts : Int) := by omega
        have HE := Lib.hid (show belowC b x = false by unfold belowC; rw [hak, decide_eq_true h1, decide_eq_false h2]; rfl)
        have e1 : decide (x.til ≤ b.frm) = true := decide_eq_true h1
        clear hak h2
        go_wp2_with fail
        go_ret
        exact ⟨by rw [HE.out]; first | rfl | (simp; omega), HB2.out⟩
    · have HE := Lib.hid (show belowC b x = false by unfold belowC; rw [hak, decide_eq_false h1]; rfl)
      have e1 : decide (x.til ≤ b.frm) = false := decide_eq_false h1
      have H1 := Lib.hid (show b.frm < x.til by omega)
      clear hak
      go_wp2_with fail
      go_ret
      exact ⟨by rw [HE.out]; first | rfl | (have := H1.out; simp; omega), HB2.out⟩
set_option maxRecDepth 100000 in
set_option maxHeartbeats 4000000 in
theorem index11_any (w : World) (f : Md → Bool) (pb : Nat) (am : Option Addr) (nm cm : Nat) (zm : List MZ) (hm : MadeAt w am nm cm zm) (hnm : nm ≤ 100000)
    (hf : ∀ w' q, q ∈ zm → Below w.heap.size w w' → Calls Tryz.prog 70 #[.agg (mdCells q.1).toArray, .pointer (some ⟨pb, 0, none⟩)] w' fun e w'' => e = .returned (.bool (f q.1)) ∧ Below w'.heap.size w' w'') :
    Calls Tryz.prog 60 #[.slice am nm cm, .func (.func 70) #[] #[.pointer (some ⟨pb, 0, none⟩)]] w fun e w' => e = .returned (.int .i64 (firstAt f 0 zm)) ∧ Below w.heap.size w w' := by
  have HMM := Lib.hid hm
  have HF := Lib.hid hf
  clear hm hf
  go_enter Tryz.func60, Tryz.ntmps60
  go_wp2_with fail
  go_loopw [4, 5, 8] (fun _ _ s8 wr => ∃ i : Nat, i ≤ nm ∧ s8 = .int .i64 i ∧ firstAt f 0 zm = firstAt f i (zm.drop i) ∧ Below w.heap.size w wr) (fun _ _ s8 _ => nm - (intOf s8).toNat)
  case atStart => exact ⟨0, by omega, rfl, rfl, Below.refl _ _⟩
  case round =>
    obtain ⟨i, hi, rfl, hfi, hb⟩ := hrel
    by_cases hlt : i < nm
    · have hil : (i : Int) < (nm : Int) := by omega
      obtain ⟨q, g, o, hq, hqz, rfl, hg, hc⟩ := (HMM.out.on hb).row hlt
      have HN := Lib.hid (show firstAt f 0 zm = if f q.1 then (i : Int) else firstAt f (i + 1) (zm.drop (i + 1)) by rw [hfi, firstAt_drop _ _ _ _ hq])
      have HC := Lib.hid hc
      have HS := Lib.hid (HF.out wr q hqz hb)
      have HB := Lib.hid hb
      clear hfi hq hqz hc hb
      go_wp2_with ((with_reducible refine wpList_loadM rfl _ rfl _ _ _ HC.out ?_ ?_); rfl)
      refine HS.out.mono ?_
      rintro e w2 ⟨rfl, hb2⟩
      have HB2 := Lib.hid (HB.out.trans (hb2.mono HB.out.size))
      clear hb2
      cases hak : f q.1 with
      | true =>
        have HR := Lib.hid (show firstAt f 0 zm = (i : Int) by rw [HN.out, hak]; rfl)
        clear hak
        go_wp2_with fail
        go_ret
        exact ⟨by rw [HR.out]; try rfl, HB2.out⟩
      | false =>
        have HR := Lib.hid (show firstAt f 0 zm = firstAt f (i + 1) (zm.drop (i + 1)) by rw [HN.out, hak]; rfl)
        clear hak
        go_wp2_with fail
        go_roundw
        case rel => exact ⟨i + 1, by omega, by go_num, HR.out, HB2.out⟩
        case measure => simp [intOf]; omega
    · have hge : ¬ (i : Int) < (nm : Int) := by omega
      have HR := Lib.hid (show firstAt f 0 zm = -1 by
        have hin : i = zm.length := by rw [HMM.out.len]; omega
        rw [hfi, hin, List.drop_eq_nil_of_le (Nat.le_refl _)]; rfl)
      have HB := Lib.hid hb
      clear hfi hb
      go_wp2_with fail
      go_ret
      exact ⟨by rw [HR.out]; try rfl, HB.out⟩
set_option maxRecDepth 100000 in
set_option maxHeartbeats 2000000 in
theorem containsM_any (w : World) (b : Md) (bb : Nat) (hb : MdCellsAt w bb 0 b) (hbl : bb < w.heap.size) (am : Option Addr) (nm cm : Nat) (zm : List MZ) (hm : MadeAt w am nm cm zm) (hnm : nm ≤ 100000) :
    Calls Tryz.prog 69 #[.slice am nm cm, .func (.func 70) #[] #[.pointer (some ⟨bb, 0, none⟩)]] w fun e w' => e = .returned (.bool (zm.any fun q => belowC b q.1)) ∧ Below w.heap.size w w' := by
  have HI := Lib.hid (index11_any w (belowC b) bb am nm cm zm hm hnm fun w' q _ hb' => order11_any w' q.1 b bb (hb.on hbl hb') (Nat.lt_of_lt_of_le hbl hb'.size))
  have HA := Lib.hid (firstAt_any (belowC b) zm 0)
  clear hm hb
  generalize firstAt (belowC b) 0 zm = v at *
  go_enter Tryz.func69, Tryz.ntmps69
  go_wp2_with fail
  refine HI.out.mono ?_
  rintro e w1 ⟨rfl, hb1⟩
  have HB := Lib.hid hb1
  clear hb1
  go_wp2_with fail
  go_ret
  exact ⟨by rw [← HA.out]; rfl, HB.out⟩
set_option maxRecDepth 100000 in
set_option maxHeartbeats 2000000 in
theorem order1_any (w : World) (b : Md) (pb : Nat) (am : Option Addr) (nm cm : Nat) (zm : List MZ) (hp : w.cell? ⟨pb, 0, none⟩ = some (.slice am nm cm)) (hpl : pb < w.heap.size) (hm : MadeAt w am nm cm zm) (hnm : nm ≤ 100000) :
    Calls Tryz.prog 68 #[.agg (mdCells b).toArray, .pointer (some ⟨pb, 0, none⟩)] w fun e w' => e = .returned (.bool (orderC zm b)) ∧ Below w.heap.size w w' := by
  have hbn := (Below.refl w.heap.size w).alloc (Nat.le_refl _) (.cells (mdCells b).toArray 40)
  have HC := Lib.hid (containsM_any (w.alloc (.cells (mdCells b).toArray 40)) b w.heap.size (md_box w b) (by simp) am nm cm zm (hm.on hbn) hnm)
  have hc := (hbn.cell (p := ⟨pb, 0, none⟩) hpl).trans hp
  obtain ⟨_, _, d2, _⟩ := md_box w b
  simp only [Nat.zero_add] at d2
  have HB := Lib.hid hbn
  clear hbn hm hp
  go_enter Tryz.func68, Tryz.ntmps68
  go_upto_region 1 with fail
  generalize w.alloc (.cells (mdCells b).toArray 40) = w1 at *
  by_cases h1 : b.kind = 0
  · have HE := Lib.hid (show orderC zm b = zm.any fun q => belowC b q.1 by unfold orderC; rw [decide_eq_true h1]; rfl)
    rw [h1] at d2
    clear h1
    generalize (zm.any fun q => belowC b q.1) = v at *
    go_wp2_with fail
    refine HC.out.mono ?_
    rintro e w2 ⟨rfl, hb2⟩
    have HB2 := Lib.hid (HB.out.trans (hb2.mono HB.out.size))
    clear hb2
    go_wp2_with fail
    go_ret
    exact ⟨by rw [HE.out]; try rfl, HB2.out⟩
  · have HE := Lib.hid (show orderC zm b = false by unfold orderC; rw [decide_eq_false h1]; rfl)
    have e1 : (b.kind == 0) = false := beq_eq_false_iff_ne.2 h1
    have H1 := Lib.hid h1
    clear h1
    go_wp2_with fail
    go_ret
    exact ⟨by rw [HE.out]; first | rfl | (simp [H1.out]), HB.out⟩
set_option maxRecDepth 100000 in
set_option maxHeartbeats 4000000 in
theorem index1_any (w : World) (f : Md → Bool) (pb : Nat) (am : Option Addr) (nm cm : Nat) (zm : List MZ) (hm : MadeAt w am nm cm zm) (hnm : nm ≤ 100000)
    (hf : ∀ w' q, q ∈ zm → Below w.heap.size w w' → Calls Tryz.prog 68 #[.agg (mdCells q.1).toArray, .pointer (some ⟨pb, 0, none⟩)] w' fun e w'' => e = .returned (.bool (f q.1)) ∧ Below w'.heap.size w' w'') :
    Calls Tryz.prog 60 #[.slice am nm cm, .func (.func 68) #[] #[.pointer (some ⟨pb, 0, none⟩)]] w fun e w' => e = .returned (.int .i64 (firstAt f 0 zm)) ∧ Below w.heap.size w w' := by
  have HMM := Lib.hid hm
  have HF := Lib.hid hf
  clear hm hf
  go_enter Tryz.func60, Tryz.ntmps60
  go_wp2_with fail
  go_loopw [4, 5, 8] (fun _ _ s8 wr => ∃ i : Nat, i ≤ nm ∧ s8 = .int .i64 i ∧ firstAt f 0 zm = firstAt f i (zm.drop i) ∧ Below w.heap.size w wr) (fun _ _ s8 _ => nm - (intOf s8).toNat)
  case atStart => exact ⟨0, by omega, rfl, rfl, Below.refl _ _⟩
  case round =>
    obtain ⟨i, hi, rfl, hfi, hb⟩ := hrel
    by_cases hlt : i < nm
    · have hil : (i : Int) < (nm : Int) := by omega
      obtain ⟨q, g, o, hq, hqz, rfl, hg, hc⟩ := (HMM.out.on hb).row hlt
      have HN := Lib.hid (show firstAt f 0 zm = if f q.1 then (i : Int) else firstAt f (i + 1) (zm.drop (i + 1)) by rw [hfi, firstAt_drop _ _ _ _ hq])
      have HC := Lib.hid hc
      have HS := Lib.hid (HF.out wr q hqz hb)
      have HB := Lib.hid hb
      clear hfi hq hqz hc hb
      go_wp2_with ((with_reducible refine wpList_loadM rfl _ rfl _ _ _ HC.out ?_ ?_); rfl)
      refine HS.out.mono ?_
      rintro e w2 ⟨rfl, hb2⟩
      have HB2 := Lib.hid (HB.out.trans (hb2.mono HB.out.size))
      clear hb2
      cases hak : f q.1 with
      | true =>
        have HR := Lib.hid (show firstAt f 0 zm = (i : Int) by rw [HN.out, hak]; rfl)
        clear hak
        go_wp2_with fail
        go_ret
        exact ⟨by rw [HR.out]; try rfl, HB2.out⟩
      | false =>
        have HR := Lib.hid (show firstAt f 0 zm = firstAt f (i + 1) (zm.drop (i + 1)) by rw [HN.out, hak]; rfl)
        clear hak
        go_wp2_with fail
        go_roundw
        case rel => exact ⟨i + 1, by omega, by go_num, HR.out, HB2.out⟩
        case measure => simp [intOf]; omega
    · have hge : ¬ (i : Int) < (nm : Int) := by omega
      have HR := Lib.hid (show firstAt f 0 zm = -1 by
        have hin : i = zm.length := by rw [HMM.out.len]; omega
        rw [hfi, hin, List.drop_eq_nil_of_le (Nat.le_refl _)]; rfl)
      have HB := Lib.hid hb
      clear hfi hb
      go_wp2_with fail
      go_ret
      exact ⟨by rw [HR.out]; try rfl, HB.out⟩
set_option maxRecDepth 100000 in
set_option maxHeartbeats 2000000 in
theorem order_any (w : World) (am : Option Addr) (nm cm : Nat) (zm : List MZ) (hm : MadeAt w am nm cm zm) (hnm : nm ≤ 100000) :
    Calls Tryz.prog 28 #[.slice am nm cm] w fun e w' => e = .returned (.int .i64 (orderL zm)) ∧ Below w.heap.size w w' := by
  have hbn := (Below.refl w.heap.size w).alloc (Nat.le_refl _) (.cells #[.slice am nm cm] 22)
  have hB : Blk (w.alloc (.cells #[.slice am nm cm] 22)) w.heap.size [.slice am nm cm] 22 := Blk.new w [.slice am nm cm] _
  have hc : (w.alloc (.cells #[.slice am nm cm] 22)).cell? ⟨w.heap.size, 0, none⟩ = some (.slice am nm cm) := by rw [hB.cell]; rfl
  have HI := Lib.hid (index1_any (w.alloc (.cells #[.slice am nm cm] 22)) (orderC zm) w.heap.size am nm cm zm (hm.on hbn) hnm fun w' q _ hb' => order1_any w' q.1 w.heap.size am nm cm zm ((hb'.cell (p := ⟨w.heap.size, 0, none⟩) (by simp)).trans hc) (Nat.lt_of_lt_of_le (by simp) hb'.size) ((hm.on hbn).on hb') hnm)
  have HB := Lib.hid hbn
  clear hbn hB hm
  go_enter Tryz.func28, Tryz.ntmps28
  go_wp2_with fail
  refine HI.out.mono ?_
  rintro e w2 ⟨rfl, hb2⟩
  have HB2 := Lib.hid (HB.out.trans (hb2.mono HB.out.size))
  clear hb2
  go_wp2_with fail
  go_ret
  exact ⟨rfl, HB2.out⟩
end Go.Proofs.YtecknikehieioaaGreat

/-! ### Plan -/
namespace Go.Proofs.YtecknikehieioaaGreat
open Go
set_option linter.unusedVariables false
set_option linter.unusedSimpArgs false
section
variable {P : Program} {ops : Array Oper} {md : Region.Mode} {S : World → Prop}
/-- An operation comes up: S stays, and what follows holds. -/
def stepP (P : Program) (ops : Array Oper) (Q : Exit → Act → World → Prop) (S : World → Prop) (o : Oper) (K : Act → World → Prop) (a : Act) (w : World) : Prop :=
  if Region.wanted o (yielded ops a.tmps) = true then Oper.wp P o a w (fun a' w' => S w' ∧ K a' w') Q else K (a.put o.dst undef) w
/-- A plan: an operation is taken; one alone may come up; one of two may. -/
inductive Plan where
  | done
  | take (i : Nat) (o : Oper) (r : Plan)
  | one (i : Nat) (o : Oper) (r : Plan)
  | two (i : Nat) (o : Oper) (r : Plan) (j : Nat) (p : Oper) (s : Plan)
/-- The walk along a plan. -/
def wpPlan (P : Program) (ops : Array Oper) (Q : Exit → Act → World → Prop) (S : World → Prop) : Plan → Act → World → Prop
  | .done, a, w => Q .normal a w
  | .take _ o r, a, w => ∃ v, YieldsIf P ops S o v a ∧ wpPlan P ops Q S r (a.put o.dst v) w
  | .one _ o r, a, w => stepP P ops Q S o (wpPlan P ops Q S r) a w
  | .two _ o r _ p s, a, w => stepP P ops Q S o (wpPlan P ops Q S r) a w ∧ stepP P ops Q S p (wpPlan P ops Q S s) a w
/-- The indices of a plan. -/
inductive PlanI where
  | done
  | take (i : Nat) (r : PlanI)
  | one (i : Nat) (r : PlanI)
  | two (i : Nat) (r : PlanI) (j : Nat) (s : PlanI)
def PlanI.fill (l : List Oper) : PlanI → Plan
  | .done => .done
  | .take i r => .take i (l.getD i default) (r.fill l)
  | .one i r => .one i (l.getD i default) (r.fill l)
  | .two i r j s => .two i (l.getD i default) (r.fill l) j (l.getD j default) (s.fill l)
def planOk (md : Region.Mode) (ops : Array Oper) : PlanI → Nat → Array Bool → Bool
  | .done, n, listed => (n == 0) && Region.ready md ops listed == []
  | .take i r, n, listed => Nat.blt i ops.size && Nat.blt 0 n && (Region.ready md ops listed).contains i && Region.free md ops listed i && planOk md ops r (n - 1) (listed.setIfInBounds i true)
  | .one i r, n, listed => Nat.blt i ops.size && Nat.blt 0 n && Region.ready md ops listed == [i] && planOk md ops r (n - 1) (listed.setIfInBounds i true)
  | .two i r j s, n, listed => Nat.blt i ops.size && Nat.blt j ops.size && Nat.blt 0 n && Region.ready md ops listed == [i, j] && planOk md ops r (n - 1) (listed.setIfInBounds i true) && planOk md ops s (n - 1) (listed.setIfInBounds j true)
theorem wpOp_of_stepP {Q : Exit → Act → World → Prop} {i : Nat} {o : Oper} (hi : ops[i]? = some o) {K K' : Act → World → Prop} {a : Act} {w : World} (hS : S w) (hK : ∀ a' w', S w' → K a' w' → K' a' w') (h : stepP P ops Q S o K a w) : wpOp P ops Q i K' a w := by
  refine wpOp_mono (K := fun a' w' => S w' ∧ K a' w') (fun a' w' h' => hK a' w' h'.1 h'.2) ?_
  unfold wpOp
  simp only [hi]
  unfold stepP at h
  split
  · rename_i hw; simp only [hw, if_true] at h; exact .inl h
  · rename_i hw; simp only [hw, Bool.false_eq_true, if_false] at h; exact ⟨hS, h⟩
theorem getD_of {l : List Oper} {i : Nat} (h : Nat.blt i l.toArray.size = true) : l.toArray[i]? = some (l.getD i default) := by
  have h' : i < l.length := by simpa [Nat.blt_eq] using h
  simp [List.getD, List.getElem?_eq_getElem h']
theorem wpAnyW_of_plan {l : List Oper} {Q : Exit → Act → World → Prop} (hsel : ∀ (j : Nat) (o : Oper) cs b, l.toArray[j]? = some o → o.op ≠ .select cs b) (hQ : ∀ c a d v w, Q (.panic c) (Act.put a d v) w → Q (.panic c) a w) :
    ∀ (pl : PlanI) (n : Nat) (listed : Array Bool) (a : Act) (w : World), S w → Closed md l.toArray listed → planOk md l.toArray pl n listed = true →
    wpPlan P l.toArray Q S (pl.fill l) a w → wpAnyW P md l.toArray Q S (fun _ => false) n listed a w
  | .done, n, listed, a, w, _, _, hok, h => by
    simp only [planOk, Bool.and_eq_true, beq_iff_eq] at hok
    obtain ⟨rfl, hok⟩ := hok
    exact ⟨hok, h⟩
  | .take i r, n, listed, a, w, hS, hc, hok, h => by
    simp only [planOk, Bool.and_eq_true] at hok
    obtain ⟨⟨⟨⟨hl, hn⟩, hr⟩, hf⟩, hok⟩ := hok
    obtain ⟨v, hy, h⟩ := h
    have hi := getD_of hl
    have hr' : i ∈ Region.ready md l.toArray listed := by simpa using hr
    obtain ⟨m, rfl⟩ : ∃ m, n = m + 1 := ⟨n - 1, by have : 0 < n := by simpa [Nat.blt_eq] using hn
                                                   omega⟩
    rw [Nat.add_sub_cancel] at hok
    exact wpAnyW_first (n := 0) hi hsel (fun c a w => hQ c a _ _ w) (fun j hj => by cases hj) _ listed a w hc (Region.free_spec hi hf) hr' hy hS
      (wpAnyW_of_plan hsel hQ r m _ _ w hS (hc.set hr') hok h)
  | .one i r, n, listed, a, w, hS, hc, hok, h => by
    simp only [planOk, Bool.and_eq_true, beq_iff_eq] at hok
    obtain ⟨⟨⟨hl, hn⟩, hr⟩, hok⟩ := hok
    have hi := getD_of hl
    have hr' : i ∈ Region.ready md l.toArray listed := by rw [hr]; simp
    obtain ⟨m, rfl⟩ : ∃ m, n = m + 1 := ⟨n - 1, by have : 0 < n := by simpa [Nat.blt_eq] using hn
                                                   omega⟩
    rw [Nat.add_sub_cancel] at hok
    refine ⟨fun h0 => (by rw [hr] at h0; cases h0), fun j hj => ?_⟩
    rw [hr] at hj
    cases List.mem_singleton.1 hj
    exact wpOp_of_stepP hi hS (fun a' w' hS' hK => ⟨.inr hS', wpAnyW_of_plan hsel hQ r m _ a' w' hS' (hc.set hr') hok hK⟩) h
  | .two i r j s, n, listed, a, w, hS, hc, hok, h => by
    simp only [planOk, Bool.and_eq_true, beq_iff_eq] at hok
    obtain ⟨⟨⟨⟨⟨hl, hl2⟩, hn⟩, hr⟩, hok⟩, hok2⟩ := hok
    have hi := getD_of hl
    have hj := getD_of hl2
    have hr' : i ∈ Region.ready md l.toArray listed := by rw [hr]; simp
    have hr2 : j ∈ Region.ready md l.toArray listed := by rw [hr]; simp
    obtain ⟨m, rfl⟩ : ∃ m, n = m + 1 := ⟨n - 1, by have : 0 < n := by simpa [Nat.blt_eq] using hn
                                                   omega⟩
    rw [Nat.add_sub_cancel] at hok hok2
    refine ⟨fun h0 => (by rw [hr] at h0; cases h0), fun k hk => ?_⟩
    rw [hr] at hk
    rcases List.mem_cons.1 hk with rfl | hk
    · exact wpOp_of_stepP hi hS (fun a' w' hS' hK => ⟨.inr hS', wpAnyW_of_plan hsel hQ r m _ a' w' hS' (hc.set hr') hok hK⟩) h.1
    · cases List.mem_singleton.1 hk
      exact wpOp_of_stepP hj hS (fun a' w' hS' hK => ⟨.inr hS', wpAnyW_of_plan hsel hQ s m _ a' w' hS' (hc.set hr2) hok2 hK⟩) h.2
theorem wp_region_plan (pl : PlanI) {l : List Oper} {Q : Exit → Act → World → Prop} (S : World → Prop) {id : Nat} {a : Act} {w : World} (hm : P.follows .mixedOrders = true) (hs : Region.noSelect l.toArray = true)
    (hok : planOk .any l.toArray pl l.length (Array.replicate l.length false) = true)
    (hQ : ∀ c a d v w, Q (.panic c) (Act.put a d v) w → Q (.panic c) a w) (hS : S { w with drawn := w.drawn + 1 })
    (h : wpPlan P l.toArray Q S (pl.fill l) a { w with drawn := w.drawn + 1 }) : (Code.region id l.toArray true).wp P Q a w := by
  refine wp_region_any hm (wpAny_of_W (S := S) (W := fun _ => false) _ _ _ _ ?_)
  have := wpAnyW_of_plan (P := P) (md := .any) (S := S) (Q := Q) (Region.noSelect_spec hs) hQ pl l.length (Array.replicate l.length false) a { w with drawn := w.drawn + 1 } hS (Closed.start _) hok h
  simpa using this
variable {Q : Exit → Act → World → Prop} {i j : Nat} {o p : Oper} {r s : Plan} {v : Value} {a : Act} {w : World}
theorem plan_take (hw : Region.wanted o (yielded ops a.tmps) = true) (hv : ∀ w, S w → (execOp a.eval o).run P w = .ok (.value v) w)
    (h : wpPlan P ops Q S r (a.put o.dst v) w) : wpPlan P ops Q S (.take i o r) a w := ⟨v, .inl ⟨hw, hv⟩, h⟩
theorem plan_untaken (hw : Region.wanted o (yielded ops a.tmps) = false) (h : wpPlan P ops Q S r (a.put o.dst undef) w) : wpPlan P ops Q S (.take i o r) a w := ⟨undef, .inr ⟨hw, rfl⟩, h⟩
theorem stepP_on {K : Act → World → Prop} (hw : Region.wanted o (yielded ops a.tmps) = true)
    (h : ∀ K' : Act → World → Prop, Kept (∀ a w, S w → K a w → K' a w) → Oper.wp P o a w K' Q) : stepP P ops Q S o K a w := by
  unfold stepP
  rw [if_pos hw]
  exact h _ (fun _ _ h1 h2 => ⟨h1, h2⟩)
theorem stepP_off {K : Act → World → Prop} (hw : Region.wanted o (yielded ops a.tmps) = false) (h : K (a.put o.dst undef) w) : stepP P ops Q S o K a w := by
  unfold stepP
  rw [if_neg (by simp [hw])]
  exact h
theorem plan_step (hw : Region.wanted o (yielded ops a.tmps) = true)
    (h : ∀ K : Act → World → Prop, Kept (∀ a w, S w → wpPlan P ops Q S r a w → K a w) → Oper.wp P o a w K Q) : wpPlan P ops Q S (.one i o r) a w := stepP_on hw h
theorem plan_not (hw : Region.wanted o (yielded ops a.tmps) = false) (h : wpPlan P ops Q S r (a.put o.dst undef) w) : wpPlan P ops Q S (.one i o r) a w := stepP_off hw h
theorem plan_two (h1 : stepP P ops Q S o (wpPlan P ops Q S r) a w) (h2 : stepP P ops Q S p (wpPlan P ops Q S s) a w) : wpPlan P ops Q S (.two i o r j p s) a w := ⟨h1, h2⟩
theorem plan_done (h : Q .normal a w) : wpPlan P ops Q S .done a w := h
end
end Go.Proofs.YtecknikehieioaaGreat

/-! ### LookX -/
namespace Go.Proofs.YtecknikehieioaaGreat
set_option linter.unusedVariables false
set_option linter.unusedSimpArgs false
open Go.RowKit Go.Maps

theorem results_made {fn : Func} {p : Tmp} (h : fn.results = #[.cell p 40]) (tmps : Array Value) {w : World} {b : Nat} {m : Md} (hp : tmps.getD p undef = .pointer (some ⟨b, 0, none⟩)) (hE : Blk w b (mdCells m) 40) :
    (results fn tmps).run Tryz.prog w = .ok (.agg (mdCells m).toArray) w :=
  results_cell_row h tmps w b 40 _ (0, 0) _ hp hE Tryz.underlying40 rfl (by kernel_rfl)
section
variable {ops : Array Oper} {Q : Exit → Act → World → Prop} {op : Oper} {rest : List Oper} {a : Act} {w : World}
/-- A call's cells, laid over a block of calls. -/
theorem wpList_storeB (hgd : op.guard = none) (x y : Operand) (ho : op.op = .store 40 x y) (g : Nat) (C : List Value) (m : Md) (hb : Blk w g C 40) (hC : C.length = 16) (hx : a.eval x = .pointer (some ⟨g, 0, none⟩)) (hy : a.eval y = .agg (mdCells m).toArray)
    (h : wpList Tryz.prog ops Q rest (a.put op.dst undef) (w.setRow g (mdCells m).toArray)) : wpList Tryz.prog ops Q (op :: rest) a w :=
  wpList_store_row hgd 40 x y ho g (mdCells m).toArray hx hy 40 C.toArray hb (by kernel_rfl) (by rw [List.size_toArray, hC]; rfl) (by simp [mdCells, Value.oneCell']) h
end
section
variable {ops : Array Oper} {Q : Exit → Act → World → Prop} {o : Oper} {rest : List Oper} {a : Act} {w : World}
theorem info_made0 : ∃ ie z, Tryz.prog.info? 40 = some ie ∧ ie.zero = some z ∧ ie.size = 16 ∧ z.cells = #[.int .u64 0, .int .i64 0, .int .i64 0, .int .u64 0, .string ⟨#[]⟩, .string ⟨#[]⟩, .string ⟨#[]⟩, .bool false, .int .u64 0, .int .i64 0, .int .i64 0, .bool false, .string ⟨#[]⟩, .slice none 0 0, .int .i64 0, .int .i64 0] := by
  have h : (Tryz.prog.info? 40).map (fun i => (i.zero, i.size)) = some (some (.agg #[.int .u64 0, .int .i64 0, .int .i64 0, .int .u64 0, .string ⟨#[]⟩, .string ⟨#[]⟩, .string ⟨#[]⟩, .bool false, .int .u64 0, .int .i64 0, .int .i64 0, .bool false, .string ⟨#[]⟩, .slice none 0 0, .int .i64 0, .int .i64 0]), 16) := by kernel_rfl
  obtain ⟨i, hi, hzz⟩ := Option.map_eq_some_iff.1 h
  simp only [Prod.mk.injEq] at hzz
  exact ⟨i, _, hi, hzz.1, hzz.2, rfl⟩
/-- An operation that is wanted, without its guard. -/
theorem wpList_free (hw : Region.wanted o (yielded ops a.tmps) = true) (h : wpList Tryz.prog ops Q ({ o with guard := none } :: rest) a w) : wpList Tryz.prog ops Q (o :: rest) a w := by
  unfold wpList at h ⊢
  rw [if_pos hw]
  rw [if_pos (by simp [Region.wanted])] at h
  cases o
  exact h
theorem exec_load (ty : TypeId) (x : Operand) (ho : o.op = .load ty x) (p : Value) (hx : a.eval x = p) {v : Value} (hr : (Instr.loadAt ty p).run Tryz.prog w = .ok v w) : (execOp a.eval o).run Tryz.prog w = .ok (.value v) w := by
  unfold execOp
  simp only [ho, hx, Sem.run_bind, hr, Result.andThen_ok, Sem.run_pure]
theorem wp_buildM1 {K : Act → World → Prop} (x0 : Operand) (ho : o.op = .buildSlice 22 1 #[(0, x0)]) (m0 : Md)
    (h0 : a.eval x0 = .agg (mdCells m0).toArray)
    (h : K (a.put o.dst (.slice (some ⟨w.heap.size, 0, none⟩) 1 1)) (w.alloc (.cells (mdsCells [m0]).toArray 40))) : Oper.wp Tryz.prog o a w K Q := by
  obtain ⟨ie, z, hie, hz, hs, hzc⟩ := info_made0
  refine wp_buildSlice 22 40 1 _ ho (mdsCells [m0]).toArray ie z Tryz.underlying22 hie hz (by rw [hs]; decide) (by rw [hs]; decide) ?_ h
  rw [hs, hzc]
  have e : (Array.map (fun x : Nat × Operand => (x.1, a.eval x.2)) #[(0, x0)]).toList = [(0, .agg (mdCells m0).toArray)] := by
    simp [h0]
  refine Eq.trans (congrArg _ e) ?_
  kernel_rfl
theorem wpList_buildM1 (hg : o.guard = none) (x0 : Operand) (ho : o.op = .buildSlice 22 1 #[(0, x0)]) (m0 : Md)
    (h0 : a.eval x0 = .agg (mdCells m0).toArray)
    (h : wpList Tryz.prog ops Q rest (a.put o.dst (.slice (some ⟨w.heap.size, 0, none⟩) 1 1)) (w.alloc (.cells (mdsCells [m0]).toArray 40))) : wpList Tryz.prog ops Q (o :: rest) a w :=
  wpList_plain hg fun _ hK => wp_buildM1 x0 ho m0 h0 (hK _ _ h)
theorem wp_buildM2 {K : Act → World → Prop} (x0 x1 : Operand) (ho : o.op = .buildSlice 22 2 #[(0, x0), (1, x1)]) (m0 m1 : Md)
    (h0 : a.eval x0 = .agg (mdCells m0).toArray) (h1 : a.eval x1 = .agg (mdCells m1).toArray)
    (h : K (a.put o.dst (.slice (some ⟨w.heap.size, 0, none⟩) 2 2)) (w.alloc (.cells (mdsCells [m0, m1]).toArray 40))) : Oper.wp Tryz.prog o a w K Q := by
  obtain ⟨ie, z, hie, hz, hs, hzc⟩ := info_made0
  refine wp_buildSlice 22 40 2 _ ho (mdsCells [m0, m1]).toArray ie z Tryz.underlying22 hie hz (by rw [hs]; decide) (by rw [hs]; decide) ?_ h
  rw [hs, hzc]
  have e : (Array.map (fun x : Nat × Operand => (x.1, a.eval x.2)) #[(0, x0), (1, x1)]).toList = [(0, .agg (mdCells m0).toArray), (1, .agg (mdCells m1).toArray)] := by
    simp [h0, h1]
  refine Eq.trans (congrArg _ e) ?_
  kernel_rfl
theorem wpList_buildM2 (hg : o.guard = none) (x0 x1 : Operand) (ho : o.op = .buildSlice 22 2 #[(0, x0), (1, x1)]) (m0 m1 : Md)
    (h0 : a.eval x0 = .agg (mdCells m0).toArray) (h1 : a.eval x1 = .agg (mdCells m1).toArray)
    (h : wpList Tryz.prog ops Q rest (a.put o.dst (.slice (some ⟨w.heap.size, 0, none⟩) 2 2)) (w.alloc (.cells (mdsCells [m0, m1]).toArray 40))) : wpList Tryz.prog ops Q (o :: rest) a w :=
  wpList_plain hg fun _ hK => wp_buildM2 x0 x1 ho m0 m1 h0 h1 (hK _ _ h)
end
theorem results_entry {fn : Func} {p : Tmp} (h : fn.results = #[.cell p 43]) (tmps : Array Value) {w : World} {b : Nat} {e : Ent} (hp : tmps.getD p undef = .pointer (some ⟨b, 0, none⟩)) (hE : Blk w b (entCells e) 43) :
    (results fn tmps).run Tryz.prog w = .ok (.agg (entCells e).toArray) w :=
  results_cell_row h tmps w b 43 _ (0, 0) _ hp hE Tryz.underlying43 rfl (by kernel_rfl)
theorem EntsAt.nil (w : World) : EntsAt w none 0 0 [] := ⟨rfl, RowsAt.nil _ _, by simp⟩
theorem MadeAt.nil (w : World) : MadeAt w none 0 0 [] := ⟨rfl, RowsAt.nil _ _, by simp⟩
theorem madeAt_of {w : World} {xb : Nat} {Q : List MZ} (hX : Blk w xb (mdsCells (Q.map (·.1))) 40) (hQ : ∀ q ∈ Q, MdIs w q) (n : Nat) (hn : n = Q.length) (hm : n ≤ 1000000) : MadeAt w (some ⟨xb, 0, none⟩) n n Q :=
  ⟨hn.symm, RowsAt.of_blk (rest := []) (by rw [List.append_nil]; exact hX) (by rw [mds_length, List.length_map, hn]) (Nat.le_refl _) (by omega), hQ⟩
theorem entsAt_of {w : World} {xb : Nat} {Q : List EZ} (hX : Blk w xb (entsCells (Q.map (·.1))) 43) (hQ : ∀ q ∈ Q, EntIs w q.1 q.2) (n : Nat) (hn : n = Q.length) (hm : n ≤ 1000000) : EntsAt w (some ⟨xb, 0, none⟩) n n Q :=
  ⟨hn.symm, RowsAt.of_blk (rest := []) (by rw [List.append_nil]; exact hX) (by rw [ents_length, List.length_map, hn]) (Nat.le_refl _) (by omega), hQ⟩
theorem recsAt_of {w : World} {xb : Nat} {Q : List Rec} (hX : Blk w xb (recsCells Q) 49) (n : Nat) (hn : n = Q.length) (hm : n ≤ 1000000) : RowsAt w (some ⟨xb, 0, none⟩) n n 4 (recsCells Q) :=
  RowsAt.of_blk (rest := []) (by rw [List.append_nil]; exact hX) (by rw [recs_length, hn]) (Nat.le_refl _) (by omega)
theorem numsAt_of {w : World} {xb : Nat} {Q : List Nat} (hX : Blk w xb (u64s Q) 32) (n : Nat) (hn : n = Q.length) (hm : n ≤ 1000000) : RowsAt w (some ⟨xb, 0, none⟩) n n 1 (u64s Q) :=
  RowsAt.of_blk (rest := []) (by rw [List.append_nil]; exact hX) (by unfold u64s; rw [List.length_map, hn]; omega) (Nat.le_refl _) (by omega)
def smallQ (q : MZ) : Bool := decide (q.1.pn ≤ 1000) && (decide (0 ≤ q.1.kind) && decide (q.1.kind ≤ 10))
theorem smallQ_ok {zm : List MZ} (h : zm.all smallQ = true) : MadeOk zm := by
  have hq : ∀ q ∈ zm, q.1.pn ≤ 1000 ∧ 0 ≤ q.1.kind ∧ q.1.kind ≤ 10 := fun q hq => by
    have := List.all_eq_true.1 h q hq
    unfold smallQ at this
    simp only [Bool.and_eq_true, decide_eq_true_eq] at this
    exact this
  exact ⟨fun q h => by have := hq q h; omega, fun q h => by have := hq q h; omega⟩
theorem serialK (w : World) (a : Option Addr) (n c : Nat) (z : List EZ) (h : EntsAt w a n c z) (hn : n ≤ 12) (hops : z.all (fun q => decide (q.2.ops.length ≤ 1000)) = true)
    (am : Option Addr) (nm cm : Nat) (zm : List MZ) (hm : MadeAt w am nm cm zm) (hnm : nm ≤ 12) (hk : zm.all smallQ = true) (v : Int) (hv : serialL zm z [] (commL (z.map (·.1.ts)) zm) = v) :
    Calls Tryz.prog 26 #[.slice a n c, .slice am nm cm] w fun e w' => e = .returned (.int .i64 v) ∧ Below w.heap.size w w' := by
  have hl := hm.len
  rw [← hv]
  exact serial_any w a n c z h (by omega) (fun q hq => by have := List.all_eq_true.1 hops q hq; simpa using this) am nm cm zm hm (by omega) (smallQ_ok hk)
    (by have := commL_le (z.map (·.1.ts)) zm; unfold BoundU; omega) (fun ts => by have := indsP_le ts zm zm.length; unfold BoundC; exact Nat.lt_of_le_of_lt this (by omega))
theorem orderK (w : World) (am : Option Addr) (nm cm : Nat) (zm : List MZ) (hm : MadeAt w am nm cm zm) (hnm : nm ≤ 12) (v : Int) (hv : orderL zm = v) :
    Calls Tryz.prog 28 #[.slice am nm cm] w fun e w' => e = .returned (.int .i64 v) ∧ Below w.heap.size w w' := by
  rw [← hv]
  exact order_any w am nm cm zm hm (by omega)
def mk28 (ts : Nat) (n kind : Int) (key val : Txt) : Md := ⟨ts, n, kind, ts, key, [], val, true, ts, n, 0, false, [], none, 0, 0, 0, 0⟩
def open28 : Md := ⟨5, 0, 5, 5, [], [], [], false, 0, 0, 0, false, [], none, 0, 0, 0, 0⟩
set_option maxRecDepth 100000 in
set_option maxHeartbeats 4000000 in
theorem call28_any (ts : Nat) (n kind : Int) (key val : Txt) (w : World) :
    Calls Tryz.prog 23 #[.int .u64 (ts : Nat), .int .i64 n, .int .i64 kind, .string ⟨key.toArray⟩, .string ⟨val.toArray⟩] w fun e w' => e = .returned (.agg (mdCells (mk28 ts n kind key val)).toArray) ∧ Below w.heap.size w w' := by
  have HB := Lib.hid ((Below.refl w.heap.size w).alloc (Nat.le_refl _) (.cells (mdCells (mk28 ts n kind key val)).toArray 40))
  have HBk := Lib.hid (Blk.new w (mdCells (mk28 ts n kind key val)) 40)
  go_enter Tryz.func23, Tryz.ntmps23
  go_wp2_with ((with_reducible refine wpList_storeM rfl _ _ rfl _ (mk28 ts n kind key val) ?_ ?_ ?_); rfl; rfl)
  exact bodyPost_ret (results_made rfl _ rfl HBk.out) rfl ⟨rfl, HB.out⟩
def mkE28 (ts lsn : Nat) (key val : Txt) : Entry := ⟨ts, lsn, [⟨key, lsn, false, val⟩]⟩
def Entry28End (x : Entry) (w : World) (e : Ending) (w' : World) : Prop := ∃ (a : Option Addr) (n c : Nat), e = .returned (.agg #[.int .u64 (x.ts : Nat), .int .u64 (x.first : Nat), .slice a n c]) ∧ EntIs w' ⟨x.ts, x.first, a, n, c⟩ x ∧ (∀ g o, a = some ⟨g, o, none⟩ → w.heap.size ≤ g) ∧ Below w.heap.size w w'
set_option maxRecDepth 100000 in
set_option maxHeartbeats 4000000 in
theorem entry28_any (ts lsn : Nat) (key val : Txt) (hts : ts < 18446744073709551616) (hlsn : lsn < 18446744073709551616) (hk : key.length ≤ maxLen) (hv : val.length ≤ maxLen) (w : World) :
    Calls Tryz.prog 24 #[.int .u64 (ts : Nat), .int .u64 (lsn : Nat), .string ⟨key.toArray⟩, .string ⟨val.toArray⟩] w (Entry28End (mkE28 ts lsn key val) w) := by
  have hok : (mkE28 ts lsn key val).ok := ⟨hts, hlsn, fun r hr => by simp [mkE28] at hr; subst hr; exact ⟨hk, hv, hlsn⟩⟩
  go_enter Tryz.func24, Tryz.ntmps24
  go_wp2_with fail
  have hb0 := (Below.refl w.heap.size w).alloc (Nat.le_refl _) (.cells (entCells ⟨ts, lsn, some ⟨w.heap.size + 1, 0, none⟩, 1, 1⟩).toArray 43)
  have hE : Blk ((w.alloc (.cells (entCells ⟨ts, lsn, some ⟨w.heap.size + 1, 0, none⟩, 1, 1⟩).toArray 43)).alloc (.cells (recCells ⟨key, lsn, false, val⟩).toArray 49)) w.heap.size (entCells ⟨ts, lsn, some ⟨w.heap.size + 1, 0, none⟩, 1, 1⟩) 43 := (Blk.new w _ _).alloc _
  have hR : Blk ((w.alloc (.cells (entCells ⟨ts, lsn, some ⟨w.heap.size + 1, 0, none⟩, 1, 1⟩).toArray 43)).alloc (.cells (recCells ⟨key, lsn, false, val⟩).toArray 49)) (w.heap.size + 1) (recCells ⟨key, lsn, false, val⟩) 49 := by
    have := Blk.new (w.alloc (.cells (entCells ⟨ts, lsn, some ⟨w.heap.size + 1, 0, none⟩, 1, 1⟩).toArray 43)) (recCells ⟨key, lsn, false, val⟩) 49
    rw [World.size_alloc] at this
    exact this
  refine bodyPost_ret (results_entry rfl _ rfl hE) rfl ⟨_, _, _, rfl, ⟨rfl, rfl, rfl, ?_, hok⟩, (fun g o e => by cases e; omega), hb0.alloc hb0.size _⟩
  have hR2 : Blk ((w.alloc (.cells (entCells ⟨ts, lsn, some ⟨w.heap.size + 1, 0, none⟩, 1, 1⟩).toArray 43)).alloc (.cells (recCells ⟨key, lsn, false, val⟩).toArray 49)) (w.heap.size + 1) (recsCells [⟨key, lsn, false, val⟩] ++ []) 49 := by simpa [recsCells] using hR
  exact RowsAt.of_blk (n := 1) hR2 rfl (Nat.le_refl _) (by omega)
theorem results_seen {fn : Func} {p : Tmp} (h : fn.results = #[.cell p 47]) (tmps : Array Value) {w : World} {b : Nat} {s : Sn} (hp : tmps.getD p undef = .pointer (some ⟨b, 0, none⟩)) (hE : Blk w b (snCells s) 47) :
    (results fn tmps).run Tryz.prog w = .ok (.agg (snCells s).toArray) w :=
  results_cell_row h tmps w b 47 _ (0, 0) _ hp hE Tryz.underlying47 rfl (by kernel_rfl)
def seen28 (a : Option Addr) (n c : Nat) : Sn := ⟨true, true, false, true, 0, 3, 3, 2, 1, a, n, c, none, 0, 0, 0⟩
set_option maxRecDepth 100000 in
set_option maxHeartbeats 4000000 in
theorem seen28_any (a : Option Addr) (n c : Nat) (w : World) :
    Calls Tryz.prog 25 #[.slice a n c] w fun e w' => e = .returned (.agg (snCells (seen28 a n c)).toArray) ∧ Below w.heap.size w w' := by
  have HB := Lib.hid ((Below.refl w.heap.size w).alloc (Nat.le_refl _) (.cells (snCells (seen28 a n c)).toArray 47))
  have HBk := Lib.hid (Blk.new w (snCells (seen28 a n c)) 47)
  go_enter Tryz.func25, Tryz.ntmps25
  go_wp2_with fail
  exact bodyPost_ret (results_seen rfl _ rfl HBk.out) rfl ⟨rfl, HB.out⟩
end Go.Proofs.YtecknikehieioaaGreat

/-! ### LookY -/
namespace Go.Proofs.YtecknikehieioaaGreat
set_option linter.unusedVariables false
set_option linter.unusedSimpArgs false
open Go.RowKit Go.Maps

theorem keptK (w : World) (am : Option Addr) (nm cm : Nat) (zm : List MZ) (hm : MadeAt w am nm cm zm) (hnm : nm ≤ 100000) (a : Option Addr) (n c : Nat) (z : List EZ) (h : EntsAt w a n c z) (hn : n ≤ 100000) (hops : z.all (fun q => decide (q.2.ops.length ≤ 1000)) = true) (v : Int) (hv : keptL zm (z.map (·.2)) = v) :
    Calls Tryz.prog 13 #[.slice am nm cm, .slice a n c] w fun e w' => e = .returned (.int .i64 v) ∧ Below w.heap.size w w' :=
  (kept_any w am nm cm zm hm hnm a n c z h hn (fun q hq => by have := of_decide_eq_true (List.all_eq_true.1 hops q hq); omega)).mono fun e w' h => ⟨by rw [← hv]; exact h.1, h.2⟩
theorem treeK (w : World) (s : Sn) (N : List Rec) (hN : RowsAt w s.ca s.cn s.cc 4 (recsCells N)) (eN : s.cn = N.length) (bN : s.cn ≤ 100000) (oN : ∀ r ∈ N, r.ok) (a : Option Addr) (n c : Nat) (z : List EZ) (h : EntsAt w a n c z) (hn : n ≤ 1000) (hops : z.all (fun q => decide (q.2.ops.length ≤ 1000)) = true) (v : Int) (hv : treeL (s.dcUp && s.sync) s.last s.stable s.low N (opsOf (z.map (·.2))) = v) :
    Calls Tryz.prog 17 #[.agg (snCells s).toArray, .slice a n c] w fun e w' => e = .returned (.int .i64 v) ∧ Below w.heap.size w w' :=
  (tree_any w s N hN eN bN oN a n c z h hn (fun q hq => of_decide_eq_true (List.all_eq_true.1 hops q hq))).mono fun e w' h => ⟨by rw [← hv]; exact h.1, h.2⟩
theorem boundsK (w : World) (s : Sn) (T : List Nat) (hT : RowsAt w s.aa s.an s.ac 1 (u64s T)) (hl : T.length = s.an) (b : Bool) (hv : boundsL s T = b) :
    Calls Tryz.prog 19 #[.agg (snCells s).toArray] w fun e w' => e = .returned (.bool b) ∧ Below w.heap.size w w' :=
  (bounds_any w s T hT hl).mono fun e w' h => ⟨by rw [← hv]; exact h.1, h.2⟩
theorem lserial_any (w : World) (am : Option Addr) (nm cm : Nat) (a : Option Addr) (n c : Nat) (v : Int) (h : Calls Tryz.prog 26 #[.slice a n c, .slice am nm cm] w fun e w' => e = .returned (.int .i64 v) ∧ Below w.heap.size w w') :
    Calls Tryz.prog 9 #[.slice am nm cm, .slice a n c] w fun e w' => e = .returned (.int .i64 v) ∧ Below w.heap.size w w' := by
  have H := Lib.hid h
  clear h
  go_enter Tryz.func9, Tryz.ntmps9
  go_wp2_with fail
  refine H.out.mono ?_
  rintro e w1 ⟨rfl, hb⟩
  have HB := Lib.hid hb
  clear hb
  go_wp2_with fail
  go_ret
  exact ⟨by try rfl, HB.out⟩
theorem lorder_any (w : World) (am : Option Addr) (nm cm : Nat) (v : Int) (h : Calls Tryz.prog 28 #[.slice am nm cm] w fun e w' => e = .returned (.int .i64 v) ∧ Below w.heap.size w w') :
    Calls Tryz.prog 11 #[.slice am nm cm] w fun e w' => e = .returned (.int .i64 v) ∧ Below w.heap.size w w' := by
  have H := Lib.hid h
  clear h
  go_enter Tryz.func11, Tryz.ntmps11
  go_wp2_with fail
  refine H.out.mono ?_
  rintro e w1 ⟨rfl, hb⟩
  have HB := Lib.hid hb
  clear hb
  go_wp2_with fail
  go_ret
  exact ⟨by try rfl, HB.out⟩
set_option maxRecDepth 100000 in
set_option maxHeartbeats 16000000 in
theorem works28_any (w : World) : Calls Tryz.prog 15 #[] w fun e w' => e = .returned (.bool true) ∧ Below w.heap.size w w' := by
  have HC := Lib.hid (fun ts n kind key val w' => call28_any ts n kind key val w')
  have HE1 := Lib.hid (show ∀ w', Calls Tryz.prog 24 #[.int .u64 5, .int .u64 1, .string ⟨#[97]⟩, .string ⟨#[120]⟩] w' fun e w'' => ∃ (a : Option Addr) (n c : Nat), e = .returned (.agg #[.int .u64 5, .int .u64 1, .slice a n c]) ∧ EntIs w'' ⟨5, 1, a, n, c⟩ (mkE28 5 1 [97] [120]) ∧ (∀ g o, a = some ⟨g, o, none⟩ → w'.heap.size ≤ g) ∧ Below w'.heap.size w' w'' from fun w' => entry28_any 5 1 [97] [120] (by omega) (by omega) (by decide) (by decide) w')
  have HE2 := Lib.hid (show ∀ w', Calls Tryz.prog 24 #[.int .u64 5, .int .u64 2, .string ⟨#[97]⟩, .string ⟨#[120]⟩] w' fun e w'' => ∃ (a : Option Addr) (n c : Nat), e = .returned (.agg #[.int .u64 5, .int .u64 2, .slice a n c]) ∧ EntIs w'' ⟨5, 2, a, n, c⟩ (mkE28 5 2 [97] [120]) ∧ (∀ g o, a = some ⟨g, o, none⟩ → w'.heap.size ≤ g) ∧ Below w'.heap.size w' w'' from fun w' => entry28_any 5 2 [97] [120] (by omega) (by omega) (by decide) (by decide) w')
  go_enter Tryz.func15, Tryz.ntmps15
  go_wp2_with fail
  refine (HC.out 5 1 3 [97] [120] _).mono ?_
  rintro e w1 ⟨rfl, hb1⟩
  have HB1 := Lib.hid hb1
  clear hb1
  go_wp2_with fail
  refine (HC.out 5 2 5 [] [] _).mono ?_
  rintro e w2 ⟨rfl, hb2⟩
  have HB2 := Lib.hid (HB1.out.trans (hb2.mono HB1.out.size))
  clear hb2 HB1
  go_upto_region 2 with ((with_reducible refine wpList_buildM2 rfl _ _ rfl (mk28 5 1 3 [97] [120]) (mk28 5 2 5 [] []) ?_ ?_ ?_); rfl; rfl)
  have hX := Blk.new w2 (mdsCells [(mk28 5 1 3 [97] [120]), (mk28 5 2 5 [] [])]) 40
  have hbX := (Below.refl w2.heap.size w2).alloc (Nat.le_refl _) (.cells (mdsCells [(mk28 5 1 3 [97] [120]), (mk28 5 2 5 [] [])]).toArray 40)
  obtain ⟨xb, hxb⟩ : ∃ x, w2.heap.size = x := ⟨_, rfl⟩
  have HB3 := Lib.hid (HB2.out.trans (hbX.mono HB2.out.size))
  rw [hxb] at hX ⊢
  generalize w2.alloc (.cells (mdsCells [(mk28 5 1 3 [97] [120]), (mk28 5 2 5 [] [])]).toArray 40) = w3 at *
  have HX3 := Lib.hid hX
  clear hX hbX hxb HB2
  go_upto_region 3 with ((with_reducible refine wpList_buildM1 rfl _ rfl open28 ?_ ?_); rfl)
  have hY := Blk.new w3 (mdsCells [open28]) 40
  have hbY := (Below.refl w3.heap.size w3).alloc (Nat.le_refl _) (.cells (mdsCells [open28]).toArray 40)
  obtain ⟨yb, hyb⟩ : ∃ x, w3.heap.size = x := ⟨_, rfl⟩
  have HB4 := Lib.hid (HB3.out.trans (hbY.mono HB3.out.size))
  have HX4 := Lib.hid (HX3.out.on hbY)
  rw [hyb] at hY ⊢
  generalize w3.alloc (.cells (mdsCells [open28]).toArray 40) = w4 at *
  have HY4 := Lib.hid hY
  clear hY hbY hyb HB3 HX3
  go_wp2_with fail
  refine (HE1.out _).mono ?_
  rintro e w5 ⟨a1, n1, c1, rfl, he1, ho1, hb5⟩
  have HX5 := Lib.hid (HX4.out.on hb5)
  have HY5 := Lib.hid (HY4.out.on hb5)
  have HB5 := Lib.hid (HB4.out.trans (hb5.mono HB4.out.size))
  have HI5 := Lib.hid he1
  clear he1 ho1 hb5 HX4 HY4 HB4
  go_upto_region 4 with fail
  have hL : Blk (w5.alloc (.cells #[.int .u64 5, .int .u64 1, .slice a1 n1 c1] 43)) w5.heap.size (entCells ⟨5, 1, a1, n1, c1⟩) 43 := Blk.new w5 (entCells ⟨5, 1, a1, n1, c1⟩) 43
  have hbL := (Below.refl w5.heap.size w5).alloc (Nat.le_refl _) (.cells #[.int .u64 5, .int .u64 1, .slice a1 n1 c1] 43)
  obtain ⟨lb, hlb⟩ : ∃ x, w5.heap.size = x := ⟨_, rfl⟩
  have HB6 := Lib.hid (HB5.out.trans (hbL.mono HB5.out.size))
  have HX6 := Lib.hid (HX5.out.on hbL)
  have HY6 := Lib.hid (HY5.out.on hbL)
  have HI6 := Lib.hid (HI5.out.on hbL)
  rw [hlb] at hL
  simp only [hlb]
  generalize w5.alloc (.cells #[.int .u64 5, .int .u64 1, .slice a1 n1 c1] 43) = w6 at *
  have HL6 := Lib.hid hL
  clear hL hbL hlb HB5 HX5 HY5 HI5
  go_upto_region 5 with fail
  have hS : Blk (w6.alloc (.cells #[.bool true, .bool true, .bool false, .bool false, .int .u64 1, .int .u64 2, .int .u64 3, .int .u64 2, .int .u64 1, .slice none 0 0, .slice none 0 0, .int .i64 0] 47)) w6.heap.size (snCells ⟨true, true, false, false, 1, 2, 3, 2, 1, none, 0, 0, none, 0, 0, 0⟩) 47 := Blk.new w6 (snCells ⟨true, true, false, false, 1, 2, 3, 2, 1, none, 0, 0, none, 0, 0, 0⟩) 47
  have hbS := (Below.refl w6.heap.size w6).alloc (Nat.le_refl _) (.cells #[.bool true, .bool true, .bool false, .bool false, .int .u64 1, .int .u64 2, .int .u64 3, .int .u64 2, .int .u64 1, .slice none 0 0, .slice none 0 0, .int .i64 0] 47)
  obtain ⟨bb, hbb⟩ : ∃ x, w6.heap.size = x := ⟨_, rfl⟩
  rw [hbb] at hS
  have HB7 := Lib.hid (HB6.out.trans (hbS.mono HB6.out.size))
  have HX7 := Lib.hid (HX6.out.on hbS)
  have HY7 := Lib.hid (HY6.out.on hbS)
  have HI7 := Lib.hid (HI6.out.on hbS)
  have HL7 := Lib.hid (HL6.out.on hbS)
  simp only [hbb]
  generalize w6.alloc (.cells #[.bool true, .bool true, .bool false, .bool false, .int .u64 1, .int .u64 2, .int .u64 3, .int .u64 2, .int .u64 1, .slice none 0 0, .slice none 0 0, .int .i64 0] 47) = w7 at *
  have HS7 := Lib.hid (show SnAt w7 bb ⟨true, true, false, false, 1, 2, 3, 2, 1, none, 0, 0, none, 0, 0, 0⟩ from ⟨hS⟩)
  clear hS hbS hbb HB6 HX6 HY6 HI6 HL6
  obtain ⟨s0, s1, s2, s3, s4, s5, s6, s7, s8, s9, s10, s11⟩ := HS7.out.cells
  simp only at s0 s1 s2 s3 s4 s5 s6 s7 s8 s9 s10 s11
  go_upto_region 6 with fail
  clear s0 s1 s2 s3 s4 s5 s6 s7 s8 s9 s10 s11
  have hS := HS7.out.blk
  have hC0 : Blk (w7.alloc (.cells #[.bool true, .bool true, .bool false, .bool false, .int .u64 1, .int .u64 2, .int .u64 3, .int .u64 2, .int .u64 1, .slice none 0 0, .slice none 0 0, .int .i64 0] 47)) w7.heap.size (snCells ⟨true, true, false, false, 1, 2, 3, 2, 1, none, 0, 0, none, 0, 0, 0⟩) 47 := Blk.new w7 (snCells ⟨true, true, false, false, 1, 2, 3, 2, 1, none, 0, 0, none, 0, 0, 0⟩) 47
  have hbC := (Below.refl w7.heap.size w7).alloc (Nat.le_refl _) (.cells #[.bool true, .bool true, .bool false, .bool false, .int .u64 1, .int .u64 2, .int .u64 3, .int .u64 2, .int .u64 1, .slice none 0 0, .slice none 0 0, .int .i64 0] 47)
  obtain ⟨cb, hcb⟩ : ∃ x, w7.heap.size = x := ⟨_, rfl⟩
  rw [hcb] at hC0
  have HB8 := Lib.hid (HB7.out.trans (hbC.mono HB7.out.size))
  have HX8 := Lib.hid (HX7.out.on hbC)
  have HY8 := Lib.hid (HY7.out.on hbC)
  have HI8 := Lib.hid (HI7.out.on hbC)
  have HL8 := Lib.hid (HL7.out.on hbC)
  have HS8 := Lib.hid (HS7.out.on hbC)
  simp only [hcb]
  have HN := Lib.hid (show w.heap.size ≤ cb ∧ xb < cb ∧ yb < cb ∧ lb < cb ∧ bb < cb ∧ (∀ g o, a1 = some ⟨g, o, none⟩ → g < cb) from ⟨by rw [← hcb]; exact HB7.out.size, by rw [← hcb]; exact HX7.out.lt, by rw [← hcb]; exact HY7.out.lt, by rw [← hcb]; exact HL7.out.lt, by rw [← hcb]; exact HS7.out.blk.lt, fun g o e => by
    obtain ⟨g', o', e', hg, _⟩ := HI7.out.rows.at_ (by rw [HI7.out.n]; decide)
    rw [e] at e'
    cases e'
    rw [← hcb]
    exact hg⟩)
  generalize w7.alloc (.cells #[.bool true, .bool true, .bool false, .bool false, .int .u64 1, .int .u64 2, .int .u64 3, .int .u64 2, .int .u64 1, .slice none 0 0, .slice none 0 0, .int .i64 0] 47) = w8 at *
  have f7 := hC0.free 7
  have g7 : w8.cell? ⟨cb, 7, none⟩ = some (.int .u64 2) := by rw [hC0.cell]; rfl
  have hC1 := hC0.set 7 (.int .u64 3)
  have hmC : Mod [cb] w8 (w8.setCell ⟨cb, 7, none⟩ (.int .u64 3)) := (Mod.refl _ _).setCell _ _ (.inl (by simp))
  have HC9 := Lib.hid (show SnAt (w8.setCell ⟨cb, 7, none⟩ (.int .u64 3)) cb ⟨true, true, false, false, 1, 2, 3, 3, 1, none, 0, 0, none, 0, 0, 0⟩ from ⟨hC1⟩)
  have hnn := HN.out
  have HB9 := Lib.hid (HB8.out.trans (hmC.below (fun x hx => by simp at hx; omega) HB8.out.size))
  have HX9 := Lib.hid (HX8.out.mod hmC (by simp only [List.mem_singleton]; omega))
  have HY9 := Lib.hid (HY8.out.mod hmC (by simp only [List.mem_singleton]; omega))
  have HL9 := Lib.hid (HL8.out.mod hmC (by simp only [List.mem_singleton]; omega))
  have HS9 := Lib.hid (HS8.out.mod hmC (by simp only [List.mem_singleton]; omega))
  have HI9 := Lib.hid (HI8.out.mod hmC (fun g o e => by have := hnn.2.2.2.2.2 g o e; simp only [List.mem_singleton]; omega))
  clear hC0 hC1 hmC hbC hcb HB7 HX7 HY7 HI7 HL7 HS7 HB8 HX8 HY8 HI8 HL8 HS8 hS hnn HN
  go_upto_region 7 with fail
  clear f7 g7
  generalize w8.setCell ⟨cb, 7, none⟩ (.int .u64 3) = w9 at *
  have HZ := Lib.hid (show ∀ w', Below w9.heap.size w9 w' → MadeAt w' (some ⟨xb, 0, none⟩) 2 2 [((mk28 5 1 3 [97] [120]), []), ((mk28 5 2 5 [] []), [])] ∧ MadeAt w' (some ⟨yb, 0, none⟩) 1 1 [(open28, [])] ∧ EntsAt w' (some ⟨lb, 0, none⟩) 1 1 [((⟨5, 1, a1, n1, c1⟩ : Ent), mkE28 5 1 [97] [120])] ∧ SnAt w' bb ⟨true, true, false, false, 1, 2, 3, 2, 1, none, 0, 0, none, 0, 0, 0⟩ ∧ SnAt w' cb ⟨true, true, false, false, 1, 2, 3, 3, 1, none, 0, 0, none, 0, 0, 0⟩ from fun w' hb => by
    refine ⟨madeAt_of (Q := [((mk28 5 1 3 [97] [120]), []), ((mk28 5 2 5 [] []), [])]) (HX9.out.on hb) (fun q hq => ?_) 2 rfl (by omega), madeAt_of (Q := [(open28, [])]) (HY9.out.on hb) (fun q hq => ?_) 1 rfl (by omega), entsAt_of (Q := [((⟨5, 1, a1, n1, c1⟩ : Ent), mkE28 5 1 [97] [120])]) (by simpa [entsCells] using HL9.out.on hb) (fun q hq => ?_) 1 rfl (by omega), HS9.out.on hb, HC9.out.on hb⟩
    · simp only [List.mem_cons, List.not_mem_nil, or_false] at hq
      rcases hq with rfl | rfl
      · exact ⟨rfl, RowsAt.nil _ _, by show 5 < 18446744073709551616; omega, by decide⟩
      · exact ⟨rfl, RowsAt.nil _ _, by show 5 < 18446744073709551616; omega, by decide⟩
    · simp only [List.mem_cons, List.not_mem_nil, or_false] at hq
      subst hq
      exact ⟨rfl, RowsAt.nil _ _, by show 5 < 18446744073709551616; omega, by decide⟩
    · simp only [List.mem_cons, List.not_mem_nil, or_false] at hq
      subst hq
      exact HI9.out.on hb)
  have HR9 := Lib.hid (Below.refl w9.heap.size w9)
  clear HX9 HY9 HL9 HS9 HC9 HI9
  have HK := Lib.hid (keptK w9 (some ⟨xb, 0, none⟩) 2 2 [((mk28 5 1 3 [97] [120]), []), ((mk28 5 2 5 [] []), [])] (HZ.out w9 HR9.out).1 (by omega) none 0 0 [] (EntsAt.nil _) (by omega) rfl 1 (by kernel_rfl))
  go_wp2_with fail
  refine HK.out.mono ?_
  rintro e w10 ⟨rfl, hb⟩
  have HR10 := Lib.hid (HR9.out.trans (hb.mono HR9.out.size))
  clear hb HK
  have HK := Lib.hid (keptK w10 (some ⟨xb, 0, none⟩) 2 2 [((mk28 5 1 3 [97] [120]), []), ((mk28 5 2 5 [] []), [])] (HZ.out w10 HR10.out).1 (by omega) (some ⟨lb, 0, none⟩) 1 1 [((⟨5, 1, a1, n1, c1⟩ : Ent), mkE28 5 1 [97] [120])] (HZ.out w10 HR10.out).2.2.1 (by omega) rfl (-1) (by kernel_rfl))
  go_wp2_with fail
  refine HK.out.mono ?_
  rintro e w11 ⟨rfl, hb⟩
  have HR11 := Lib.hid (HR10.out.trans (hb.mono HR10.out.size))
  clear hb HK
  have HK := Lib.hid (keptK w11 none 0 0 [] (MadeAt.nil _) (by omega) (some ⟨lb, 0, none⟩) 1 1 [((⟨5, 1, a1, n1, c1⟩ : Ent), mkE28 5 1 [97] [120])] (HZ.out w11 HR11.out).2.2.1 (by omega) rfl 0 (by kernel_rfl))
  go_wp2_with fail
  refine HK.out.mono ?_
  rintro e w12 ⟨rfl, hb⟩
  have HR12 := Lib.hid (HR11.out.trans (hb.mono HR11.out.size))
  clear hb HK
  go_wp2_with fail
  refine (HE2.out _).mono ?_
  rintro e w13 ⟨a2, n2, c2, rfl, he2, ho2, hb⟩
  have hbA := (Below.refl w13.heap.size w13).alloc (Nat.le_refl _) (.cells #[.int .u64 5, .int .u64 2, .slice a2 n2 c2] 43)
  have hA : Blk (w13.alloc (.cells #[.int .u64 5, .int .u64 2, .slice a2 n2 c2] 43)) w13.heap.size (entCells ⟨5, 2, a2, n2, c2⟩) 43 := Blk.new w13 (entCells ⟨5, 2, a2, n2, c2⟩) 43
  have hb13 := HR12.out.trans (hb.mono HR12.out.size)
  have HR14 := Lib.hid (hb13.trans (hbA.mono hb13.size))
  have HEA := Lib.hid (entsAt_of (Q := [((⟨5, 2, a2, n2, c2⟩ : Ent), mkE28 5 2 [97] [120])]) (by simpa [entsCells] using hA) (fun q hq => by
    simp only [List.mem_cons, List.not_mem_nil, or_false] at hq
    subst hq
    exact he2.on hbA) 1 rfl (by omega))
  have HK := Lib.hid (keptK (w13.alloc (.cells #[.int .u64 5, .int .u64 2, .slice a2 n2 c2] 43)) (some ⟨yb, 0, none⟩) 1 1 [(open28, [])] (HZ.out _ HR14.out).2.1 (by omega) (some ⟨w13.heap.size, 0, none⟩) 1 1 _ HEA.out (by omega) rfl 1 (by kernel_rfl))
  clear he2 ho2 hb hbA hA hb13 HEA
  go_wp2_with fail
  refine HK.out.mono ?_
  rintro e w14 ⟨rfl, hb⟩
  have HR15 := Lib.hid (HR14.out.trans (hb.mono HR14.out.size))
  clear hb HK
  have HR14 := Lib.hid HR15.out
  clear HR15
  have HK := Lib.hid (seen28_any none 0 0 w14)
  go_wp2_with fail
  refine HK.out.mono ?_
  rintro e w15 ⟨rfl, hb⟩
  have HR15 := Lib.hid (HR14.out.trans (hb.mono HR14.out.size))
  clear hb HK
  have HK := Lib.hid (treeK w15 (seen28 none 0 0) [] (RowsAt.nil _ _) rfl (by show 0 ≤ 100000; omega) (by simp) (some ⟨lb, 0, none⟩) 1 1 [((⟨5, 1, a1, n1, c1⟩ : Ent), mkE28 5 1 [97] [120])] (HZ.out w15 HR15.out).2.2.1 (by omega) rfl 0 (by kernel_rfl))
  go_wp2_with fail
  refine HK.out.mono ?_
  rintro e w16 ⟨rfl, hb⟩
  have HR16 := Lib.hid (HR15.out.trans (hb.mono HR15.out.size))
  clear hb HK
  have hbR := (Below.refl w16.heap.size w16).alloc (Nat.le_refl _) (.cells #[.string ⟨#[97]⟩, .int .u64 1, .bool false, .string ⟨#[120]⟩] 49)
  have hRr : Blk (w16.alloc (.cells #[.string ⟨#[97]⟩, .int .u64 1, .bool false, .string ⟨#[120]⟩] 49)) w16.heap.size (recsCells [⟨[97], 1, false, [120]⟩]) 49 := Blk.new w16 (recsCells [⟨[97], 1, false, [120]⟩]) 49
  have HRows := Lib.hid (recsAt_of hRr 1 rfl (by omega))
  have HRa := Lib.hid (HR16.out.trans (hbR.mono HR16.out.size))
  have HK := Lib.hid (seen28_any (some ⟨w16.heap.size, 0, none⟩) 1 1 (w16.alloc (.cells #[.string ⟨#[97]⟩, .int .u64 1, .bool false, .string ⟨#[120]⟩] 49)))
  clear hbR hRr
  go_wp2_with fail
  refine HK.out.mono ?_
  rintro e w17 ⟨rfl, hb⟩
  have HR17 := Lib.hid (HRa.out.trans (hb.mono HRa.out.size))
  have HRows2 := Lib.hid (HRows.out.on hb)
  obtain ⟨rb, hrb⟩ : ∃ x, w16.heap.size = x := ⟨_, rfl⟩
  simp only [hrb] at HRows2 ⊢
  clear hb HK HRows HRa hrb
  have HK := Lib.hid (treeK w17 (seen28 (some ⟨rb, 0, none⟩) 1 1) [⟨[97], 1, false, [120]⟩] HRows2.out rfl (by show 1 ≤ 100000; omega) (fun r hr => by simp only [List.mem_cons, List.not_mem_nil, or_false] at hr; subst hr; exact ⟨by decide, by decide, by show 1 < 18446744073709551616; omega⟩) (some ⟨lb, 0, none⟩) 1 1 [((⟨5, 1, a1, n1, c1⟩ : Ent), mkE28 5 1 [97] [120])] (HZ.out w17 HR17.out).2.2.1 (by omega) rfl (-1) (by kernel_rfl))
  go_wp2_with fail
  refine HK.out.mono ?_
  rintro e w18 ⟨rfl, hb⟩
  have HR18 := Lib.hid (HR17.out.trans (hb.mono HR17.out.size))
  clear hb HK
  clear HRows2
  have hbR := (Below.refl w18.heap.size w18).alloc (Nat.le_refl _) (.cells #[.string ⟨#[97]⟩, .int .u64 1, .bool false, .string ⟨#[121]⟩] 49)
  have hRr : Blk (w18.alloc (.cells #[.string ⟨#[97]⟩, .int .u64 1, .bool false, .string ⟨#[121]⟩] 49)) w18.heap.size (recsCells [⟨[97], 1, false, [121]⟩]) 49 := Blk.new w18 (recsCells [⟨[97], 1, false, [121]⟩]) 49
  have HRows := Lib.hid (recsAt_of hRr 1 rfl (by omega))
  have HRa := Lib.hid (HR18.out.trans (hbR.mono HR18.out.size))
  have HK := Lib.hid (seen28_any (some ⟨w18.heap.size, 0, none⟩) 1 1 (w18.alloc (.cells #[.string ⟨#[97]⟩, .int .u64 1, .bool false, .string ⟨#[121]⟩] 49)))
  clear hbR hRr
  go_wp2_with fail
  refine HK.out.mono ?_
  rintro e w19 ⟨rfl, hb⟩
  have HR19 := Lib.hid (HRa.out.trans (hb.mono HRa.out.size))
  have HRows2 := Lib.hid (HRows.out.on hb)
  obtain ⟨rb, hrb⟩ : ∃ x, w18.heap.size = x := ⟨_, rfl⟩
  simp only [hrb] at HRows2 ⊢
  clear hb HK HRows HRa hrb
  have HK := Lib.hid (treeK w19 (seen28 (some ⟨rb, 0, none⟩) 1 1) [⟨[97], 1, false, [121]⟩] HRows2.out rfl (by show 1 ≤ 100000; omega) (fun r hr => by simp only [List.mem_cons, List.not_mem_nil, or_false] at hr; subst hr; exact ⟨by decide, by decide, by show 1 < 18446744073709551616; omega⟩) (some ⟨lb, 0, none⟩) 1 1 [((⟨5, 1, a1, n1, c1⟩ : Ent), mkE28 5 1 [97] [120])] (HZ.out w19 HR19.out).2.2.1 (by omega) rfl 0 (by kernel_rfl))
  go_wp2_with fail
  refine HK.out.mono ?_
  rintro e w20 ⟨rfl, hb⟩
  have HR20 := Lib.hid (HR19.out.trans (hb.mono HR19.out.size))
  clear hb HK
  clear HRows2
  obtain ⟨s0, s1, s2, s3, s4, s5, s6, s7, s8, s9, s10, s11⟩ := (HZ.out w20 HR20.out).2.2.2.1.cells
  simp only at s0 s1 s2 s3 s4 s5 s6 s7 s8 s9 s10 s11
  have HK := Lib.hid (show Calls Tryz.prog 19 #[.agg #[.bool true, .bool true, .bool false, .bool false, .int .u64 1, .int .u64 2, .int .u64 3, .int .u64 2, .int .u64 1, .slice none 0 0, .slice none 0 0, .int .i64 0]] w20 (fun e w2 => e = .returned (.bool true) ∧ Below w20.heap.size w20 w2) from boundsK w20 ⟨true, true, false, false, 1, 2, 3, 2, 1, none, 0, 0, none, 0, 0, 0⟩ [] (RowsAt.nil _ _) rfl true (by kernel_rfl))
  go_wp2_with fail
  refine HK.out.mono ?_
  rintro e w21 ⟨rfl, hb⟩
  have HR21 := Lib.hid (HR20.out.trans (hb.mono HR20.out.size))
  clear hb HK
  clear s0 s1 s2 s3 s4 s5 s6 s7 s8 s9 s10 s11
  obtain ⟨s0, s1, s2, s3, s4, s5, s6, s7, s8, s9, s10, s11⟩ := (HZ.out w21 HR21.out).2.2.2.2.cells
  simp only at s0 s1 s2 s3 s4 s5 s6 s7 s8 s9 s10 s11
  have HK := Lib.hid (show Calls Tryz.prog 19 #[.agg #[.bool true, .bool true, .bool false, .bool false, .int .u64 1, .int .u64 2, .int .u64 3, .int .u64 3, .int .u64 1, .slice none 0 0, .slice none 0 0, .int .i64 0]] w21 (fun e w2 => e = .returned (.bool false) ∧ Below w21.heap.size w21 w2) from boundsK w21 ⟨true, true, false, false, 1, 2, 3, 3, 1, none, 0, 0, none, 0, 0, 0⟩ [] (RowsAt.nil _ _) rfl false (by kernel_rfl))
  go_wp2_with fail
  refine HK.out.mono ?_
  rintro e w22 ⟨rfl, hb⟩
  have HR22 := Lib.hid (HR21.out.trans (hb.mono HR21.out.size))
  clear hb HK
  clear s0 s1 s2 s3 s4 s5 s6 s7 s8 s9 s10 s11
  have HK := Lib.hid (lserial_any w22 (some ⟨xb, 0, none⟩) 2 2 (some ⟨lb, 0, none⟩) 1 1 (-1) (serialK w22 (some ⟨lb, 0, none⟩) 1 1 [((⟨5, 1, a1, n1, c1⟩ : Ent), mkE28 5 1 [97] [120])] (HZ.out w22 HR22.out).2.2.1 (by omega) rfl (some ⟨xb, 0, none⟩) 2 2 [((mk28 5 1 3 [97] [120]), []), ((mk28 5 2 5 [] []), [])] (HZ.out w22 HR22.out).1 (by omega) rfl (-1) (by kernel_rfl)))
  go_wp2_with fail
  refine HK.out.mono ?_
  rintro e w23 ⟨rfl, hb⟩
  have HR23 := Lib.hid (HR22.out.trans (hb.mono HR22.out.size))
  clear hb HK
  have HK := Lib.hid (lserial_any w23 (some ⟨xb, 0, none⟩) 2 2 none 0 0 1 (serialK w23 none 0 0 [] (EntsAt.nil _) (by omega) rfl (some ⟨xb, 0, none⟩) 2 2 [((mk28 5 1 3 [97] [120]), []), ((mk28 5 2 5 [] []), [])] (HZ.out w23 HR23.out).1 (by omega) rfl 1 (by kernel_rfl)))
  go_wp2_with fail
  refine HK.out.mono ?_
  rintro e w24 ⟨rfl, hb⟩
  have HR24 := Lib.hid (HR23.out.trans (hb.mono HR23.out.size))
  clear hb HK
  have HK := Lib.hid (lorder_any w24 none 0 0 (-1) (orderK w24 none 0 0 [] (MadeAt.nil _) (by omega) (-1) (by kernel_rfl)))
  go_wp2_with fail
  refine HK.out.mono ?_
  rintro e w25 ⟨rfl, hb⟩
  have HR25 := Lib.hid (HR24.out.trans (hb.mono HR24.out.size))
  clear hb HK
  have HE := Lib.hid (HB9.out.trans (HR25.out.mono HB9.out.size))
  go_wp2_with fail
  go_ret
  exact ⟨by try rfl, HE.out⟩
end Go.Proofs.YtecknikehieioaaGreat
