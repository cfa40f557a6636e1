/-
  Where a transaction asked for its commit: slices.IndexFunc over calls. No condition.
-/
import Derived.Test.YtffianjbljgnaaaGreatEnded
namespace Go.Proofs.YtffianjbljgnaaaGreat
set_option linter.unusedVariables false
set_option linter.unusedSimpArgs false
open Go.RowKit Go.Maps

def askC (ts : Nat) (m : Md) : Bool := decide (m.ts = ts) && decide (m.kind = 5)
/-- The first call that is so, from place i on. -/
def firstAt (f : Md → Bool) : Nat → List MZ → Int
  | _, [] => -1
  | i, q :: t => if f q.1 then i else firstAt f (i + 1) t
set_option maxRecDepth 100000 in
set_option maxHeartbeats 2000000 in
theorem serial1_any (w : World) (m : Md) (tb ts : Nat) (ht : w.cell? ⟨tb, 0, none⟩ = some (.int .u64 (ts : Nat))) (htl : tb < w.heap.size) :
    Calls Tryz.prog 22 #[.agg (mdCells m).toArray, .pointer (some ⟨tb, 0, none⟩)] w fun e w' => e = .returned (.bool (askC ts m)) ∧ Below w.heap.size w w' := by
  have hbn := (Below.refl w.heap.size w).alloc (Nat.le_refl _) (.cells (mdCells m).toArray 45)
  have HB := Lib.hid hbn
  have k0 := (hbn.cell (p := ⟨tb, 0, none⟩) htl).trans ht
  obtain ⟨d0, _, d2, _⟩ := md_box w m
  simp only [Nat.zero_add] at d2
  clear hbn ht
  go_enter Tryz.func22, Tryz.ntmps22
  go_upto_region 1 with fail
  generalize w.alloc (.cells (mdCells m).toArray 45) = w1 at *
  by_cases h1 : m.ts = ts
  · have e1 : ((m.ts : Int) == (ts : Int)) = true := beq_iff_eq.2 (by omega)
    by_cases h2 : m.kind = 5
    · have HX := Lib.hid (show askC ts m = true by unfold askC; rw [decide_eq_true h1, decide_eq_true h2]; rfl)
      rw [h2] at d2
      clear h1 h2
      go_wp2_with fail
      go_ret
      exact ⟨by rw [HX.out]; try rfl, HB.out⟩
    · have e2 : (m.kind == 5) = false := beq_eq_false_iff_ne.2 h2
      have HX := Lib.hid (show askC ts m = false by unfold askC; rw [decide_eq_false h2]; simp)
      have H2 := Lib.hid h2
      clear h1 h2
      go_wp2_with fail
      go_ret
      exact ⟨by rw [HX.out]; first | rfl | (simp [H2.out]), HB.out⟩
  · have e1 : ((m.ts : Int) == (ts : Int)) = false := beq_eq_false_iff_ne.2 (by omega)
    have HX := Lib.hid (show askC ts m = false by unfold askC; rw [decide_eq_false h1]; rfl)
    have H1 := Lib.hid h1
    clear h1
    go_wp2_with fail
    go_ret
    exact ⟨by rw [HX.out]; first | rfl | (simp [H1.out]), HB.out⟩
theorem firstAt_drop (f : Md → Bool) (z : List MZ) (i : Nat) (q : MZ) (hq : z[i]? = some q) : firstAt f i (z.drop i) = if f q.1 then (i : Int) else firstAt f (i + 1) (z.drop (i + 1)) := by
  obtain ⟨h1, rfl⟩ := List.getElem?_eq_some_iff.1 hq
  rw [List.drop_eq_getElem_cons h1]; rfl
set_option maxRecDepth 100000 in
set_option maxHeartbeats 4000000 in
theorem indexM_any (w : World) (f : Md → Bool) (fn : FuncId) (hfn : fn = 22) (tb ts : Nat) (ht : w.cell? ⟨tb, 0, none⟩ = some (.int .u64 (ts : Nat))) (htl : tb < w.heap.size) (hf : f = askC ts)
    (am : Option Addr) (nm cm : Nat) (zm : List MZ) (hm : MadeAt w am nm cm zm) (hnm : nm ≤ 100000) :
    Calls Tryz.prog 21 #[.slice am nm cm, .func (.func 22) #[] #[.pointer (some ⟨tb, 0, none⟩)]] w fun e w' => e = .returned (.int .i64 (firstAt f 0 zm)) ∧ Below w.heap.size w w' := by
  subst hf
  have HMM := Lib.hid hm
  have HT := Lib.hid ht
  clear hm ht
  go_enter Tryz.func21, Tryz.ntmps21
  go_wp2_with fail
  go_loopw [4, 5, 8] (fun _ _ s8 wr => ∃ i : Nat, i ≤ nm ∧ s8 = .int .i64 i ∧ firstAt (askC ts) 0 zm = firstAt (askC ts) i (zm.drop i) ∧ Below w.heap.size w wr) (fun _ _ s8 _ => nm - (intOf s8).toNat)
  case atStart => exact ⟨0, by omega, rfl, rfl, Below.refl _ _⟩
  case round =>
    obtain ⟨i, hi, rfl, hfi, hb⟩ := hrel
    by_cases hlt : i < nm
    · have hil : (i : Int) < (nm : Int) := by omega
      obtain ⟨q, g, o, hq, hqz, rfl, hg, hc⟩ := (HMM.out.on hb).row hlt
      have HN := Lib.hid (show firstAt (askC ts) 0 zm = if askC ts q.1 then (i : Int) else firstAt (askC ts) (i + 1) (zm.drop (i + 1)) by rw [hfi, firstAt_drop _ _ _ _ hq])
      have HC := Lib.hid hc
      have HS := Lib.hid (serial1_any wr q.1 tb ts ((hb.cell (p := ⟨tb, 0, none⟩) htl).trans HT.out) (Nat.lt_of_lt_of_le htl hb.size))
      have HB := Lib.hid hb
      clear hfi hq hqz hc hb
      go_wp2_with ((with_reducible refine wpList_loadM rfl _ rfl _ _ _ HC.out ?_ ?_); rfl)
      refine HS.out.mono ?_
      rintro e w2 ⟨rfl, hb2⟩
      have HB2 := Lib.hid (HB.out.trans (hb2.mono HB.out.size))
      clear hb2
      cases hak : askC ts q.1 with
      | true =>
        have HR := Lib.hid (show firstAt (askC ts) 0 zm = (i : Int) by rw [HN.out, hak]; rfl)
        clear hak
        go_wp2_with fail
        go_ret
        exact ⟨by rw [HR.out]; try rfl, HB2.out⟩
      | false =>
        have HR := Lib.hid (show firstAt (askC ts) 0 zm = firstAt (askC ts) (i + 1) (zm.drop (i + 1)) by rw [HN.out, hak]; rfl)
        clear hak
        go_wp2_with fail
        go_roundw
        case rel => exact ⟨i + 1, by omega, by go_num, HR.out, HB2.out⟩
        case measure => simp [intOf]; omega
    · have hge : ¬ (i : Int) < (nm : Int) := by omega
      have HR := Lib.hid (show firstAt (askC ts) 0 zm = -1 by
        have hin : i = zm.length := by rw [HMM.out.len]; omega
        rw [hfi, hin, List.drop_eq_nil_of_le (Nat.le_refl _)]; rfl)
      have HB := Lib.hid hb
      clear hfi hb
      go_wp2_with fail
      go_ret
      exact ⟨by rw [HR.out]; try rfl, HB.out⟩
end Go.Proofs.YtffianjbljgnaaaGreat
