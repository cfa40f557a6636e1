/-
  spec.rising: a copy of entries in the order of their timestamps. Condition: fewer than twenty (BoundE).
-/
import Derived.Test.YtffianjbljgnaaaEnts
import Derived.Test.YtffianjbljgnaaaSortK
namespace Go.Proofs.Ytffianjbljgnaaa
set_option linter.unusedVariables false
set_option linter.unusedSimpArgs false
open Go.RowKit Go.Sort Go.Shelf Go.Proofs

/-- How many entries are sorted. -/
def BoundE (n : Nat) : Prop := n < 20
theorem BoundE.le {n : Nat} (h : BoundE n) : n ≤ 1000000 := by unfold BoundE at h; omega
theorem BoundE.le9 {n : Nat} (h : BoundE n) : n ≤ 900 := by unfold BoundE at h; omega
def ltEnt (x y : Ent) : Bool := decide (x.ts < y.ts)
def ltEntry (x y : Entry) : Bool := decide (x.ts < y.ts)
def rise (l : List Entry) : List Entry := isort ltEntry l
set_option maxHeartbeats 1000000 in
theorem rising1_any (x y : Ent) (W : World) : Calls Try.prog 55 (#[.agg (entCells x).toArray, .agg (entCells y).toArray] ++ #[]) W fun e w' => e = .returned (.int .i64 (cmpI x.ts y.ts)) ∧ ∃ q os', w' = grow (W.drewN q) os' := by
  have HC := Lib.hid (fun W' => compare_u64 x.ts y.ts W')
  show Calls Try.prog 55 #[.agg #[.int .u64 (x.ts : Nat), .int .u64 (x.first : Nat), .slice x.a x.n x.c], .agg #[.int .u64 (y.ts : Nat), .int .u64 (y.first : Nat), .slice y.a y.n y.c]] W _
  go_enter Try.func55, Try.ntmps55
  go_wp2_with fail
  refine (HC.out _).mono ?_
  rintro e w1 ⟨rfl, rfl⟩
  go_wp2_with fail
  go_ret
  exact ⟨rfl, 0, _, by rw [alloc_eq_grow, alloc_eq_grow, grow_grow]; rfl⟩
theorem ltOf_cmp (x y : Ent) : ltOf (fun x y : Ent => cmpI x.ts y.ts) x y = ltEnt x y := by
  unfold ltOf ltEnt
  have := cmpI_neg x.ts y.ts
  by_cases h : x.ts < y.ts
  · rw [decide_eq_true (this.2 (by omega)), decide_eq_true h]
  · rw [decide_eq_false (fun hh => h (by have := this.1 hh; omega)), decide_eq_false h]
/-- What a sort of entries ends with. -/
def SortedE (g : Nat) (D : List Ent) (rest : List Value) (w : World) (e : Ending) (w' : World) : Prop :=
  e = .returned (.tuple #[]) ∧ Blk w' g (entsCells (isort ltEnt D) ++ rest) 40 ∧ Mod [g] w w'
theorem insE_any (g : Nat) (D : List Ent) (rest : List Value) (cap : Nat) (hl : D.length ≤ 1000000) (w : World) (h : Blk w g (entsCells D ++ rest) 40) :
    Calls Try.prog 74 #[.slice (some ⟨g, 0, none⟩) D.length cap, .int .i64 0, .int .i64 D.length, .func (.func 55) #[] #[]] w (SortedE g D rest w) := by
  have hk : ∀ x, (entCells x).length = 3 := fun _ => rfl
  have h' : Blk w g ((D.toArray).toList.flatMap entCells ++ rest) 40 := h
  have hc := AnyQ.insertionSortCmpFunc Try.insE 3 Try.isAgg40 Try.sizeOf40 entCells hk (by intro x v hv; simp only [entCells, List.mem_cons, List.not_mem_nil, or_false] at hv; rcases hv with rfl | rfl | rfl <;> rfl)
    (fun x y : Ent => cmpI x.ts y.ts) 55 #[] g 0 cap 0 D.length D.toArray w (enters_of Try.func55 (by kernel_rfl) rfl) (fun _ _ _ _ x y => rising1_any x y _) (holdsK_of_blk entCells 3 hk (by omega) D.toArray h') h.lt (Nat.zero_le _) (by simp) (by simp; omega)
  change Calls Try.prog 74 _ _ _ at hc
  refine Calls.mono hc ?_
  rintro e w' ⟨rfl, n, os, rfl⟩
  have hi := insertionSort_list (ltOf fun x y : Ent => cmpI x.ts y.ts) D.toArray
  rw [show (ltOf fun x y : Ent => cmpI x.ts y.ts) = ltEnt from funext fun x => funext fun y => ltOf_cmp x y] at hi ⊢
  have hsz : (insertionSort ltEnt D.toArray 0 D.length).size = D.toArray.size := by
    rw [← Array.length_toList]
    have e : (insertionSort ltEnt D.toArray 0 D.length).toList = isort ltEnt D := by simpa using hi
    rw [e, isort_length]; simp
  obtain ⟨hb, hm⟩ := sortK_blk entCells 3 hk (by omega) D.toArray (insertionSort ltEnt D.toArray 0 D.length) hsz h' n os
  refine ⟨rfl, ?_, hm⟩
  have e : (insertionSort ltEnt D.toArray 0 D.length).toList = isort ltEnt D := by simpa using hi
  rw [e] at hb
  exact hb
set_option maxHeartbeats 1000000 in
theorem stabE_any (g : Nat) (D : List Ent) (rest : List Value) (cap : Nat) (hl : BoundE D.length) (w : World) (h : Blk w g (entsCells D ++ rest) 40) :
    Calls Try.prog 64 #[.slice (some ⟨g, 0, none⟩) D.length cap, .int .i64 D.length, .func (.func 55) #[] #[]] w (SortedE g D rest w) := by
  have HI := Lib.hid (insE_any g D rest cap hl.le w h)
  have hl2 : ¬ (20 : Int) ≤ (D.length : Int) := by unfold BoundE at hl; omega
  have hl3 : ¬ (20 : Int) < (D.length : Int) := by unfold BoundE at hl; omega
  clear h
  go_enter Try.func64, Try.ntmps64
  go_wp2_with fail
  go_loopw [7, 8] (fun s7 s8 wr => w = wr ∧ s7 = .int .i64 0 ∧ s8 = .int .i64 20) (fun _ _ _ => 0)
  case atStart => exact ⟨rfl, rfl, rfl⟩
  case round =>
    obtain ⟨rfl, rfl, rfl⟩ := hrel
    go_wp2_with fail
    refine HI.out.mono ?_
    rintro e w1 ⟨rfl, hb, hm⟩
    go_wp2_with fail
    go_loopw [6, 7, 8, 9] (fun s6 s7 s8 s9 wr => w1 = wr ∧ s6 = .int .i64 20) (fun _ _ _ _ _ => 0)
    case atStart => exact ⟨rfl, rfl⟩
    case round =>
      obtain ⟨rfl, rfl⟩ := hrel
      go_wp2_with fail
      go_end0
      exact ⟨rfl, hb, hm⟩
set_option maxHeartbeats 1000000 in
theorem stableE_any (g : Nat) (D : List Ent) (rest : List Value) (cap : Nat) (hl : BoundE D.length) (w : World) (h : Blk w g (entsCells D ++ rest) 40) :
    Calls Try.prog 54 #[.slice (some ⟨g, 0, none⟩) D.length cap, .func (.func 55) #[] #[]] w (SortedE g D rest w) := by
  have HS := Lib.hid (stabE_any g D rest cap hl w h)
  clear h
  go_enter Try.func54, Try.ntmps54
  go_wp2_with fail
  refine HS.out.mono ?_
  rintro e w1 ⟨rfl, hb, hm⟩
  go_wp2_with fail
  go_end0
  exact ⟨rfl, hb, hm⟩
end Go.Proofs.Ytffianjbljgnaaa
