/-
  Texts folded into one: Ents, SortK, RiseA, SyeA, SyeS, SyeD.
-/
import Derived.Test.YtffianjbljgnaaaEntsA
import Derived.Test.YtffianjbljgnaaaStab
import Derived.Test.YtffianjbljgnaaaMem
import Derived.Test.YtffianjbljgnaaaSortU
import Derived.Shelf.SlSortCmp.InsertionK
import Derived.Sort.LotA
import Derived.Test.YtffianjbljgnaaaSymD
import Derived.Test.YtffianjbljgnaaaSettleF
import Derived.Deep.DeepCutAuto
import Derived.Deep.CutBlock

/-! ### Ents -/
namespace Go.Proofs.Ytffianjbljgnaaa
set_option linter.unusedVariables false
set_option linter.unusedSimpArgs false
open Go.RowKit

set_option maxHeartbeats 1000000 in
theorem compare_u64 (x y : Nat) (w : World) : Calls Try.prog 56 #[.int .u64 x, .int .u64 y] w fun e w' => e = .returned (.int .i64 (cmpI x y)) ∧ w = w' := by
  have HN := Lib.hid (fun z => isNaN_any z w)
  go_enter Try.func56, Try.ntmps56
  go_wp2_with fail
  refine (HN.out x).mono ?_
  rintro e w1 ⟨rfl, rfl⟩
  go_wp2_with fail
  refine (HN.out y).mono ?_
  rintro e w1 ⟨rfl, rfl⟩
  by_cases h1 : (x : Int) < y
  · have HC := Lib.hid (show cmpI x y = -1 by unfold cmpI; rw [if_pos h1])
    go_wp2_with fail
    go_ret
    exact ⟨by rw [HC.out]; rfl, rfl⟩
  · by_cases h2 : (y : Int) < x
    · have HC := Lib.hid (show cmpI x y = 1 by unfold cmpI; rw [if_neg h1, if_pos h2])
      go_wp2_with fail
      go_ret
      exact ⟨by rw [HC.out]; rfl, rfl⟩
    · have HC := Lib.hid (show cmpI x y = 0 by unfold cmpI; rw [if_neg h1, if_neg h2])
      go_wp2_with fail
      go_ret
      exact ⟨by rw [HC.out]; rfl, rfl⟩
set_option maxRecDepth 100000 in
set_option maxHeartbeats 1000000 in
theorem cloneE_any (w : World) (a : Option Addr) (n c : Nat) (es : List Ent) (h : RowsAt w a n c 3 (entsCells es)) (hn : n ≤ 1000000) :
    Calls Try.prog 53 #[.slice a n c] w fun e w' => ∃ v, e = .returned v ∧ w'.ownsRow w.heap.size 40 3 v n (entsCells es) ∧ Below w.heap.size w w' := by
  have q22 : ∀ (w : World) (a : Option Addr) (n c n' c' : Nat), (binOp .eql 25 (.slice a n c) (.slice none n' c')).run Try.prog w = .ok (.bool a.isNone) w := fun w a n c n' c' => Lib.run_eql_slice_nil w _ _ a n c n' c' Try.underlying25
  have HR := Lib.hid h
  have HN := Lib.hid hn
  clear h hn
  cases a with
  | none =>
    go_enter Try.func53, Try.ntmps53
    go_wp2_with fail
    go_ret
    have hn0 : n = 0 := by
      rcases Nat.eq_zero_or_pos n with h0 | h0
      · exact h0
      · obtain ⟨g, o, e, _⟩ := HR.out.at_ h0
        cases e
    subst hn0
    have hl := HR.out.len
    have hes : es = [] := by rw [ents_length] at hl; exact List.eq_nil_of_length_eq_zero (by omega)
    subst hes
    exact ⟨_, rfl, ⟨rfl, .inl ⟨rfl, rfl⟩⟩, Below.refl _ _⟩
  | some p =>
    obtain ⟨i0, hi, hz0, hz1, hz2⟩ := info_parts info_entry
    go_enter Try.func53, Try.ntmps53
    go_wp2_with (at_builtin; refine wpList_append_own _ rfl _ _ 25 rfl w.heap.size 40 i0 _ 3 40 Try.underlying25 hi hz0 hz1 hz2 rfl (by decide) _ _ _ rfl (World.ownsRow_made w #[] 0 (Nat.le_refl _) (Nat.zero_le _) rfl) p n c (entsCells es) rfl ?qc1 ?qc2 ?qc3 ?qc4 ?qc5 ?qc6 ?_)
    case qc1 => exact HR.out.len
    case qc2 =>
      intro j u hj
      have hl := HR.out.len
      have hjn := (List.getElem?_eq_some_iff.1 hj).1
      obtain ⟨g, o, e, _, hc⟩ := HR.out.at_ (by omega)
      cases e
      rw [addr_add']
      exact Lib.cell?_alloc_some _ (hc j u hj)
    case qc3 =>
      intro u hu
      obtain ⟨x, _, hx⟩ := List.mem_flatMap.1 hu
      simp only [entCells, List.mem_cons, List.not_mem_nil, or_false] at hx
      rcases hx with rfl | rfl | rfl <;> rfl
    case qc4 => have := HN.out; unfold maxLen; omega
    case qc5 => have := HN.out; omega
    case qc6 => simp
    intro v' w1 hown hgrow hnil
    have HOwn := Lib.hid hown
    have HG := Lib.hid hgrow
    clear hown hgrow hnil
    go_wp2_with fail
    go_ret
    exact ⟨v', rfl, by simpa using HOwn.out, ((Below.refl _ w).alloc (Nat.le_refl _) _).grown HG.out (by simp) (by intro k hk; simp [Value.ownBlock] at hk; omega)⟩
end Go.Proofs.Ytffianjbljgnaaa

/-! ### SortK -/
namespace Go.Proofs.Ytffianjbljgnaaa
set_option linter.unusedVariables false
set_option linter.unusedSimpArgs false
open Go.RowKit Go.Sort Go.Proofs

section
variable {α : Type} [Inhabited α]
theorem flatK_toList (enc : α → List Value) (k : Nat) (hk : ∀ x, (enc x).length = k) (hpos : 0 < k) (d : Array α) : (flatK enc k d).toList = d.toList.flatMap enc := by
  have key : ∀ (l : List α) (f : Nat → α), (∀ i, i < l.length → f i = l[i]!) → (List.range (l.length * k)).map (fun t => (enc (f (t / k)))[t % k]!) = l.flatMap enc := by
    intro l
    induction l with
    | nil => intro f _; simp
    | cons x t ih =>
      intro f hf
      have h0 : f 0 = x := by simpa using hf 0 (by simp)
      rw [List.length_cons, Nat.add_mul, Nat.one_mul, Nat.add_comm, List.range_add, List.map_append, List.flatMap_cons]
      congr 1
      · apply List.ext_getElem?
        intro i
        by_cases hi : i < k
        · rw [List.getElem?_map, List.getElem?_range hi]
          simp only [Option.map_some, Nat.div_eq_of_lt hi, Nat.mod_eq_of_lt hi, h0]
          rw [List.getElem!_eq_getElem?_getD, List.getElem?_eq_getElem (by rw [hk]; exact hi)]
          rfl
        · rw [List.getElem?_eq_none (by simp; omega), List.getElem?_eq_none (by rw [hk]; omega)]
      · rw [List.map_map, ← ih (fun i => f (i + 1)) (fun i hi => by simpa using hf (i + 1) (by simp; omega))]
        refine List.map_congr_left fun a _ => ?_
        show (enc (f ((k + a) / k)))[(k + a) % k]! = _
        rw [Nat.add_comm k a, Nat.add_div_right a hpos, Nat.add_mod_right]
  unfold flatK
  rw [Array.toList_map, Array.toList_range]
  have := key d.toList (fun i => d[i]!) (fun i hi => by rw [getElem!_pos d i (by simpa using hi), getElem!_pos d.toList i hi, Array.getElem_toList])
  simpa using this

theorem holdsK_of_blk (enc : α → List Value) (k : Nat) (hk : ∀ x, (enc x).length = k) (hpos : 0 < k) {w : World} {g : Nat} {T : TypeId} {rest : List Value} (d : Array α) (h : Blk w g (d.toList.flatMap enc ++ rest) T) : HoldsK enc k w g 0 d := by
  intro j hj
  refine ⟨?_, h.free _⟩
  rw [h.cell, Nat.zero_add]
  have e := flatK_toList enc k hk hpos d
  rw [← e, List.getElem?_append_left (by simpa using hj), Array.getElem?_toList, Array.getElem?_eq_getElem hj]
  rw [getElem!_pos (flatK enc k d) j hj]; rfl
theorem sortK_blk (enc : α → List Value) (k : Nat) (hk : ∀ x, (enc x).length = k) (hpos : 0 < k) {w : World} {g : Nat} {T : TypeId} {rest : List Value} (d d' : Array α) (hs : d'.size = d.size) (h : Blk w g (d.toList.flatMap enc ++ rest) T) (n : Nat) (os : Array Obj) :
    Blk (sortWorldK enc k w g 0 n d' os) g (d'.toList.flatMap enc ++ rest) T ∧ Mod [g] w (sortWorldK enc k w g 0 n d' os) := by
  have hg := h.lt
  constructor
  · unfold sortWorldK Blk
    rw [heap_grow_old _ _ (by rw [size_putRowK]; exact hg)]
    unfold Blk at h
    simp only [putRowK, putRow, mapBlock, Sort.ahead, Array.getElem?_modify, if_true, h, Option.map_some, onCells]
    congr 2
    apply Array.ext'
    have e := flatK_toList enc k hk hpos d'
    have e0 := flatK_toList enc k hk hpos d
    have l0 : (d.toList.flatMap enc).length = d.size * k := by rw [← e0, Array.length_toList, size_flatK]
    have l1 : (d'.toList.flatMap enc).length = d.size * k := by rw [← e, Array.length_toList, size_flatK, hs]
    apply List.ext_getElem?
    intro j
    rw [Array.getElem?_toList, Array.getElem?_toList]
    simp only [putCells, Array.getElem?_mapIdx, List.getElem?_toArray, Nat.zero_le, true_and, Nat.zero_add, Nat.sub_zero, size_flatK, hs, id]
    by_cases hj : j < d.size * k
    · rw [List.getElem?_append_left (by omega), List.getElem?_append_left (by omega), List.getElem?_eq_getElem (show j < (d.toList.flatMap enc).length by omega)]
      simp only [Option.map_some, if_pos hj]
      rw [← e, Array.getElem?_toList, Array.getElem?_eq_getElem (by rw [size_flatK, hs]; exact hj), getElem!_pos (flatK enc k d') j (by rw [size_flatK, hs]; exact hj)]
    · rw [List.getElem?_append_right (by omega), List.getElem?_append_right (by omega), l0, l1]
      simp only [if_neg hj]
      cases rest[j - d.size * k]? <;> rfl
  · refine ⟨rfl, rfl, rfl, ?_, fun b hb hn => ?_⟩
    · unfold sortWorldK; rw [size_grow, size_putRowK]; exact Nat.le_add_right _ _
    · unfold sortWorldK
      rw [heap_grow_old _ _ (by rw [size_putRowK]; exact hb)]
      have : g ≠ b := fun e => hn (by simp [e])
      simp [putRowK, putRow, mapBlock, Sort.ahead, Array.getElem?_modify, this]

theorem swp_list (L R : List α) (x y : α) (d : Array α) (h : d.toList = L ++ y :: x :: R) : (swp d (L.length + 1) L.length).toList = L ++ x :: y :: R := by
  have hsz : d.size = L.length + (R.length + 1 + 1) := by rw [← Array.length_toList, h]; simp
  have g1 : d[L.length]! = y := by
    rw [getElem!_pos d L.length (by omega), ← Array.getElem_toList]
    have : d.toList[L.length]? = some y := by rw [h]; simp
    exact (List.getElem?_eq_some_iff.1 this).2
  have g2 : d[L.length + 1]! = x := by
    rw [getElem!_pos d (L.length + 1) (by omega), ← Array.getElem_toList]
    have : d.toList[L.length + 1]? = some x := by rw [h, List.getElem?_append_right (by omega), Nat.add_sub_cancel_left]; rfl
    exact (List.getElem?_eq_some_iff.1 this).2
  unfold swp
  rw [g1, g2, Array.toList_setIfInBounds, Array.toList_setIfInBounds, h]
  rw [List.set_append_right _ _ (by omega), Nat.add_sub_cancel_left, List.set_append_right _ _ (by omega), Nat.sub_self]
  rfl
theorem insInner_list (lt : α → α → Bool) : ∀ (Q : List α) (x : α) (R : List α) (d : Array α), d.toList = Q.reverse ++ x :: R → (insInner lt 0 Q.length d).toList = (insRev lt x Q).reverse ++ R := by
  intro Q
  induction Q with
  | nil => intro x R d h; simpa [insInner, insRev] using h
  | cons y t ih =>
    intro x R d h
    have hd : d.toList = t.reverse ++ y :: x :: R := by rw [h]; simp
    have hsz : d.size = t.length + (R.length + 1 + 1) := by rw [← Array.length_toList, hd]; simp
    have g1 : d[t.length]! = y := by
      rw [getElem!_pos d t.length (by omega), ← Array.getElem_toList]
      have : d.toList[t.length]? = some y := by rw [hd]; simp
      exact (List.getElem?_eq_some_iff.1 this).2
    have g2 : d[t.length + 1]! = x := by
      rw [getElem!_pos d (t.length + 1) (by omega), ← Array.getElem_toList]
      have : d.toList[t.length + 1]? = some x := by rw [hd, List.getElem?_append_right (by simp), List.length_reverse, Nat.add_sub_cancel_left]; rfl
      exact (List.getElem?_eq_some_iff.1 this).2
    show (if (decide (t.length + 1 > 0) && lt d[t.length + 1]! d[t.length]!) = true then insInner lt 0 t.length (swp d (t.length + 1) t.length) else d).toList = _
    rw [g1, g2]
    unfold insRev
    by_cases hl : lt x y = true
    · rw [if_pos (by simp [hl]), if_pos hl]
      have hs := swp_list t.reverse R x y d hd
      rw [List.length_reverse] at hs
      rw [ih x (y :: R) _ hs]
      simp
    · rw [if_neg (by simp [hl]), if_neg hl, h]
      simp
theorem insOuter_list (lt : α → α → Bool) : ∀ (D : List α) (Q : List α) (d : Array α), d.toList = Q.reverse ++ D → (insOuter lt 0 d.size Q.length d).toList = (D.foldl (fun R x => insRev lt x R) Q).reverse := by
  intro D
  induction D with
  | nil =>
    intro Q d h
    have : d.size = Q.length := by rw [← Array.length_toList, h]; simp
    unfold insOuter
    rw [if_neg (by omega), h]; simp
  | cons x t ih =>
    intro Q d h
    have hsz : d.size = Q.length + (t.length + 1) := by rw [← Array.length_toList, h]; simp
    have hi := insInner_list lt Q x t d h
    have hsi : (insInner lt 0 Q.length d).size = d.size := by rw [← Array.length_toList, hi]; simp [insRev_length]; omega
    unfold insOuter
    rw [if_pos (by omega)]
    have := ih (insRev lt x Q) _ hi
    rw [insRev_length, hsi] at this
    rw [List.foldl_cons]
    exact this
theorem insertionSort_list (lt : α → α → Bool) (d : Array α) : (insertionSort lt d 0 d.size).toList = isort lt d.toList := by
  unfold insertionSort isort
  cases hd : d.toList with
  | nil =>
    have : d.size = 0 := by rw [← Array.length_toList, hd]; rfl
    unfold insOuter
    rw [if_neg (by omega), hd]; rfl
  | cons x t =>
    have := insOuter_list lt t [x] d (by rw [hd]; rfl)
    rw [show [x].length = 0 + 1 from rfl] at this
    rw [this]; rfl
end
theorem isort_map {α β : Type} (f : β → α) (lt : α → α → Bool) (l : List β) : isort lt (l.map f) = (isort (fun x y => lt (f x) (f y)) l).map f := by
  have h1 : ∀ (x : β) (Q : List β), insRev lt (f x) (Q.map f) = (insRev (fun x y => lt (f x) (f y)) x Q).map f := by
    intro x Q
    induction Q with
    | nil => rfl
    | cons y t ih =>
      unfold insRev
      rw [List.map_cons]
      dsimp only
      split
      · rw [List.map_cons, ih]
      · rfl
  have h2 : ∀ (l Q : List β), (l.map f).foldl (fun R x => insRev lt x R) (Q.map f) = (l.foldl (fun R x => insRev (fun x y => lt (f x) (f y)) x R) Q).map f := by
    intro l
    induction l with
    | nil => intro Q; rfl
    | cons x t ih => intro Q; rw [List.map_cons, List.foldl_cons, List.foldl_cons, h1, ih]
  unfold isort
  have := h2 l []
  rw [List.map_nil] at this
  rw [this, List.map_reverse]
end Go.Proofs.Ytffianjbljgnaaa

/-! ### RiseA -/
namespace Go.Proofs.Ytffianjbljgnaaa
set_option linter.unusedVariables false
set_option linter.unusedSimpArgs false
open Go.RowKit Go.Sort Go.Shelf Go.Proofs

def ltEnt (x y : Ent) : Bool := decide (x.ts < y.ts)
def ltEntry (x y : Entry) : Bool := decide (x.ts < y.ts)
def rise (l : List Entry) : List Entry := isort ltEntry l
set_option maxHeartbeats 1000000 in
theorem rising1_any (x y : Ent) (W : World) : Calls Try.prog 55 (#[.agg (entCells x).toArray, .agg (entCells y).toArray] ++ #[]) W fun e w' => e = .returned (.int .i64 (cmpI x.ts y.ts)) ∧ ∃ q os', w' = grow (W.drewN q) os' := by
  have HC := Lib.hid (fun W' => compare_u64 x.ts y.ts W')
  show Calls Try.prog 55 #[.agg #[.int .u64 (x.ts : Nat), .int .u64 (x.first : Nat), .slice x.a x.n x.c], .agg #[.int .u64 (y.ts : Nat), .int .u64 (y.first : Nat), .slice y.a y.n y.c]] W _
  go_enter Try.func55, Try.ntmps55
  go_wp2_with fail
  refine (HC.out _).mono ?_
  rintro e w1 ⟨rfl, rfl⟩
  go_wp2_with fail
  go_ret
  exact ⟨rfl, 0, _, by rw [alloc_eq_grow, alloc_eq_grow, grow_grow]; rfl⟩
set_option maxHeartbeats 1000000 in
theorem rising2_any (x y : Ent) (W : World) : Calls Try.prog 55 #[.agg #[.int .u64 (x.ts : Nat), .int .u64 (x.first : Nat), .slice x.a x.n x.c], .agg #[.int .u64 (y.ts : Nat), .int .u64 (y.first : Nat), .slice y.a y.n y.c]] W fun e w' => e = .returned (.int .i64 (cmpI x.ts y.ts)) ∧ Below W.heap.size W w' := by
  have HC := Lib.hid (fun W' => compare_u64 x.ts y.ts W')
  go_enter Try.func55, Try.ntmps55
  go_wp2_with fail
  refine (HC.out _).mono ?_
  rintro e w1 ⟨rfl, rfl⟩
  go_wp2_with fail
  go_ret
  exact ⟨rfl, ((Below.refl W.heap.size W).alloc (Nat.le_refl _) _).alloc (by simp) _⟩
theorem ltOf_cmp (x y : Ent) : ltOf (fun x y : Ent => cmpI x.ts y.ts) x y = ltEnt x y := by
  unfold ltOf ltEnt
  have := cmpI_neg x.ts y.ts
  by_cases h : x.ts < y.ts
  · rw [decide_eq_true (this.2 (by omega)), decide_eq_true h]
  · rw [decide_eq_false (fun hh => h (by have := this.1 hh; omega)), decide_eq_false h]
/-- What a sort of entries ends with. -/
def SortedE (g : Nat) (D : List Ent) (rest : List Value) (w : World) (e : Ending) (w' : World) : Prop :=
  e = .returned (.tuple #[]) ∧ Blk w' g (entsCells (isort ltEnt D) ++ rest) 40 ∧ Mod [g] w w'
section
variable {α : Type} [Inhabited α]
theorem insInnerR_list (lt : α → α → Bool) (P : List α) : ∀ (Q : List α) (x : α) (R : List α) (d : Array α), d.toList = P ++ (Q.reverse ++ x :: R) → (insInner lt P.length (P.length + Q.length) d).toList = P ++ ((insRev lt x Q).reverse ++ R) := by
  intro Q
  induction Q with
  | nil =>
    intro x R d h
    have e : insInner lt P.length P.length d = d := by
      cases hp : P.length with
      | zero => rfl
      | succ n =>
        show (if (decide (n + 1 > n + 1) && lt d[n + 1]! d[n]!) = true then _ else d) = d
        rw [if_neg (by simp)]
    show (insInner lt P.length P.length d).toList = _
    rw [e, h]; rfl
  | cons y t ih =>
    intro x R d h
    have hd : d.toList = (P ++ t.reverse) ++ y :: x :: R := by rw [h]; simp
    have hl : (P ++ t.reverse).length = P.length + t.length := by simp
    have hsz : d.size = P.length + t.length + (R.length + 1 + 1) := by rw [← Array.length_toList, hd]; simp; omega
    have g1 : d[P.length + t.length]! = y := by
      rw [getElem!_pos d (P.length + t.length) (by omega), ← Array.getElem_toList]
      have : d.toList[P.length + t.length]? = some y := by rw [hd, List.getElem?_append_right (by omega), hl, Nat.sub_self]; rfl
      exact (List.getElem?_eq_some_iff.1 this).2
    have g2 : d[P.length + t.length + 1]! = x := by
      rw [getElem!_pos d (P.length + t.length + 1) (by omega), ← Array.getElem_toList]
      have : d.toList[P.length + t.length + 1]? = some x := by rw [hd, List.getElem?_append_right (by omega), hl, Nat.add_sub_cancel_left]; rfl
      exact (List.getElem?_eq_some_iff.1 this).2
    show (if (decide (P.length + t.length + 1 > P.length) && lt d[P.length + t.length + 1]! d[P.length + t.length]!) = true then insInner lt P.length (P.length + t.length) (swp d (P.length + t.length + 1) (P.length + t.length)) else d).toList = _
    rw [g1, g2]
    unfold insRev
    by_cases hc : lt x y = true
    · rw [if_pos (by simp [hc]; omega), if_pos hc]
      have hs := swp_list (P ++ t.reverse) R x y d hd
      rw [hl] at hs
      rw [ih x (y :: R) _ (by rw [hs]; simp)]
      simp
    · rw [if_neg (by simp [hc]), if_neg hc, h]
      simp
theorem insOuterR_list (lt : α → α → Bool) (P Z : List α) : ∀ (D : List α) (Q : List α) (d : Array α), d.toList = P ++ (Q.reverse ++ (D ++ Z)) → (insOuter lt P.length (P.length + (Q.length + D.length)) (P.length + Q.length) d).toList = P ++ ((D.foldl (fun R x => insRev lt x R) Q).reverse ++ Z) := by
  intro D
  induction D with
  | nil =>
    intro Q d h
    unfold insOuter
    rw [if_neg (by simp), h]; rfl
  | cons x t ih =>
    intro Q d h
    have hi := insInnerR_list lt P Q x (t ++ Z) d h
    unfold insOuter
    rw [if_pos (by simp)]
    have := ih (insRev lt x Q) _ hi
    rw [insRev_length] at this
    rw [List.foldl_cons, ← this, List.length_cons]
    congr 1
    congr 1
    · omega
theorem insertionSortR_list (lt : α → α → Bool) (P D Z : List α) (d : Array α) (h : d.toList = P ++ (D ++ Z)) : (insertionSort lt d P.length (P.length + D.length)).toList = P ++ (isort lt D ++ Z) := by
  unfold insertionSort isort
  cases D with
  | nil =>
    unfold insOuter
    rw [if_neg (by simp), h]; rfl
  | cons x t =>
    have := insOuterR_list lt P Z t [x] d (by rw [h]; rfl)
    rw [show P.length + (x :: t).length = P.length + ([x].length + t.length) by simp; omega]
    exact this
end
def tsK (x : Ent) : Int := (x.ts : Int)
theorem ltEnt_eq : ltEnt = fun x y => decide (tsK x < tsK y) := by
  funext x y
  unfold ltEnt tsK
  by_cases h : x.ts < y.ts
  · rw [decide_eq_true h, decide_eq_true (by omega)]
  · rw [decide_eq_false h, decide_eq_false (by omega)]
theorem insortI_any_E (g : Nat) (P D Q : List Ent) (rest : List Value) (cap n A B : Nat) (hn : n = P.length + (D.length + Q.length)) (hA : A = P.length) (hB : B = P.length + D.length) (hl : n ≤ 1000000) (w : World) (h : Blk w g (entsCells (P ++ (D ++ Q)) ++ rest) 40) :
    Calls Try.prog 74 #[.slice (some ⟨g, 0, none⟩) n cap, .int .i64 A, .int .i64 B, .func (.func 55) #[] #[]] w fun e w' => e = .returned (.tuple #[]) ∧ Blk w' g (entsCells (P ++ (isort ltEnt D ++ Q)) ++ rest) 40 ∧ Mod [g] w w' := by
  have hk : ∀ x, (entCells x).length = 3 := fun _ => rfl
  obtain ⟨d, hd⟩ : ∃ d : Array Ent, d.toList = P ++ (D ++ Q) := ⟨(P ++ (D ++ Q)).toArray, rfl⟩
  have hds : d.size = n := by rw [← Array.length_toList, hd, hn]; simp
  have h' : Blk w g (d.toList.flatMap entCells ++ rest) 40 := by rw [hd]; exact h
  have hc := AnyQ.insertionSortCmpFunc Try.insE 3 Try.isAgg40 Try.sizeOf40 entCells hk (by intro x v hv; simp only [entCells, List.mem_cons, List.not_mem_nil, or_false] at hv; rcases hv with rfl | rfl | rfl <;> rfl)
    (fun x y : Ent => cmpI x.ts y.ts) 55 #[] g 0 cap A B d w (enters_of Try.func55 (by kernel_rfl) rfl) (fun _ _ _ _ x y => rising1_any x y _) (holdsK_of_blk entCells 3 hk (by omega) d h') h.lt (by omega) (by omega) (by omega)
  change Calls Try.prog 74 _ _ _ at hc
  rw [hds] at hc
  refine Calls.mono hc ?_
  rintro e w' ⟨rfl, m, os, rfl⟩
  have hi := insertionSortR_list ltEnt P D Q d hd
  rw [show (ltOf fun x y : Ent => cmpI x.ts y.ts) = ltEnt from funext fun x => funext fun y => ltOf_cmp x y]
  rw [hA, hB]
  have hsz : (insertionSort ltEnt d P.length (P.length + D.length)).size = d.size := by
    rw [← Array.length_toList, hi, hds, hn]
    simp [isort_length]
  obtain ⟨hb, hm⟩ := sortK_blk entCells 3 hk (by omega) d (insertionSort ltEnt d P.length (P.length + D.length)) hsz h' m os
  refine ⟨rfl, ?_, hm⟩
  rw [hi] at hb
  exact hb
end Go.Proofs.Ytffianjbljgnaaa

/-! ### SyeA -/
namespace Go.Proofs.Ytffianjbljgnaaa
set_option linter.unusedVariables false
set_option linter.unusedSimpArgs false
open Go.RowKit
theorem ents_set (W : List Ent) (rest : List Value) (i : Nat) (x : Ent) (hi : i < W.length) : ((((entsCells W ++ rest).set (i * 3) (.int .u64 (x.ts : Nat))).set (i * 3 + 1) (.int .u64 (x.first : Nat))).set (i * 3 + 2) (.slice x.a x.n x.c)) = entsCells (W.set i x) ++ rest := by
  have hl := ents_length W
  have e : (((entsCells W).set (i * 3) (.int .u64 (x.ts : Nat))).set (i * 3 + 1) (.int .u64 (x.first : Nat))).set (i * 3 + 2) (.slice x.a x.n x.c) = entsCells (W.set i x) := by
    clear hl
    induction W generalizing i with
    | nil => simp at hi
    | cons q t ih =>
      cases i with
      | zero => rfl
      | succ i =>
        have e : (i + 1) * 3 = i * 3 + 3 := by omega
        have := ih i (by simpa using hi)
        rw [e, List.set_cons_succ]
        show ((((entCells q ++ entsCells t)).set (i * 3 + 3) _).set (i * 3 + 3 + 1) _).set (i * 3 + 3 + 2) _ = entCells q ++ entsCells (t.set i x)
        rw [← this]
        rfl
  rw [List.set_append_left _ _ (by omega), List.set_append_left _ _ (by rw [List.length_set]; omega), List.set_append_left _ _ (by rw [List.length_set, List.length_set]; omega), e]
/-- An entry as it lies in a row. -/
def EntAt (w : World) (g i : Nat) (x : Ent) : Prop := w.cell? ⟨g, i * 3, none⟩ = some (.int .u64 (x.ts : Nat)) ∧ w.cell? ⟨g, i * 3 + 1, none⟩ = some (.int .u64 (x.first : Nat)) ∧ w.cell? ⟨g, i * 3 + 2, none⟩ = some (.slice x.a x.n x.c)
/-- A block whose first cells are entries. -/
def ArrE (w : World) (g : Nat) (d : Array Ent) (rest : List Value) : Prop := Blk w g (entsCells d.toList ++ rest) 40
section
variable {w w' : World} {g : Nat} {d : Array Ent} {rest : List Value}
theorem ArrE.get (h : ArrE w g d rest) {i : Nat} (hi : i < d.size) : EntAt w g i (d[i]!) := by
  have hl : (entsCells d.toList).length = d.size * 3 := by rw [ents_length, Array.length_toList]
  obtain ⟨h0, h1, h2⟩ := ents_get d.toList i d[i]! (by rw [Array.getElem?_toList, getElem!_pos d i hi, Array.getElem?_eq_getElem hi])
  have l0 : i * 3 < (entsCells d.toList).length := by rw [hl]; omega
  have l1 : i * 3 + 1 < (entsCells d.toList).length := by rw [hl]; omega
  have l2 : i * 3 + 2 < (entsCells d.toList).length := by rw [hl]; omega
  exact ⟨by rw [Blk.cell h, List.getElem?_append_left l0]; exact h0, by rw [Blk.cell h, List.getElem?_append_left l1]; exact h1, by rw [Blk.cell h, List.getElem?_append_left l2]; exact h2⟩
theorem ArrE.on (h : ArrE w g d rest) (hb : Below w.heap.size w w') : ArrE w' g d rest := Blk.on h hb
theorem ArrE.lt (h : ArrE w g d rest) : g < w.heap.size := Blk.lt h
theorem ArrE.set (h : ArrE w g d rest) {i : Nat} (hi : i < d.size) (x : Ent) : ArrE (((w.setCell ⟨g, i * 3, none⟩ (.int .u64 (x.ts : Nat))).setCell ⟨g, i * 3 + 1, none⟩ (.int .u64 (x.first : Nat))).setCell ⟨g, i * 3 + 2, none⟩ (.slice x.a x.n x.c)) g (d.setIfInBounds i x) rest := by
  have := ((Blk.set h (i * 3) (.int .u64 (x.ts : Nat))).set (i * 3 + 1) (.int .u64 (x.first : Nat))).set (i * 3 + 2) (.slice x.a x.n x.c)
  rw [ents_set d.toList rest i x (by simpa using hi)] at this
  unfold ArrE
  rw [Array.toList_setIfInBounds]
  exact this
theorem ArrE.swap (h : ArrE w g d rest) {i j : Nat} (hi : i < d.size) (hj : j < d.size) {x y : Ent} (hx : d[i]! = x) (hy : d[j]! = y) :
    ArrE ((((((w.setCell ⟨g, i * 3, none⟩ (.int .u64 (y.ts : Nat))).setCell ⟨g, i * 3 + 1, none⟩ (.int .u64 (y.first : Nat))).setCell ⟨g, i * 3 + 2, none⟩ (.slice y.a y.n y.c)).setCell ⟨g, j * 3, none⟩ (.int .u64 (x.ts : Nat))).setCell ⟨g, j * 3 + 1, none⟩ (.int .u64 (x.first : Nat))).setCell ⟨g, j * 3 + 2, none⟩ (.slice x.a x.n x.c)) g (Sort.swp d i j) rest := by
  subst hx hy
  unfold Sort.swp
  exact (h.set hi _).set (by simpa using hj) _
theorem ArrE.mod {S : List Nat} (h : ArrE w g d rest) (hm : Mod S w w') (hn : g ∉ S) : ArrE w' g d rest := Blk.mod h hm hn
end
end Go.Proofs.Ytffianjbljgnaaa

/-! ### SyeS -/
namespace Go.Proofs.Ytffianjbljgnaaa
set_option linter.unusedVariables false
set_option linter.unusedSimpArgs false
open Go.RowKit
/-- Two parts of the row have changed places. -/
def SwapEnd_E (g : Nat) (n : Nat) (D : List Ent) (rest : List Value) (w : World) (e : Ending) (w' : World) : Prop := e = .returned (.tuple #[]) ∧ ∃ d' : Array Ent, d'.toList = D ∧ d'.size = n ∧ ArrE w' g d' rest ∧ Mod [g] w w'
set_option maxRecDepth 100000 in
set_option maxHeartbeats 4000000 in
theorem swapRange_any_E (g : Nat) (d : Array Ent) (rest : List Value) (cap a b n : Nat) (P X Y Z Q : List Ent) (hd : d.toList = P ++ (X ++ (Y ++ (Z ++ Q)))) (ha : a = P.length) (hX : X.length = n) (hZ : Z.length = n) (hb : b = P.length + X.length + Y.length) (cv : Value) (hcap : d.size ≤ cap) (hsz : d.size ≤ 1000000) (w : World) (h : ArrE w g d rest) :
    Calls Try.prog 106 #[.slice (some ⟨g, 0, none⟩) d.size cap, .int .i64 a, .int .i64 b, .int .i64 n, cv] w (SwapEnd_E g d.size (P ++ (Z ++ (Y ++ (X ++ Q)))) rest w) := by
  have hds : d.size = P.length + (n + (Y.length + (n + Q.length))) := by rw [← Array.length_toList, hd]; simp [hX, hZ]
  have hab : a + n ≤ b := by omega
  have hbn : b + n ≤ d.size := by omega
  have HFin := Lib.hid (show ∀ d' : Array Ent, SwapR d d' a b n → d'.toList = P ++ (Z ++ (Y ++ (X ++ Q))) from fun d' hs => hs.lists hd ha hX hZ hb)
  obtain ⟨N, hN⟩ : ∃ N, d.size = N := ⟨_, rfl⟩
  rw [hN] at hcap hsz hbn ⊢
  have HD := Lib.hid h
  clear h hd ha hX hZ hb hds
  go_enter Try.func106, Try.ntmps106
  go_wp2_with fail
  go_loopw [10] (fun s10 wr => ∃ (i : Nat) (d' : Array Ent), s10 = .int .i64 i ∧ i ≤ n ∧ SwapR d d' a b i ∧ ArrE wr g d' rest ∧ Mod [g] w wr) (fun s10 _ => n - (intOf s10).toNat)
  case atStart => exact ⟨0, d, rfl, Nat.zero_le _, SwapR.start d a b, HD.out, Mod.refl _ _⟩
  case round =>
    obtain ⟨i, d', rfl, hi, hs, hA, hm⟩ := hrel
    have hszd : d'.size = N := by rw [hs.size, hN]
    have HA := Lib.hid hA
    have HM := Lib.hid hm
    have HS := Lib.hid hs
    clear hA hm hs
    by_cases hlt : i < n
    · have hil : (i : Int) < (n : Int) := by omega
      have HSt := Lib.hid (HS.out.step (n := n) hab hlt (by rw [hN]; exact hbn))
      obtain ⟨I, hI⟩ : ∃ I, a + i = I := ⟨_, rfl⟩
      obtain ⟨J, hJ⟩ : ∃ J, b + i = J := ⟨_, rfl⟩
      rw [hI, hJ] at HSt
      have hIi : (a : Int) + (i : Int) = (I : Int) := by omega
      have hJi : (b : Int) + (i : Int) = (J : Int) := by omega
      have hI2 : I < d'.size := by omega
      have hJ2 : J < d'.size := by omega
      have hwI : IntKind.i64.wrap (I : Int) = (I : Int) := IntWalk.i64_in _ (by omega)
      have hwJ : IntKind.i64.wrap (J : Int) = (J : Int) := IntWalk.i64_in _ (by omega)
      have hIn : (I : Int) < (N : Int) := by omega
      have hJn : (J : Int) < (N : Int) := by omega
      clear hI hJ
      go_upto_region 3 with fail
      have HG := Lib.hid (show ∀ w', Below wr.heap.size wr w' → (EntAt w' g I (d'[I]!) ∧ EntAt w' g J (d'[J]!)) from
        fun w' hb => ⟨(HA.out.on hb).get (by omega), (HA.out.on hb).get (by omega)⟩)
      obtain ⟨vI, hvI⟩ : ∃ x, d'[I]! = x := ⟨_, rfl⟩
      obtain ⟨vJ, hvJ⟩ : ∃ x, d'[J]! = x := ⟨_, rfl⟩
      rw [hvI, hvJ] at HG
      refine wp_region_float2 [4, 5, 6, 7] [0, 1, 2, 3, 8, 9, 10, 11, 12, 13, 14, 15, 16, 17, 18, 19] [20, 21, 22, 23] [20, 21, 22, 23] (Below wr.heap.size wr) (by kernel_rfl) (by kernel_rfl) (by kernel_rfl) (by kernel_rfl) (fun c a d v w h => by cases d <;> exact h) (below_drew (Below.refl _ _)) ?_
      have hS : Below wr.heap.size wr { wr with drawn := wr.drawn + 1 } := below_drew (Below.refl _ _)
      generalize ({ wr with drawn := wr.drawn + 1 } : World) = w3 at *
      simp only [pick, List.map_cons, List.map_nil, List.getD_cons_zero, List.getD_cons_succ]
      repeat (
        refine takes_val (v := ?_) ?_ (fun w' hS => ?_) ?_
        rotate_left
        · rfl
        · go_simp
          with_reducible rfl
        simp only [Act.put, List.setIfInBounds_toArray, List.set_cons_zero, List.set_cons_succ])
      refine takes_nil ?_
      repeat (
        refine takes_val (v := ?_) ?_ (fun w' hS => ?_) ?_
        rotate_left
        · rfl
        · obtain ⟨⟨k0, k0b, k0c⟩, ⟨k1, k1b, k1c⟩⟩ := HG.out w' hS
          go_simp
          with_reducible rfl
        simp only [Act.put, List.setIfInBounds_toArray, List.set_cons_zero, List.set_cons_succ])
      refine takes_nil ?_
      obtain ⟨⟨k0, k0b, k0c⟩, ⟨k1, k1b, k1c⟩⟩ := HG.out w3 hS
      have hA3 := HA.out.on hS
      have hM3 := HM.out.thenBelow hS
      have z0 := Blk.free hA3 (I * 3)
      have z0b := Blk.free hA3 (I * 3 + 1)
      have z0c := Blk.free hA3 (I * 3 + 2)
      have hAx := hA3.set (i := I) (by omega) vJ
      have z2 := Blk.free hAx (J * 3)
      have z2b := Blk.free hAx (J * 3 + 1)
      have z2c := Blk.free hAx (J * 3 + 2)
      obtain ⟨z3, z3b, z3c⟩ := hAx.get (i := J) (by simp; omega)
      have hA4 : ArrE ((((((w3.setCell ⟨g, I * 3, none⟩ (.int .u64 (vJ.ts : Nat))).setCell ⟨g, I * 3 + 1, none⟩ (.int .u64 (vJ.first : Nat))).setCell ⟨g, I * 3 + 2, none⟩ (.slice vJ.a vJ.n vJ.c)).setCell ⟨g, J * 3, none⟩ (.int .u64 (vI.ts : Nat))).setCell ⟨g, J * 3 + 1, none⟩ (.int .u64 (vI.first : Nat))).setCell ⟨g, J * 3 + 2, none⟩ (.slice vI.a vI.n vI.c)) g (Sort.swp d' I J) rest := by
        exact hA3.swap (i := I) (j := J) (by omega) (by omega) hvI hvJ
      have hM4 : Mod [g] w ((((((w3.setCell ⟨g, I * 3, none⟩ (.int .u64 (vJ.ts : Nat))).setCell ⟨g, I * 3 + 1, none⟩ (.int .u64 (vJ.first : Nat))).setCell ⟨g, I * 3 + 2, none⟩ (.slice vJ.a vJ.n vJ.c)).setCell ⟨g, J * 3, none⟩ (.int .u64 (vI.ts : Nat))).setCell ⟨g, J * 3 + 1, none⟩ (.int .u64 (vI.first : Nat))).setCell ⟨g, J * 3 + 2, none⟩ (.slice vI.a vI.n vI.c)) := (((((hM3.setCell _ _ (.inl (by simp))).setCell _ _ (.inl (by simp))).setCell _ _ (.inl (by simp))).setCell _ _ (.inl (by simp))).setCell _ _ (.inl (by simp))).setCell _ _ (.inl (by simp))
      clear hAx hA3 hM3
      generalize hz3 : (d'.setIfInBounds I vJ)[J]! = x3 at z3 z3b z3c
      clear hz3 hvI hvJ
      refine seqW_step (by rfl) (fun K hK => ?_)
      go_simp
      refine hK.out _ _ (.inl (by rfl)) ?_
      clear hK K
      refine seqW_step (by rfl) (fun K hK => ?_)
      go_simp
      refine hK.out _ _ (.inl (by rfl)) ?_
      clear hK K
      refine seqW_step (by rfl) (fun K hK => ?_)
      go_simp
      refine hK.out _ _ (.inl (by rfl)) ?_
      clear hK K
      refine seqW_step (by rfl) (fun K hK => ?_)
      go_simp
      refine hK.out _ _ (.inl (by rfl)) (seqW_nil ?_)
      clear hK K HG hS k0 k0b k0c k1 k1b k1c z0 z0b z0c z2 z2b z2c z3 z3b z3c
      generalize ((((((w3.setCell ⟨g, I * 3, none⟩ (.int .u64 (vJ.ts : Nat))).setCell ⟨g, I * 3 + 1, none⟩ (.int .u64 (vJ.first : Nat))).setCell ⟨g, I * 3 + 2, none⟩ (.slice vJ.a vJ.n vJ.c)).setCell ⟨g, J * 3, none⟩ (.int .u64 (vI.ts : Nat))).setCell ⟨g, J * 3 + 1, none⟩ (.int .u64 (vI.first : Nat))).setCell ⟨g, J * 3 + 2, none⟩ (.slice vI.a vI.n vI.c)) = w4 at *
      go_wp2_with fail
      go_roundw
      case rel => exact ⟨i + 1, Sort.swp d' I J, by go_num, by omega, HSt.out, hA4, hM4⟩
      case measure => simp [intOf]; omega
    · have hge : ¬ (i : Int) < (n : Int) := by omega
      have hin : i = n := by omega
      have HE := Lib.hid (show SwapEnd_E g N (P ++ (Z ++ (Y ++ (X ++ Q)))) rest w (.returned (.tuple #[])) wr from ⟨rfl, d', HFin.out d' (by rw [← hin]; exact HS.out), hszd, HA.out, HM.out⟩)
      go_wp2_with fail
      go_end0
      exact HE.out
set_option maxRecDepth 100000 in
set_option maxHeartbeats 4000000 in
theorem rotate_any_E (g : Nat) (d : Array Ent) (rest : List Value) (cap a m b : Nat) (P X Y Q : List Ent) (hd : d.toList = P ++ (X ++ (Y ++ Q))) (ha : a = P.length) (hm : m = P.length + X.length) (hb : b = P.length + X.length + Y.length) (hp1 : 0 < X.length) (hp2 : 0 < Y.length) (cv : Value) (hcap : d.size ≤ cap) (hsz : d.size ≤ 1000000) (w : World) (h : ArrE w g d rest) :
    Calls Try.prog 90 #[.slice (some ⟨g, 0, none⟩) d.size cap, .int .i64 a, .int .i64 m, .int .i64 b, cv] w (SwapEnd_E g d.size (P ++ (Y ++ (X ++ Q))) rest w) := by
  have hds : d.size = P.length + (X.length + (Y.length + Q.length)) := by rw [← Array.length_toList, hd]; simp
  obtain ⟨i0, hi0⟩ : ∃ i, X.length = i := ⟨_, rfl⟩
  obtain ⟨j0, hj0⟩ : ∃ j, Y.length = j := ⟨_, rfl⟩
  have hR := RotAt.start hd hm
  rw [hi0, hj0] at hR
  have hi0i : (m : Int) - (a : Int) = (i0 : Int) := by omega
  have hj0i : (b : Int) - (m : Int) = (j0 : Int) := by omega
  have hwi : IntKind.i64.wrap (i0 : Int) = (i0 : Int) := IntWalk.i64_in _ (by omega)
  have hwj : IntKind.i64.wrap (j0 : Int) = (j0 : Int) := IntWalk.i64_in _ (by omega)
  have hmN : m + j0 ≤ d.size := by omega
  have hi0N : i0 ≤ d.size := by omega
  obtain ⟨N, hN⟩ : ∃ N, d.size = N := ⟨_, rfl⟩
  rw [hN] at hcap hsz hmN hi0N ⊢
  have hij0 : i0 = j0 ∨ (0 < i0 ∧ 0 < j0) := .inr (by omega)
  have HD := Lib.hid h
  have HR := Lib.hid hR
  clear h hd hR hds hm hb ha hi0 hj0 hp1 hp2
  go_enter Try.func90, Try.ntmps90
  go_wp2_with fail
  go_loopw [10, 11] (fun s10 s11 wr => ∃ (i j : Nat) (d' : Array Ent), s10 = .int .i64 i ∧ s11 = .int .i64 j ∧ i ≤ N ∧ m + j ≤ N ∧ (i = j ∨ (0 < i ∧ 0 < j)) ∧ d'.size = N ∧ RotAt d' P X Y Q m i j ∧ ArrE wr g d' rest ∧ Mod [g] w wr) (fun s10 s11 _ => (intOf s10).toNat + (intOf s11).toNat)
  case atStart => exact ⟨i0, j0, d, by first | rfl | go_num | rw [hi0i], by first | rfl | go_num | rw [hj0i], hi0N, hmN, hij0, hN, HR.out, HD.out, Mod.refl _ _⟩
  case round =>
    obtain ⟨i, j, d', rfl, rfl, hi, hmj, hij0, hszd, hr, hA, hm⟩ := hrel
    have HA := Lib.hid hA
    have HM := Lib.hid hm
    clear hA hm
    by_cases heq : i = j
    · subst heq
      have hne : ((i : Int) != (i : Int)) = false := by simp
      obtain ⟨P', X1, Z, R, e1, e2, e2', e3, e4, e5, e6⟩ := hr.same
      obtain ⟨A, hAa⟩ : ∃ A, m - i = A := ⟨_, rfl⟩
      have hAi : (m : Int) - (i : Int) = (A : Int) := by omega
      have hwA : IntKind.i64.wrap (A : Int) = (A : Int) := IntWalk.i64_in _ (by omega)
      have HC := Lib.hid (swapRange_any_E g d' rest cap A m i P' X1 [] Z R e1 (by omega) e3 e4 (by simp; omega) cv (by omega) (by omega) wr HA.out)
      rw [hszd] at HC
      have HE6 := Lib.hid e6
      clear hr e1 e2 e3 e4 e5 e6
      go_wp2_with fail
      refine HC.out.mono ?_
      rintro e w2 ⟨rfl, d2, h1, h2, h3, h4⟩
      have HE := Lib.hid (show SwapEnd_E g N (P ++ (Y ++ (X ++ Q))) rest w (.returned (.tuple #[])) w2 from ⟨rfl, d2, HE6.out d2 h1, h2, h3, HM.out.trans h4⟩)
      clear h1 h2 h3 h4 HC
      go_wp2_with fail
      go_end0
      exact HE.out
    · have hne : ((i : Int) != (j : Int)) = true := by simp; omega
      by_cases hgt : j < i
      · have hgti : (j : Int) < (i : Int) := by omega
        have hgti' : (i : Int) > (j : Int) := by omega
        obtain ⟨P', X1, Y1, Z, R, e1, e2, e2', e3, e4, e5, e6⟩ := hr.big hgt
        obtain ⟨A, hAa⟩ : ∃ A, m - i = A := ⟨_, rfl⟩
        have hAi : (m : Int) - (i : Int) = (A : Int) := by omega
        have hwA : IntKind.i64.wrap (A : Int) = (A : Int) := IntWalk.i64_in _ (by omega)
        have HC := Lib.hid (swapRange_any_E g d' rest cap A m j P' X1 Y1 Z R e1 (by omega) e3 e4 (by omega) cv (by omega) (by omega) wr HA.out)
        rw [hszd] at HC
        have HE6 := Lib.hid e6
        have hij : (i : Int) - (j : Int) = ((i - j : Nat) : Int) := by omega
        clear hr e1 e2 e3 e4 e5 e6
        go_wp2_with fail
        refine HC.out.mono ?_
        rintro e w2 ⟨rfl, d2, h1, h2, h3, h4⟩
        have HR2 := Lib.hid (HE6.out d2 h1)
        have HA2 := Lib.hid h3
        have HM2 := Lib.hid (HM.out.trans h4)
        clear h1 h3 h4 HC HE6
        go_wp2_with fail
        go_roundw
        case rel => exact ⟨i - j, j, d2, by first | go_num | (rw [hij]), rfl, by omega, by omega, .inr (by omega), h2, HR2.out, HA2.out, HM2.out⟩
        case measure => simp [intOf]; omega
      · have hgti : ¬ (j : Int) < (i : Int) := by omega
        have hgti' : ¬ (i : Int) > (j : Int) := by omega
        obtain ⟨P', X1, Y1, Z, R, e1, e2, e2', e3, e4, e5, e6⟩ := hr.small (by omega)
        obtain ⟨A, hAa⟩ : ∃ A, m - i = A := ⟨_, rfl⟩
        obtain ⟨B, hBb⟩ : ∃ B, m + j - i = B := ⟨_, rfl⟩
        have hAi : (m : Int) - (i : Int) = (A : Int) := by omega
        have hBi : (m : Int) + (j : Int) - (i : Int) = (B : Int) := by omega
        have hwA : IntKind.i64.wrap (A : Int) = (A : Int) := IntWalk.i64_in _ (by omega)
        have hwM : IntKind.i64.wrap ((m : Int) + (j : Int)) = (m : Int) + (j : Int) := IntWalk.i64_in _ (by omega)
        have hwB : IntKind.i64.wrap (B : Int) = (B : Int) := IntWalk.i64_in _ (by omega)
        have HC := Lib.hid (swapRange_any_E g d' rest cap A B i P' X1 Y1 Z R e1 (by omega) e3 e4 (by omega) cv (by omega) (by omega) wr HA.out)
        rw [hszd] at HC
        have HE6 := Lib.hid e6
        have hij : (j : Int) - (i : Int) = ((j - i : Nat) : Int) := by omega
        clear hr e1 e2 e3 e4 e5 e6
        go_wp2_with fail
        refine HC.out.mono ?_
        rintro e w2 ⟨rfl, d2, h1, h2, h3, h4⟩
        have HR2 := Lib.hid (HE6.out d2 h1)
        have HA2 := Lib.hid h3
        have HM2 := Lib.hid (HM.out.trans h4)
        clear h1 h3 h4 HC HE6
        go_wp2_with fail
        go_roundw
        case rel => exact ⟨i, j - i, d2, rfl, by first | go_num | (rw [hij]), by omega, by omega, .inr (by omega), h2, HR2.out, HA2.out, HM2.out⟩
        case measure => simp [intOf]; omega
end Go.Proofs.Ytffianjbljgnaaa

/-! ### SyeD -/
namespace Go.Proofs.Ytffianjbljgnaaa
set_option linter.unusedVariables false
set_option linter.unusedSimpArgs false
open Go.RowKit

section
variable {α : Type} {key : α → Int}
theorem ins_left_E {B : List α} (hB : SortedK key B) (x : α) (n : Nat) (hn : n ≤ B.length) (h1 : ∀ y ∈ B.take n, key y < key x) (h2 : ∀ y ∈ B.drop n, key x ≤ key y) :
    SortedK key (B.take n ++ x :: B.drop n) ∧ SameK key ([x] ++ B) (B.take n ++ x :: B.drop n) := by
  have hs := List.take_append_drop n B
  generalize B.take n = B1 at *
  generalize B.drop n = B2 at *
  subst hs
  have := sym_join (key := key) (A1 := []) (A2 := [x]) (B1 := B1) (B2 := B2) (M1 := B1) (M2 := x :: B2) (by simp [SortedK]) hB (by simpa using h1) (by simp) (sorted_left hB) (SameK.refl _) (List.pairwise_cons.2 ⟨h2, sorted_right hB⟩) (SameK.refl _)
  simpa using this
theorem ins_right_E {A : List α} (hA : SortedK key A) (y : α) (n : Nat) (hn : n ≤ A.length) (h1 : ∀ x ∈ A.take n, key x ≤ key y) (h2 : ∀ x ∈ A.drop n, key y < key x) :
    SortedK key (A.take n ++ y :: A.drop n) ∧ SameK key (A ++ [y]) (A.take n ++ y :: A.drop n) := by
  have hs := List.take_append_drop n A
  generalize A.take n = A1 at *
  generalize A.drop n = A2 at *
  subst hs
  have := sym_join (key := key) (A1 := A1) (A2 := A2) (B1 := [y]) (B2 := []) (M1 := A1 ++ [y]) (M2 := A2) hA (by simp [SortedK]) (by simpa using h2) (by simp) (List.pairwise_append.2 ⟨sorted_left hA, by simp, by simpa using h1⟩) (SameK.refl _) (sorted_right hA) (by simpa using SameK.refl A2)
  simpa using this
end
theorem take_pre_E {key : Ent → Int} {R : Int → Prop} (mono : ∀ x y, x ≤ y → R y → R x) {d : Array Ent} {B : List Ent} {o n : Nat} (hB : SortedK key B) (hg : ∀ (i : Nat) (hi : i < B.length), d[o + i]! = B[i]) (hn : n ≤ B.length) (h : n = 0 ∨ R (key d[o + n - 1]!)) : ∀ y ∈ B.take n, R (key y) := by
  intro y hy
  obtain ⟨j, hj, rfl⟩ := List.getElem_of_mem hy
  rw [List.length_take] at hj
  rw [List.getElem_take]
  rcases h with h | h
  · omega
  · have e : d[o + n - 1]! = B[n - 1]'(by omega) := by rw [← hg (n - 1) (by omega)]; congr 1; omega
    rw [e] at h
    exact mono _ _ (sorted_get hB (i := j) (j := n - 1) (by omega) (by omega)) h
theorem drop_suf_E {key : Ent → Int} {R : Int → Prop} (mono : ∀ x y, x ≤ y → R x → R y) {d : Array Ent} {B : List Ent} {o n : Nat} (hB : SortedK key B) (hg : ∀ (i : Nat) (hi : i < B.length), d[o + i]! = B[i]) (hn : n ≤ B.length) (h : n = B.length ∨ R (key d[o + n]!)) : ∀ y ∈ B.drop n, R (key y) := by
  intro y hy
  obtain ⟨j, hj, rfl⟩ := List.getElem_of_mem hy
  rw [List.length_drop] at hj
  rw [List.getElem_drop]
  rcases h with h | h
  · omega
  · rw [hg n (by omega)] at h
    exact mono _ _ (sorted_get hB (i := n) (j := n + j) (by omega) (by omega)) h
theorem bub_next_E (P B Q : List Ent) (x : Ent) (t : Nat) (ht : t < B.length) : P ++ (B.take t ++ (x :: (B.drop t ++ Q))) = (P ++ B.take t) ++ (x :: (B[t] :: (B.drop (t + 1) ++ Q))) ∧ P ++ (B.take (t + 1) ++ (x :: (B.drop (t + 1) ++ Q))) = (P ++ B.take t) ++ (B[t] :: (x :: (B.drop (t + 1) ++ Q))) := by
  refine ⟨?_, ?_⟩
  · rw [List.drop_eq_getElem_cons ht]
    simp only [List.append_assoc, List.cons_append]
  · rw [List.take_add_one, List.getElem?_eq_getElem ht]
    simp only [Option.toList, List.append_assoc, List.cons_append, List.nil_append]
theorem swp_up_E {d : Array Ent} {P R : List Ent} {x y : Ent} {i j : Nat} (hd : d.toList = P ++ (x :: (y :: R))) (hi : i = P.length) (hj : j = P.length + 1) : (Sort.swp d i j).toList = P ++ (y :: (x :: R)) := by
  have hsz : d.size = P.length + (R.length + 2) := by rw [← Array.length_toList, hd]; simp
  have h := (SwapR.start d i j).step (n := 1) (by omega) (by omega) (by omega)
  exact h.lists (P := P) (X := [x]) (Y := []) (Z := [y]) (Q := R) hd hi rfl rfl (by simp; omega)
theorem swp_comm_E (d : Array Ent) {i j : Nat} (hi : i < d.size) (hj : j < d.size) : Sort.swp d i j = Sort.swp d j i := by
  refine Array.ext (by rw [Sort.swp_size, Sort.swp_size]) fun k h1 h2 => ?_
  rw [← getElem!_pos _ k h1, ← getElem!_pos _ k h2, Sort.swp_get _ hi hj, Sort.swp_get _ hj hi]
  by_cases c1 : k = j
  · subst c1
    by_cases c2 : k = i
    · subst c2; rfl
    · rw [if_pos rfl, if_neg c2, if_pos rfl]
  · by_cases c2 : k = i
    · subst c2; rw [if_neg c1, if_pos rfl, if_pos rfl]
    · rw [if_neg c1, if_neg c2, if_neg c2, if_neg c1]
theorem swp_down_E {d : Array Ent} {P R : List Ent} {x y : Ent} {i j : Nat} (hd : d.toList = P ++ (x :: (y :: R))) (hi : i = P.length + 1) (hj : j = P.length) : (Sort.swp d i j).toList = P ++ (y :: (x :: R)) := by
  have hsz : d.size = P.length + (R.length + 2) := by rw [← Array.length_toList, hd]; simp
  rw [swp_comm_E d (by omega) (by omega)]
  exact swp_up_E hd hj hi
/-- What the comparison answers of the elements U, wherever the row alone was turned. -/
structure CmpOk_E (g : Nat) (W0 : World) (CB : Nat) (key : Ent → Int) (U : List Ent) : Prop where
  cmp : ∀ w', Mod [g] W0 w' → ∀ x y, x ∈ U → y ∈ U → Calls Try.prog 55 #[.agg #[.int .u64 (x.ts : Nat), .int .u64 (x.first : Nat), .slice x.a x.n x.c], .agg #[.int .u64 (y.ts : Nat), .int .u64 (y.first : Nat), .slice y.a y.n y.c]] w' fun e w'' => e = .returned (.int .i64 (cmpI (key x) (key y))) ∧ Below w'.heap.size w' w''
theorem CmpOk_E.on {g : Nat} {W0 w : World} {CB : Nat} {key : Ent → Int} {U : List Ent} (h : CmpOk_E g W0 CB key U) (hm : Mod [g] W0 w) : CmpOk_E g w CB key U := ⟨fun w' hm' => h.cmp w' (hm.trans hm')⟩
def SymEnd_E (g n : Nat) (key : Ent → Int) (P AB Q : List Ent) (rest : List Value) (w : World) (e : Ending) (w' : World) : Prop :=
  e = .returned (.tuple #[]) ∧ ∃ (M : List Ent) (d' : Array Ent), SortedK key M ∧ SameK key AB M ∧ d'.toList = P ++ (M ++ Q) ∧ d'.size = n ∧ ArrE w' g d' rest ∧ Mod [g] w w'
def SymGoal_E (N : Nat) : Prop := ∀ (g : Nat) (d : Array Ent) (rest : List Value) (cap a m b : Nat) (P A B Q : List Ent) (CB : Nat) (key : Ent → Int) (w : World), b - a ≤ N → d.toList = P ++ (A ++ (B ++ Q)) → a = P.length → m = P.length + A.length → b = P.length + A.length + B.length → 0 < A.length → 0 < B.length → SortedK key A → SortedK key B →
  d.size ≤ cap → d.size ≤ 1000000 → CmpOk_E g w CB key d.toList → ArrE w g d rest →
  Calls Try.prog 75 #[.slice (some ⟨g, 0, none⟩) d.size cap, .int .i64 a, .int .i64 m, .int .i64 b, .func (.func 55) #[] #[]] w (SymEnd_E g d.size key P (A ++ B) Q rest w)
theorem mem_get_E {d : Array Ent} {i : Nat} (hi : i < d.size) : d[i]! ∈ d.toList := by rw [getElem!_pos d i hi]; exact Array.getElem_mem_toList hi

end Go.Proofs.Ytffianjbljgnaaa
