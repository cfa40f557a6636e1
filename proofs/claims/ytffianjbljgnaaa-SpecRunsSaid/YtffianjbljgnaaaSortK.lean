/-
  Between a row of memory and the kit's words on a sort's world; the insertion sort of the kit's plain layer is the one on lists. No program. No condition.
-/
import Derived.Test.YtffianjbljgnaaaMem
import Derived.Test.YtffianjbljgnaaaSortU
import Derived.Shelf.SlSortCmp.InsertionK
import Derived.Sort.LotA
namespace Go.Proofs.Ytffianjbljgnaaa
set_option linter.unusedVariables false
set_option linter.unusedSimpArgs false
open Go.RowKit Go.Sort Go.Proofs

section
variable {α : Type} [Inhabited α]
theorem flatK_toList (enc : α → List Value) (k : Nat) (hk : ∀ x, (enc x).length = k) (hpos : 0 < k) (d : Array α) : (flatK enc k d).toList = d.toList.flatMap enc := by
  have key : ∀ (l : List α) (f : Nat → α), (∀ i, i < l.length → f i = l[i]!) → (List.range (l.length * k)).map (fun t => (enc (f (t / k)))[t % k]!) = l.flatMap enc := by
    intro l
    induction l with
    | nil => intro f _; simp
    | cons x t ih =>
      intro f hf
      have h0 : f 0 = x := by simpa using hf 0 (by simp)
      rw [List.length_cons, Nat.add_mul, Nat.one_mul, Nat.add_comm, List.range_add, List.map_append, List.flatMap_cons]
      congr 1
      · apply List.ext_getElem?
        intro i
        by_cases hi : i < k
        · rw [List.getElem?_map, List.getElem?_range hi]
          simp only [Option.map_some, Nat.div_eq_of_lt hi, Nat.mod_eq_of_lt hi, h0]
          rw [List.getElem!_eq_getElem?_getD, List.getElem?_eq_getElem (by rw [hk]; exact hi)]
          rfl
        · rw [List.getElem?_eq_none (by simp; omega), List.getElem?_eq_none (by rw [hk]; omega)]
      · rw [List.map_map, ← ih (fun i => f (i + 1)) (fun i hi => by simpa using hf (i + 1) (by simp; omega))]
        refine List.map_congr_left fun a _ => ?_
        show (enc (f ((k + a) / k)))[(k + a) % k]! = _
        rw [Nat.add_comm k a, Nat.add_div_right a hpos, Nat.add_mod_right]
  unfold flatK
  rw [Array.toList_map, Array.toList_range]
  have := key d.toList (fun i => d[i]!) (fun i hi => by rw [getElem!_pos d i (by simpa using hi), getElem!_pos d.toList i hi, Array.getElem_toList])
  simpa using this

theorem holdsK_of_blk (enc : α → List Value) (k : Nat) (hk : ∀ x, (enc x).length = k) (hpos : 0 < k) {w : World} {g : Nat} {T : TypeId} {rest : List Value} (d : Array α) (h : Blk w g (d.toList.flatMap enc ++ rest) T) : HoldsK enc k w g 0 d := by
  intro j hj
  refine ⟨?_, h.free _⟩
  rw [h.cell, Nat.zero_add]
  have e := flatK_toList enc k hk hpos d
  rw [← e, List.getElem?_append_left (by simpa using hj), Array.getElem?_toList, Array.getElem?_eq_getElem hj]
  rw [getElem!_pos (flatK enc k d) j hj]; rfl
theorem sortK_blk (enc : α → List Value) (k : Nat) (hk : ∀ x, (enc x).length = k) (hpos : 0 < k) {w : World} {g : Nat} {T : TypeId} {rest : List Value} (d d' : Array α) (hs : d'.size = d.size) (h : Blk w g (d.toList.flatMap enc ++ rest) T) (n : Nat) (os : Array Obj) :
    Blk (sortWorldK enc k w g 0 n d' os) g (d'.toList.flatMap enc ++ rest) T ∧ Mod [g] w (sortWorldK enc k w g 0 n d' os) := by
  have hg := h.lt
  constructor
  · unfold sortWorldK Blk
    rw [heap_grow_old _ _ (by rw [size_putRowK]; exact hg)]
    unfold Blk at h
    simp only [putRowK, putRow, mapBlock, Sort.ahead, Array.getElem?_modify, if_true, h, Option.map_some, onCells]
    congr 2
    apply Array.ext'
    have e := flatK_toList enc k hk hpos d'
    have e0 := flatK_toList enc k hk hpos d
    have l0 : (d.toList.flatMap enc).length = d.size * k := by rw [← e0, Array.length_toList, size_flatK]
    have l1 : (d'.toList.flatMap enc).length = d.size * k := by rw [← e, Array.length_toList, size_flatK, hs]
    apply List.ext_getElem?
    intro j
    rw [Array.getElem?_toList, Array.getElem?_toList]
    simp only [putCells, Array.getElem?_mapIdx, List.getElem?_toArray, Nat.zero_le, true_and, Nat.zero_add, Nat.sub_zero, size_flatK, hs, id]
    by_cases hj : j < d.size * k
    · rw [List.getElem?_append_left (by omega), List.getElem?_append_left (by omega), List.getElem?_eq_getElem (show j < (d.toList.flatMap enc).length by omega)]
      simp only [Option.map_some, if_pos hj]
      rw [← e, Array.getElem?_toList, Array.getElem?_eq_getElem (by rw [size_flatK, hs]; exact hj), getElem!_pos (flatK enc k d') j (by rw [size_flatK, hs]; exact hj)]
    · rw [List.getElem?_append_right (by omega), List.getElem?_append_right (by omega), l0, l1]
      simp only [if_neg hj]
      cases rest[j - d.size * k]? <;> rfl
  · refine ⟨rfl, rfl, rfl, ?_, fun b hb hn => ?_⟩
    · unfold sortWorldK; rw [size_grow, size_putRowK]; exact Nat.le_add_right _ _
    · unfold sortWorldK
      rw [heap_grow_old _ _ (by rw [size_putRowK]; exact hb)]
      have : g ≠ b := fun e => hn (by simp [e])
      simp [putRowK, putRow, mapBlock, Sort.ahead, Array.getElem?_modify, this]

theorem swp_list (L R : List α) (x y : α) (d : Array α) (h : d.toList = L ++ y :: x :: R) : (swp d (L.length + 1) L.length).toList = L ++ x :: y :: R := by
  have hsz : d.size = L.length + (R.length + 1 + 1) := by rw [← Array.length_toList, h]; simp
  have g1 : d[L.length]! = y := by
    rw [getElem!_pos d L.length (by omega), ← Array.getElem_toList]
    have : d.toList[L.length]? = some y := by rw [h]; simp
    exact (List.getElem?_eq_some_iff.1 this).2
  have g2 : d[L.length + 1]! = x := by
    rw [getElem!_pos d (L.length + 1) (by omega), ← Array.getElem_toList]
    have : d.toList[L.length + 1]? = some x := by rw [h, List.getElem?_append_right (by omega), Nat.add_sub_cancel_left]; rfl
    exact (List.getElem?_eq_some_iff.1 this).2
  unfold swp
  rw [g1, g2, Array.toList_setIfInBounds, Array.toList_setIfInBounds, h]
  rw [List.set_append_right _ _ (by omega), Nat.add_sub_cancel_left, List.set_append_right _ _ (by omega), Nat.sub_self]
  rfl
theorem insInner_list (lt : α → α → Bool) : ∀ (Q : List α) (x : α) (R : List α) (d : Array α), d.toList = Q.reverse ++ x :: R → (insInner lt 0 Q.length d).toList = (insRev lt x Q).reverse ++ R := by
  intro Q
  induction Q with
  | nil => intro x R d h; simpa [insInner, insRev] using h
  | cons y t ih =>
    intro x R d h
    have hd : d.toList = t.reverse ++ y :: x :: R := by rw [h]; simp
    have hsz : d.size = t.length + (R.length + 1 + 1) := by rw [← Array.length_toList, hd]; simp
    have g1 : d[t.length]! = y := by
      rw [getElem!_pos d t.length (by omega), ← Array.getElem_toList]
      have : d.toList[t.length]? = some y := by rw [hd]; simp
      exact (List.getElem?_eq_some_iff.1 this).2
    have g2 : d[t.length + 1]! = x := by
      rw [getElem!_pos d (t.length + 1) (by omega), ← Array.getElem_toList]
      have : d.toList[t.length + 1]? = some x := by rw [hd, List.getElem?_append_right (by simp), List.length_reverse, Nat.add_sub_cancel_left]; rfl
      exact (List.getElem?_eq_some_iff.1 this).2
    show (if (decide (t.length + 1 > 0) && lt d[t.length + 1]! d[t.length]!) = true then insInner lt 0 t.length (swp d (t.length + 1) t.length) else d).toList = _
    rw [g1, g2]
    unfold insRev
    by_cases hl : lt x y = true
    · rw [if_pos (by simp [hl]), if_pos hl]
      have hs := swp_list t.reverse R x y d hd
      rw [List.length_reverse] at hs
      rw [ih x (y :: R) _ hs]
      simp
    · rw [if_neg (by simp [hl]), if_neg hl, h]
      simp
theorem insOuter_list (lt : α → α → Bool) : ∀ (D : List α) (Q : List α) (d : Array α), d.toList = Q.reverse ++ D → (insOuter lt 0 d.size Q.length d).toList = (D.foldl (fun R x => insRev lt x R) Q).reverse := by
  intro D
  induction D with
  | nil =>
    intro Q d h
    have : d.size = Q.length := by rw [← Array.length_toList, h]; simp
    unfold insOuter
    rw [if_neg (by omega), h]; simp
  | cons x t ih =>
    intro Q d h
    have hsz : d.size = Q.length + (t.length + 1) := by rw [← Array.length_toList, h]; simp
    have hi := insInner_list lt Q x t d h
    have hsi : (insInner lt 0 Q.length d).size = d.size := by rw [← Array.length_toList, hi]; simp [insRev_length]; omega
    unfold insOuter
    rw [if_pos (by omega)]
    have := ih (insRev lt x Q) _ hi
    rw [insRev_length, hsi] at this
    rw [List.foldl_cons]
    exact this
theorem insertionSort_list (lt : α → α → Bool) (d : Array α) : (insertionSort lt d 0 d.size).toList = isort lt d.toList := by
  unfold insertionSort isort
  cases hd : d.toList with
  | nil =>
    have : d.size = 0 := by rw [← Array.length_toList, hd]; rfl
    unfold insOuter
    rw [if_neg (by omega), hd]; rfl
  | cons x t =>
    have := insOuter_list lt t [x] d (by rw [hd]; rfl)
    rw [show [x].length = 0 + 1 from rfl] at this
    rw [this]; rfl
end
theorem isort_map {α β : Type} (f : β → α) (lt : α → α → Bool) (l : List β) : isort lt (l.map f) = (isort (fun x y => lt (f x) (f y)) l).map f := by
  have h1 : ∀ (x : β) (Q : List β), insRev lt (f x) (Q.map f) = (insRev (fun x y => lt (f x) (f y)) x Q).map f := by
    intro x Q
    induction Q with
    | nil => rfl
    | cons y t ih =>
      unfold insRev
      rw [List.map_cons]
      dsimp only
      split
      · rw [List.map_cons, ih]
      · rfl
  have h2 : ∀ (l Q : List β), (l.map f).foldl (fun R x => insRev lt x R) (Q.map f) = (l.foldl (fun R x => insRev (fun x y => lt (f x) (f y)) x R) Q).map f := by
    intro l
    induction l with
    | nil => intro Q; rfl
    | cons x t ih => intro Q; rw [List.map_cons, List.foldl_cons, List.foldl_cons, h1, ih]
  unfold isort
  have := h2 l []
  rw [List.map_nil] at this
  rw [this, List.map_reverse]
end Go.Proofs.Ytffianjbljgnaaa
