/-
  Texts folded into one: SymP, SymA, SymS, SymD.
-/
import Derived.Test.YtffianjbljgnaaaIns
import Derived.Sort.LotA
import Derived.Test.YtffianjbljgnaaaStab
import Derived.Test.YtffianjbljgnaaaSettleF
import Derived.Deep.DeepCutAuto
import Derived.Deep.CutBlock

/-! ### SymP -/
namespace Go.Proofs.Ytffianjbljgnaaa
set_option linter.unusedVariables false
set_option linter.unusedSimpArgs false
open Go.RowKit Go.Sort

section
variable {α : Type} (key : α → Int)
/-- The same things, those of one key in the same order. -/
def SameK (D E : List α) : Prop := ∀ k : Int, D.filter (fun x => decide (key x = k)) = E.filter (fun x => decide (key x = k))
variable {key}
theorem SameK.refl (D : List α) : SameK key D D := fun _ => rfl
theorem SameK.symm {D E : List α} (h : SameK key D E) : SameK key E D := fun k => (h k).symm
theorem SameK.trans {D E F : List α} (h : SameK key D E) (h' : SameK key E F) : SameK key D F := fun k => (h k).trans (h' k)
theorem SameK.app {D E D' E' : List α} (h : SameK key D E) (h' : SameK key D' E') : SameK key (D ++ D') (E ++ E') := fun k => by
  rw [List.filter_append, List.filter_append, h k, h' k]
theorem SameK.mem {D E : List α} (h : SameK key D E) (x : α) : x ∈ D ↔ x ∈ E := by
  have e : ∀ D : List α, x ∈ D ↔ x ∈ D.filter (fun y => decide (key y = key x)) := fun D => by simp
  rw [e D, e E, h (key x)]
theorem SameK.perm {D E : List α} (h : SameK key D E) : D.Perm E := by
  classical
  refine List.perm_iff_count.2 fun x => ?_
  have e : ∀ D : List α, D.count x = (D.filter (fun y => decide (key y = key x))).count x := fun D => (List.count_filter (by simp)).symm
  rw [e D, e E, h (key x)]
theorem SameK.swap {X Y : List α} (h : ∀ x ∈ X, ∀ y ∈ Y, key x ≠ key y) : SameK key (X ++ Y) (Y ++ X) := fun k => by
  rw [List.filter_append, List.filter_append]
  by_cases hx : ∃ x ∈ X, key x = k
  · obtain ⟨x, hx, rfl⟩ := hx
    have e : Y.filter (fun y => decide (key y = key x)) = [] := List.filter_eq_nil_iff.2 fun y hy => by
      have := h x hx y hy
      simp only [decide_eq_true_eq]
      exact fun e => this e.symm
    rw [e, List.append_nil, List.nil_append]
  · have e : X.filter (fun y => decide (key y = k)) = [] := List.filter_eq_nil_iff.2 fun x hx' => by
      simp only [decide_eq_true_eq]
      exact fun e => hx ⟨x, hx', e⟩
    rw [e, List.append_nil, List.nil_append]
variable (key)
def SortedK (D : List α) : Prop := D.Pairwise fun a b => key a ≤ key b
variable {key}
theorem sameK_unique {L L' : List α} (h : SortedK key L) (h' : SortedK key L') (hs : SameK key L L') : L = L' := by
  induction L generalizing L' with
  | nil => exact (hs.perm.symm.eq_nil).symm
  | cons a t ih =>
    cases L' with
    | nil => have := hs.perm.length_eq; simp at this
    | cons b t' =>
      obtain ⟨h1, h2⟩ := List.pairwise_cons.1 h
      obtain ⟨h3, h4⟩ := List.pairwise_cons.1 h'
      have e : key a = key b := by
        have a1 : a ∈ b :: t' := (hs.mem a).1 (by simp)
        have a2 : b ∈ a :: t := (hs.mem b).2 (by simp)
        have b1 : key b ≤ key a := by
          rcases List.mem_cons.1 a1 with rfl | a1
          · exact Int.le_refl _
          · exact h3 a a1
        have b2 : key a ≤ key b := by
          rcases List.mem_cons.1 a2 with rfl | a2
          · exact Int.le_refl _
          · exact h1 b a2
        omega
      have e2 := hs (key a)
      rw [List.filter_cons, List.filter_cons, if_pos (by simp), if_pos (by simp [e])] at e2
      injection e2 with e3 e4
      subst e3
      rw [ih h2 h4 (fun k => ?_)]
      have := hs k
      rw [List.filter_cons, List.filter_cons] at this
      split at this
      · injection this
      · exact this
theorem insRev_same (x : α) (R : List α) : SameK key (insRev (fun x y => decide (key x < key y)) x R) (x :: R) := by
  induction R with
  | nil => exact SameK.refl _
  | cons y t ih =>
    unfold insRev
    split
    · rename_i h
      have hne : key y ≠ key x := by have := of_decide_eq_true h; omega
      have h1 : SameK key ([y] ++ insRev (fun x y => decide (key x < key y)) x t) ([y] ++ (x :: t)) := SameK.app (SameK.refl [y]) ih
      have h2 : SameK key (([y] ++ [x]) ++ t) (([x] ++ [y]) ++ t) := SameK.app (SameK.swap (by simpa using hne)) (SameK.refl t)
      exact h1.trans h2
    · exact SameK.refl _
theorem SameK.rev {D E : List α} (h : SameK key D E) : SameK key D.reverse E.reverse := fun k => by rw [List.filter_reverse, List.filter_reverse, h k]
theorem isort_same (d : List α) : SameK key (isort (fun x y => decide (key x < key y)) d) d := by
  unfold isort
  have : ∀ (d R : List α), SameK key (d.foldl (fun R x => insRev (fun x y => decide (key x < key y)) x R) R).reverse (R.reverse ++ d) := by
    intro d
    induction d with
    | nil => intro R; rw [List.append_nil]; exact SameK.refl _
    | cons x t ih =>
      intro R
      rw [List.foldl_cons]
      refine (ih _).trans ?_
      have h2 := ((insRev_same (key := key) x R).rev).app (SameK.refl t)
      rw [List.reverse_cons, List.append_assoc] at h2
      exact h2
  exact this d []
theorem mem_insRevS {α : Type} (lt : α → α → Bool) (x y : α) (l : List α) : y ∈ insRev lt x l ↔ y = x ∨ y ∈ l := by
  induction l with
  | nil => simp [insRev]
  | cons z t ih =>
    unfold insRev
    split
    · simp only [List.mem_cons, ih]
      exact ⟨fun h => h.elim (fun h => .inr (.inl h)) (fun h => h.elim .inl (fun h => .inr (.inr h))), fun h => h.elim (fun h => .inr (.inl h)) (fun h => h.elim .inl (fun h => .inr (.inr h)))⟩
    · simp
theorem insRev_dsc (x : α) (R : List α) (h : R.Pairwise fun a b => key b ≤ key a) : (insRev (fun x y => decide (key x < key y)) x R).Pairwise fun a b => key b ≤ key a := by
  induction R with
  | nil => simp [insRev]
  | cons y t ih =>
    obtain ⟨h1, h2⟩ := List.pairwise_cons.1 h
    unfold insRev
    by_cases hl : key x < key y
    · rw [if_pos (by simp [hl])]
      refine List.pairwise_cons.2 ⟨fun b hb => ?_, ih h2⟩
      rcases (mem_insRevS _ _ _ _).1 hb with rfl | hb
      · omega
      · exact h1 b hb
    · rw [if_neg (by simp [hl])]
      refine List.pairwise_cons.2 ⟨fun b hb => ?_, h⟩
      rcases List.mem_cons.1 hb with rfl | hb
      · omega
      · have := h1 b hb; omega
theorem isort_ascK (d : List α) : SortedK key (isort (fun x y => decide (key x < key y)) d) := by
  unfold isort SortedK
  rw [List.pairwise_reverse]
  have : ∀ (d R : List α), R.Pairwise (fun a b => key b ≤ key a) → (d.foldl (fun R x => insRev (fun x y => decide (key x < key y)) x R) R).Pairwise (fun a b => key b ≤ key a) := by
    intro d
    induction d with
    | nil => intro R h; exact h
    | cons x t ih => intro R h; rw [List.foldl_cons]; exact ih _ (insRev_dsc x R h)
  exact this d [] List.Pairwise.nil
/-- Whatever is sorted and has kept the order of equals is the insertion sort. -/
theorem isort_of_same {D E : List α} (h : SortedK key E) (hs : SameK key D E) : E = isort (fun x y => decide (key x < key y)) D :=
  sameK_unique h (isort_ascK D) (hs.symm.trans (isort_same D).symm)
theorem sorted_left {A B : List α} (h : SortedK key (A ++ B)) : SortedK key A := (List.pairwise_append.1 h).1
theorem sorted_right {A B : List α} (h : SortedK key (A ++ B)) : SortedK key B := (List.pairwise_append.1 h).2.1
/-- A merge by halves, joined. -/
theorem sym_join {A1 A2 B1 B2 M1 M2 : List α} (hA : SortedK key (A1 ++ A2)) (hB : SortedK key (B1 ++ B2)) (h1 : ∀ x ∈ A2, ∀ y ∈ B1, key y < key x) (h2 : ∀ x ∈ A1, ∀ y ∈ B2, key x ≤ key y)
    (s1 : SortedK key M1) (e1 : SameK key (A1 ++ B1) M1) (s2 : SortedK key M2) (e2 : SameK key (A2 ++ B2) M2) :
    SortedK key (M1 ++ M2) ∧ SameK key ((A1 ++ A2) ++ (B1 ++ B2)) (M1 ++ M2) := by
  refine ⟨List.pairwise_append.2 ⟨s1, s2, fun x hx y hy => ?_⟩, ?_⟩
  · have hx := List.mem_append.1 ((e1.mem x).2 hx)
    have hy := List.mem_append.1 ((e2.mem y).2 hy)
    rcases hx with hx | hx <;> rcases hy with hy | hy
    · exact (List.pairwise_append.1 hA).2.2 x hx y hy
    · exact h2 x hx y hy
    · exact Int.le_of_lt (h1 y hy x hx)
    · exact (List.pairwise_append.1 hB).2.2 x hx y hy
  · have h3 : SameK key (A2 ++ B1) (B1 ++ A2) := SameK.swap fun x hx y hy => by have := h1 x hx y hy; omega
    have h4 : SameK key (A1 ++ ((A2 ++ B1) ++ B2)) (A1 ++ ((B1 ++ A2) ++ B2)) := (SameK.refl A1).app (h3.app (SameK.refl B2))
    have h5 : SameK key ((A1 ++ B1) ++ (A2 ++ B2)) (M1 ++ M2) := e1.app e2
    have h6 : (A1 ++ A2) ++ (B1 ++ B2) = A1 ++ ((A2 ++ B1) ++ B2) := by simp
    have h7 : A1 ++ ((B1 ++ A2) ++ B2) = (A1 ++ B1) ++ (A2 ++ B2) := by simp
    rw [h6]
    rw [h7] at h4
    exact h4.trans h5
end

section
variable {α : Type} {key : α → Int}
/-- How far a rotation has come. -/
structure RotAt (d : Array α) (P X Y Q : List α) (m i j : Nat) : Prop where
  ex : ∃ L X' Y' Q' : List α, d.toList = P ++ (L ++ (X' ++ (Y' ++ (Q' ++ Q)))) ∧ X'.length = i ∧ Y'.length = j ∧ P.length + L.length + i = m ∧ L ++ (Y' ++ (X' ++ Q')) = Y ++ X
theorem RotAt.start {d : Array α} {P X Y Q : List α} {m : Nat} (h : d.toList = P ++ (X ++ (Y ++ Q))) (hm : m = P.length + X.length) : RotAt d P X Y Q m X.length Y.length :=
  ⟨[], X, Y, [], by simpa using h, rfl, rfl, by simp [hm], by simp⟩
theorem RotAt.big {d : Array α} {P X Y Q : List α} {m i j : Nat} (h : RotAt d P X Y Q m i j) (hij : j < i) :
    ∃ P' X1 Mid Z R : List α, d.toList = P' ++ (X1 ++ (Mid ++ (Z ++ R))) ∧ m - i = P'.length ∧ i ≤ m ∧ X1.length = j ∧ Z.length = j ∧ m = P'.length + X1.length + Mid.length ∧ ∀ d' : Array α, d'.toList = P' ++ (Z ++ (Mid ++ (X1 ++ R))) → RotAt d' P X Y Q m (i - j) j := by
  obtain ⟨L, X', Y', Q', hd, hX, hY, hm, he⟩ := h.ex
  have hl1 : (X'.take j).length = j := by rw [List.length_take]; omega
  have hl2 : (X'.drop j).length = i - j := by rw [List.length_drop]; omega
  have hsp := List.take_append_drop j X'
  generalize X'.take j = X1 at *
  generalize X'.drop j = X2 at *
  subst hsp
  refine ⟨P ++ L, X1, X2, Y', Q' ++ Q, by rw [hd]; simp, by simp; omega, by omega, hl1, hY, by simp; omega, fun d' hd' => ⟨L ++ Y', X2, X1, Q', by rw [hd']; simp, hl2, hl1, by simp; omega, ?_⟩⟩
  rw [← he]; simp
theorem RotAt.small {d : Array α} {P X Y Q : List α} {m i j : Nat} (h : RotAt d P X Y Q m i j) (hij : i < j) :
    ∃ P' X1 Mid Z R : List α, d.toList = P' ++ (X1 ++ (Mid ++ (Z ++ R))) ∧ m - i = P'.length ∧ i ≤ m ∧ X1.length = i ∧ Z.length = i ∧ m + j - i = P'.length + X1.length + Mid.length ∧ ∀ d' : Array α, d'.toList = P' ++ (Z ++ (Mid ++ (X1 ++ R))) → RotAt d' P X Y Q m i (j - i) := by
  obtain ⟨L, X', Y', Q', hd, hX, hY, hm, he⟩ := h.ex
  have hl1 : (Y'.take (j - i)).length = j - i := by rw [List.length_take]; omega
  have hl2 : (Y'.drop (j - i)).length = i := by rw [List.length_drop]; omega
  have hsp := List.take_append_drop (j - i) Y'
  generalize Y'.take (j - i) = Y1 at *
  generalize Y'.drop (j - i) = Y2 at *
  subst hsp
  refine ⟨P ++ L, X', Y1, Y2, Q' ++ Q, by rw [hd]; simp, by simp; omega, by omega, hX, hl2, by simp; omega, fun d' hd' => ⟨L, Y2, Y1, X' ++ Q', by rw [hd']; simp, hl2, hl1, by omega, ?_⟩⟩
  rw [← he]; simp
theorem RotAt.same {d : Array α} {P X Y Q : List α} {m i : Nat} (h : RotAt d P X Y Q m i i) :
    ∃ P' X1 Z R : List α, d.toList = P' ++ (X1 ++ ([] ++ (Z ++ R))) ∧ m - i = P'.length ∧ i ≤ m ∧ X1.length = i ∧ Z.length = i ∧ m = P'.length + X1.length ∧ ∀ d' : Array α, d'.toList = P' ++ (Z ++ ([] ++ (X1 ++ R))) → d'.toList = P ++ (Y ++ (X ++ Q)) := by
  obtain ⟨L, X', Y', Q', hd, hX, hY, hm, he⟩ := h.ex
  refine ⟨P ++ L, X', Y', Q' ++ Q, by rw [hd]; simp, by simp; omega, by omega, hX, hY, by simp; omega, fun d' hd' => ?_⟩
  have : d'.toList = P ++ ((L ++ (Y' ++ (X' ++ Q'))) ++ Q) := by rw [hd']; simp
  rw [this, he]; simp
theorem sorted_get {A : List α} (h : SortedK key A) {i j : Nat} (hij : i ≤ j) (hj : j < A.length) : key (A[i]'(by omega)) ≤ key A[j] := by
  rcases Nat.lt_or_ge i j with h1 | h1
  · exact (List.pairwise_iff_getElem.1 h) i j (by omega) hj h1
  · have : i = j := by omega
    subst this
    exact Int.le_refl _
end
section
variable {α : Type} [Inhabited α] {key : α → Int}
theorem toList_get {d : Array α} {k : Nat} (hk : k < d.size) : d.toList[k]? = some d[k]! := by
  rw [Array.getElem?_toList, getElem!_pos d k hk, Array.getElem?_eq_getElem hk]
/-- Two parts of an array have changed places, as far as i. -/
structure SwapR (d d' : Array α) (a b i : Nat) : Prop where
  size : d'.size = d.size
  get : ∀ k, d'[k]! = if a ≤ k ∧ k < a + i then d[k - a + b]! else if b ≤ k ∧ k < b + i then d[k - b + a]! else d[k]!
theorem SwapR.start (d : Array α) (a b : Nat) : SwapR d d a b 0 := ⟨rfl, fun k => by rw [if_neg (by omega), if_neg (by omega)]⟩
theorem SwapR.step {d d' : Array α} {a b n i : Nat} (h : SwapR d d' a b i) (hab : a + n ≤ b) (hi : i < n) (hs : b + n ≤ d.size) : SwapR d (swp d' (a + i) (b + i)) a b (i + 1) := by
  refine ⟨by rw [swp_size, h.size], fun k => ?_⟩
  rw [swp_get _ (by rw [h.size]; omega) (by rw [h.size]; omega)]
  by_cases h1 : k = b + i
  · subst h1
    rw [if_pos rfl, h.get, if_neg (by omega), if_neg (by omega), if_neg (by omega), if_pos (by omega)]
    congr 1; omega
  · by_cases h2 : k = a + i
    · subst h2
      rw [if_neg h1, if_pos rfl, h.get, if_neg (by omega), if_neg (by omega), if_pos (by omega)]
      congr 1; omega
    · rw [if_neg h1, if_neg h2, h.get]
      by_cases h3 : a ≤ k ∧ k < a + i
      · rw [if_pos h3, if_pos (show a ≤ k ∧ k < a + (i + 1) by omega)]
      · rw [if_neg h3, if_neg (show ¬ (a ≤ k ∧ k < a + (i + 1)) by omega)]
        by_cases h4 : b ≤ k ∧ k < b + i
        · rw [if_pos h4, if_pos (show b ≤ k ∧ k < b + (i + 1) by omega)]
        · rw [if_neg h4, if_neg (show ¬ (b ≤ k ∧ k < b + (i + 1)) by omega)]
theorem SwapR.lists {d d' : Array α} {a b n : Nat} {P X Y Z Q : List α} (h : SwapR d d' a b n) (hd : d.toList = P ++ (X ++ (Y ++ (Z ++ Q)))) (ha : a = P.length) (hX : X.length = n) (hZ : Z.length = n) (hb : b = P.length + X.length + Y.length) :
    d'.toList = P ++ (Z ++ (Y ++ (X ++ Q))) := by
  have hsz : d.size = P.length + (n + (Y.length + (n + Q.length))) := by rw [← Array.length_toList, hd]; simp [hX, hZ]
  have hG : ∀ k, k < d.size → (P ++ (X ++ (Y ++ (Z ++ Q))))[k]? = some d[k]! := fun k hk => by rw [← hd]; exact toList_get hk
  refine List.ext_getElem? fun k => ?_
  by_cases hk : k < d.size
  · rw [toList_get (by rw [h.size]; exact hk), h.get]
    by_cases c1 : k < P.length
    · rw [if_neg (by omega), if_neg (by omega), ← hG k hk, List.getElem?_append_left c1, List.getElem?_append_left c1]
    · by_cases c2 : k < P.length + n
      · rw [if_pos (by omega), ← hG _ (by omega), List.getElem?_append_right (by omega), List.getElem?_append_right (by omega), List.getElem?_append_right (by omega), List.getElem?_append_left (by omega), List.getElem?_append_right (by omega), List.getElem?_append_left (by omega)]
        congr 1; omega
      · by_cases c3 : k < P.length + n + Y.length
        · rw [if_neg (by omega), if_neg (by omega), ← hG k hk, List.getElem?_append_right (by omega), List.getElem?_append_right (by omega), List.getElem?_append_left (by omega), List.getElem?_append_right (by omega), List.getElem?_append_right (by omega), List.getElem?_append_left (by omega)]
          congr 1; omega
        · by_cases c4 : k < P.length + n + Y.length + n
          · rw [if_neg (by omega), if_pos (by omega), ← hG _ (by omega), List.getElem?_append_right (by omega), List.getElem?_append_left (by omega), List.getElem?_append_right (by omega), List.getElem?_append_right (by omega), List.getElem?_append_right (by omega), List.getElem?_append_left (by omega)]
            congr 1; omega
          · rw [if_neg (by omega), if_neg (by omega), ← hG k hk, List.getElem?_append_right (by omega), List.getElem?_append_right (by omega), List.getElem?_append_right (by omega), List.getElem?_append_right (by omega), List.getElem?_append_right (by omega), List.getElem?_append_right (by omega), List.getElem?_append_right (by omega), List.getElem?_append_right (by omega)]
            congr 1; omega
  · have e1 : d'.toList.length = d.size := by rw [Array.length_toList, h.size]
    rw [List.getElem?_eq_none (by omega), List.getElem?_eq_none (by simp only [List.length_append]; omega)]
/-- Where an array reads in its two sorted parts. -/
theorem get_A {d : Array α} {P A R : List α} (hd : d.toList = P ++ (A ++ R)) {i : Nat} (hi : i < A.length) : d[P.length + i]! = A[i] := by
  have hsz : d.size = P.length + (A.length + R.length) := by rw [← Array.length_toList, hd]; simp
  have := toList_get (d := d) (k := P.length + i) (by omega)
  rw [hd, List.getElem?_append_right (by omega), List.getElem?_append_left (by omega), Nat.add_sub_cancel_left, List.getElem?_eq_getElem hi] at this
  injection this with this
  exact this.symm
theorem get_B {d : Array α} {P A B R : List α} (hd : d.toList = P ++ (A ++ (B ++ R))) {i : Nat} (hi : i < B.length) : d[P.length + A.length + i]! = B[i] := by
  have := get_A (P := P ++ A) (A := B) (R := R) (d := d) (by rw [hd]; simp) hi
  rw [List.length_append] at this
  exact this
/-- Where the search by halves ends, the parts are cut. -/
theorem sym_split {d : Array α} {P A B Q : List α} {a m b s e : Nat} (hd : d.toList = P ++ (A ++ (B ++ Q))) (ha : a = P.length) (hm : m = P.length + A.length) (hb : b = P.length + A.length + B.length) (hA : SortedK key A) (hB : SortedK key B)
    (h1 : a ≤ s) (h2 : s ≤ m) (h3 : m ≤ e) (h4 : e ≤ b) (c1 : s = a ∨ e = b ∨ key d[s - 1]! ≤ key d[e]!) (c2 : s = m ∨ e = m ∨ key d[e - 1]! < key d[s]!) :
    ∃ A1 A2 B1 B2 : List α, A = A1 ++ A2 ∧ B = B1 ++ B2 ∧ A1.length = s - a ∧ B1.length = e - m ∧ (∀ x ∈ A2, ∀ y ∈ B1, key y < key x) ∧ ∀ x ∈ A1, ∀ y ∈ B2, key x ≤ key y := by
  refine ⟨A.take (s - a), A.drop (s - a), B.take (e - m), B.drop (e - m), (List.take_append_drop _ _).symm, (List.take_append_drop _ _).symm, by rw [List.length_take]; omega, by rw [List.length_take]; omega, ?_, ?_⟩
  · intro x hx y hy
    obtain ⟨i, hi, rfl⟩ := List.getElem_of_mem hx
    obtain ⟨j, hj, rfl⟩ := List.getElem_of_mem hy
    rw [List.length_drop] at hi
    rw [List.length_take] at hj
    rw [List.getElem_drop, List.getElem_take]
    rcases c2 with c2 | c2 | c2
    · omega
    · omega
    · have e1 : d[s]! = A[s - a]'(by omega) := by
        have := get_A hd (i := s - a) (by omega)
        rw [← this]; congr 1; omega
      have e2 : d[e - 1]! = B[e - 1 - m]'(by omega) := by
        have := get_B hd (i := e - 1 - m) (by omega)
        rw [← this]; congr 1; omega
      have g1 := sorted_get hA (i := s - a) (j := s - a + i) (by omega) (by omega)
      have g2 := sorted_get hB (i := j) (j := e - 1 - m) (by omega) (by omega)
      rw [e1, e2] at c2
      omega
  · intro x hx y hy
    obtain ⟨i, hi, rfl⟩ := List.getElem_of_mem hx
    obtain ⟨j, hj, rfl⟩ := List.getElem_of_mem hy
    rw [List.length_take] at hi
    rw [List.length_drop] at hj
    rw [List.getElem_drop, List.getElem_take]
    rcases c1 with c1 | c1 | c1
    · omega
    · omega
    · have e1 : d[s - 1]! = A[s - 1 - a]'(by omega) := by
        have := get_A hd (i := s - 1 - a) (by omega)
        rw [← this]; congr 1; omega
      have e2 : d[e]! = B[e - m]'(by omega) := by
        have := get_B hd (i := e - m) (by omega)
        rw [← this]; congr 1; omega
      have g1 := sorted_get hA (i := i) (j := s - 1 - a) (by omega) (by omega)
      have g2 := sorted_get hB (i := e - m) (j := e - m + j) (by omega) (by omega)
      rw [e1, e2] at c1
      omega
end
end Go.Proofs.Ytffianjbljgnaaa

/-! ### SymA -/
namespace Go.Proofs.Ytffianjbljgnaaa
set_option linter.unusedVariables false
set_option linter.unusedSimpArgs false
open Go.RowKit
/-- A block whose first cells are an array. -/
def ArrI (w : World) (g : Nat) (d : Array Nat) (rest : List Value) : Prop := Blk w g (i64s d.toList ++ rest) 3
section
variable {w w' : World} {g : Nat} {d : Array Nat} {rest : List Value}
theorem ArrI.get (h : ArrI w g d rest) {i : Nat} (hi : i < d.size) : w.cell? ⟨g, i, none⟩ = some (.int .i64 (d[i]! : Nat)) := by
  rw [Blk.cell h]
  refine i64s_get _ _ _ _ ?_
  rw [Array.getElem?_toList, getElem!_pos d i hi, Array.getElem?_eq_getElem hi]
theorem ArrI.on (h : ArrI w g d rest) (hb : Below w.heap.size w w') : ArrI w' g d rest := Blk.on h hb
theorem ArrI.lt (h : ArrI w g d rest) : g < w.heap.size := Blk.lt h
theorem ArrI.set (h : ArrI w g d rest) {i : Nat} (hi : i < d.size) (x : Nat) : ArrI (w.setCell ⟨g, i, none⟩ (.int .i64 (x : Nat))) g (d.setIfInBounds i x) rest := by
  have := Blk.set h i (.int .i64 (x : Nat))
  rw [i64s_set _ _ _ _ (by simpa using hi)] at this
  unfold ArrI
  rw [Array.toList_setIfInBounds]
  exact this
theorem ArrI.swap (h : ArrI w g d rest) {i j : Nat} (hi : i < d.size) (hj : j < d.size) :
    ArrI ((w.setCell ⟨g, i, none⟩ (.int .i64 (d[j]! : Nat))).setCell ⟨g, j, none⟩ (.int .i64 (d[i]! : Nat))) g (Sort.swp d i j) rest := by
  unfold Sort.swp
  exact (h.set hi _).set (by simpa using hj) _
theorem ArrI.mod {S : List Nat} (h : ArrI w g d rest) (hm : Mod S w w') (hn : g ∉ S) : ArrI w' g d rest := Blk.mod h hm hn
end
/-- What ends with an array in the block, and turned nothing else. -/
def ArrIEnd (g : Nat) (d : Array Nat) (rest : List Value) (w : World) (e : Ending) (w' : World) : Prop := e = .returned (.tuple #[]) ∧ ArrI w' g d rest ∧ Mod [g] w w'
end Go.Proofs.Ytffianjbljgnaaa

/-! ### SymS -/
namespace Go.Proofs.Ytffianjbljgnaaa
set_option linter.unusedVariables false
set_option linter.unusedSimpArgs false
open Go.RowKit
/-- Two parts of the row have changed places. -/
def SwapEnd (g : Nat) (n : Nat) (D : List Nat) (rest : List Value) (w : World) (e : Ending) (w' : World) : Prop := e = .returned (.tuple #[]) ∧ ∃ d' : Array Nat, d'.toList = D ∧ d'.size = n ∧ ArrI w' g d' rest ∧ Mod [g] w w'
set_option maxRecDepth 100000 in
set_option maxHeartbeats 4000000 in
theorem swapRange_any (g : Nat) (d : Array Nat) (rest : List Value) (cap a b n : Nat) (P X Y Z Q : List Nat) (hd : d.toList = P ++ (X ++ (Y ++ (Z ++ Q)))) (ha : a = P.length) (hX : X.length = n) (hZ : Z.length = n) (hb : b = P.length + X.length + Y.length) (cv : Value) (hcap : d.size ≤ cap) (hsz : d.size ≤ 1000000) (w : World) (h : ArrI w g d rest) :
    Calls Try.prog 105 #[.slice (some ⟨g, 0, none⟩) d.size cap, .int .i64 a, .int .i64 b, .int .i64 n, cv] w (SwapEnd g d.size (P ++ (Z ++ (Y ++ (X ++ Q)))) rest w) := by
  have hds : d.size = P.length + (n + (Y.length + (n + Q.length))) := by rw [← Array.length_toList, hd]; simp [hX, hZ]
  have hab : a + n ≤ b := by omega
  have hbn : b + n ≤ d.size := by omega
  have HFin := Lib.hid (show ∀ d' : Array Nat, SwapR d d' a b n → d'.toList = P ++ (Z ++ (Y ++ (X ++ Q))) from fun d' hs => hs.lists hd ha hX hZ hb)
  obtain ⟨N, hN⟩ : ∃ N, d.size = N := ⟨_, rfl⟩
  rw [hN] at hcap hsz hbn ⊢
  have HD := Lib.hid h
  clear h hd ha hX hZ hb hds
  go_enter Try.func105, Try.ntmps105
  go_wp2_with fail
  go_loopw [10] (fun s10 wr => ∃ (i : Nat) (d' : Array Nat), s10 = .int .i64 i ∧ i ≤ n ∧ SwapR d d' a b i ∧ ArrI wr g d' rest ∧ Mod [g] w wr) (fun s10 _ => n - (intOf s10).toNat)
  case atStart => exact ⟨0, d, rfl, Nat.zero_le _, SwapR.start d a b, HD.out, Mod.refl _ _⟩
  case round =>
    obtain ⟨i, d', rfl, hi, hs, hA, hm⟩ := hrel
    have hszd : d'.size = N := by rw [hs.size, hN]
    have HA := Lib.hid hA
    have HM := Lib.hid hm
    have HS := Lib.hid hs
    clear hA hm hs
    by_cases hlt : i < n
    · have hil : (i : Int) < (n : Int) := by omega
      have HSt := Lib.hid (HS.out.step (n := n) hab hlt (by rw [hN]; exact hbn))
      obtain ⟨I, hI⟩ : ∃ I, a + i = I := ⟨_, rfl⟩
      obtain ⟨J, hJ⟩ : ∃ J, b + i = J := ⟨_, rfl⟩
      rw [hI, hJ] at HSt
      have hIi : (a : Int) + (i : Int) = (I : Int) := by omega
      have hJi : (b : Int) + (i : Int) = (J : Int) := by omega
      have hI2 : I < d'.size := by omega
      have hJ2 : J < d'.size := by omega
      have hwI : IntKind.i64.wrap (I : Int) = (I : Int) := IntWalk.i64_in _ (by omega)
      have hwJ : IntKind.i64.wrap (J : Int) = (J : Int) := IntWalk.i64_in _ (by omega)
      have hIn : (I : Int) < (N : Int) := by omega
      have hJn : (J : Int) < (N : Int) := by omega
      clear hI hJ
      go_upto_region 3 with fail
      have HG := Lib.hid (show ∀ w', Below wr.heap.size wr w' → (w'.cell? ⟨g, I, none⟩ = some (.int .i64 (d'[I]! : Nat)) ∧ w'.cell? ⟨g, J, none⟩ = some (.int .i64 (d'[J]! : Nat))) from
        fun w' hb => ⟨(HA.out.on hb).get (by omega), (HA.out.on hb).get (by omega)⟩)
      obtain ⟨vI, hvI⟩ : ∃ x, d'[I]! = x := ⟨_, rfl⟩
      obtain ⟨vJ, hvJ⟩ : ∃ x, d'[J]! = x := ⟨_, rfl⟩
      rw [hvI, hvJ] at HG
      refine wp_region_float2 [4, 5, 6, 7] [0, 1, 2, 3, 8, 9, 10, 11, 12, 13, 14, 15, 16, 17, 18, 19] [20, 21, 22, 23] [20, 21, 22, 23] (Below wr.heap.size wr) (by kernel_rfl) (by kernel_rfl) (by kernel_rfl) (by kernel_rfl) (fun c a d v w h => by cases d <;> exact h) (below_drew (Below.refl _ _)) ?_
      have hS : Below wr.heap.size wr { wr with drawn := wr.drawn + 1 } := below_drew (Below.refl _ _)
      generalize ({ wr with drawn := wr.drawn + 1 } : World) = w3 at *
      simp only [pick, List.map_cons, List.map_nil, List.getD_cons_zero, List.getD_cons_succ]
      repeat (
        refine takes_val (v := ?_) ?_ (fun w' hS => ?_) ?_
        rotate_left
        · rfl
        · go_simp
          with_reducible rfl
        simp only [Act.put, List.setIfInBounds_toArray, List.set_cons_zero, List.set_cons_succ])
      refine takes_nil ?_
      repeat (
        refine takes_val (v := ?_) ?_ (fun w' hS => ?_) ?_
        rotate_left
        · rfl
        · obtain ⟨k0, k1⟩ := HG.out w' hS
          go_simp
          with_reducible rfl
        simp only [Act.put, List.setIfInBounds_toArray, List.set_cons_zero, List.set_cons_succ])
      refine takes_nil ?_
      obtain ⟨k0, k1⟩ := HG.out w3 hS
      have hA3 := HA.out.on hS
      have hM3 := HM.out.thenBelow hS
      have z0 := Blk.free hA3 I
      have hAx := hA3.set (i := I) (by omega) vJ
      have z2 := Blk.free hAx J
      have z3 := hAx.get (i := J) (by simp; omega)
      have hA4 : ArrI ((w3.setCell ⟨g, I, none⟩ (.int .i64 (vJ : Nat))).setCell ⟨g, J, none⟩ (.int .i64 (vI : Nat))) g (Sort.swp d' I J) rest := by
        have := hA3.swap (i := I) (j := J) (by omega) (by omega)
        rw [hvI, hvJ] at this
        exact this
      have hM4 : Mod [g] w ((w3.setCell ⟨g, I, none⟩ (.int .i64 (vJ : Nat))).setCell ⟨g, J, none⟩ (.int .i64 (vI : Nat))) := (hM3.setCell _ _ (.inl (by simp))).setCell _ _ (.inl (by simp))
      clear hAx hA3 hM3
      generalize hz3 : ((d'.setIfInBounds I vJ)[J]! : Nat) = x3 at z3
      clear hz3 hvI hvJ
      refine seqW_step (by rfl) (fun K hK => ?_)
      go_simp
      refine hK.out _ _ (.inl (by rfl)) ?_
      clear hK K
      refine seqW_step (by rfl) (fun K hK => ?_)
      go_simp
      refine hK.out _ _ (.inl (by rfl)) ?_
      clear hK K
      refine seqW_step (by rfl) (fun K hK => ?_)
      go_simp
      refine hK.out _ _ (.inl (by rfl)) ?_
      clear hK K
      refine seqW_step (by rfl) (fun K hK => ?_)
      go_simp
      refine hK.out _ _ (.inl (by rfl)) (seqW_nil ?_)
      clear hK K HG hS k0 k1 z0 z2 z3
      generalize (w3.setCell ⟨g, I, none⟩ (.int .i64 (vJ : Nat))).setCell ⟨g, J, none⟩ (.int .i64 (vI : Nat)) = w4 at *
      go_wp2_with fail
      go_roundw
      case rel => exact ⟨i + 1, Sort.swp d' I J, by go_num, by omega, HSt.out, hA4, hM4⟩
      case measure => simp [intOf]; omega
    · have hge : ¬ (i : Int) < (n : Int) := by omega
      have hin : i = n := by omega
      have HE := Lib.hid (show SwapEnd g N (P ++ (Z ++ (Y ++ (X ++ Q)))) rest w (.returned (.tuple #[])) wr from ⟨rfl, d', HFin.out d' (by rw [← hin]; exact HS.out), hszd, HA.out, HM.out⟩)
      go_wp2_with fail
      go_end0
      exact HE.out
set_option maxRecDepth 100000 in
set_option maxHeartbeats 4000000 in
theorem rotate_any (g : Nat) (d : Array Nat) (rest : List Value) (cap a m b : Nat) (P X Y Q : List Nat) (hd : d.toList = P ++ (X ++ (Y ++ Q))) (ha : a = P.length) (hm : m = P.length + X.length) (hb : b = P.length + X.length + Y.length) (hp1 : 0 < X.length) (hp2 : 0 < Y.length) (cv : Value) (hcap : d.size ≤ cap) (hsz : d.size ≤ 1000000) (w : World) (h : ArrI w g d rest) :
    Calls Try.prog 89 #[.slice (some ⟨g, 0, none⟩) d.size cap, .int .i64 a, .int .i64 m, .int .i64 b, cv] w (SwapEnd g d.size (P ++ (Y ++ (X ++ Q))) rest w) := by
  have hds : d.size = P.length + (X.length + (Y.length + Q.length)) := by rw [← Array.length_toList, hd]; simp
  obtain ⟨i0, hi0⟩ : ∃ i, X.length = i := ⟨_, rfl⟩
  obtain ⟨j0, hj0⟩ : ∃ j, Y.length = j := ⟨_, rfl⟩
  have hR := RotAt.start hd hm
  rw [hi0, hj0] at hR
  have hi0i : (m : Int) - (a : Int) = (i0 : Int) := by omega
  have hj0i : (b : Int) - (m : Int) = (j0 : Int) := by omega
  have hwi : IntKind.i64.wrap (i0 : Int) = (i0 : Int) := IntWalk.i64_in _ (by omega)
  have hwj : IntKind.i64.wrap (j0 : Int) = (j0 : Int) := IntWalk.i64_in _ (by omega)
  have hmN : m + j0 ≤ d.size := by omega
  have hi0N : i0 ≤ d.size := by omega
  obtain ⟨N, hN⟩ : ∃ N, d.size = N := ⟨_, rfl⟩
  rw [hN] at hcap hsz hmN hi0N ⊢
  have hij0 : i0 = j0 ∨ (0 < i0 ∧ 0 < j0) := .inr (by omega)
  have HD := Lib.hid h
  have HR := Lib.hid hR
  clear h hd hR hds hm hb ha hi0 hj0 hp1 hp2
  go_enter Try.func89, Try.ntmps89
  go_wp2_with fail
  go_loopw [10, 11] (fun s10 s11 wr => ∃ (i j : Nat) (d' : Array Nat), s10 = .int .i64 i ∧ s11 = .int .i64 j ∧ i ≤ N ∧ m + j ≤ N ∧ (i = j ∨ (0 < i ∧ 0 < j)) ∧ d'.size = N ∧ RotAt d' P X Y Q m i j ∧ ArrI wr g d' rest ∧ Mod [g] w wr) (fun s10 s11 _ => (intOf s10).toNat + (intOf s11).toNat)
  case atStart => exact ⟨i0, j0, d, by first | rfl | go_num | rw [hi0i], by first | rfl | go_num | rw [hj0i], hi0N, hmN, hij0, hN, HR.out, HD.out, Mod.refl _ _⟩
  case round =>
    obtain ⟨i, j, d', rfl, rfl, hi, hmj, hij0, hszd, hr, hA, hm⟩ := hrel
    have HA := Lib.hid hA
    have HM := Lib.hid hm
    clear hA hm
    by_cases heq : i = j
    · subst heq
      have hne : ((i : Int) != (i : Int)) = false := by simp
      obtain ⟨P', X1, Z, R, e1, e2, e2', e3, e4, e5, e6⟩ := hr.same
      obtain ⟨A, hAa⟩ : ∃ A, m - i = A := ⟨_, rfl⟩
      have hAi : (m : Int) - (i : Int) = (A : Int) := by omega
      have hwA : IntKind.i64.wrap (A : Int) = (A : Int) := IntWalk.i64_in _ (by omega)
      have HC := Lib.hid (swapRange_any g d' rest cap A m i P' X1 [] Z R e1 (by omega) e3 e4 (by simp; omega) cv (by omega) (by omega) wr HA.out)
      rw [hszd] at HC
      have HE6 := Lib.hid e6
      clear hr e1 e2 e3 e4 e5 e6
      go_wp2_with fail
      refine HC.out.mono ?_
      rintro e w2 ⟨rfl, d2, h1, h2, h3, h4⟩
      have HE := Lib.hid (show SwapEnd g N (P ++ (Y ++ (X ++ Q))) rest w (.returned (.tuple #[])) w2 from ⟨rfl, d2, HE6.out d2 h1, h2, h3, HM.out.trans h4⟩)
      clear h1 h2 h3 h4 HC
      go_wp2_with fail
      go_end0
      exact HE.out
    · have hne : ((i : Int) != (j : Int)) = true := by simp; omega
      by_cases hgt : j < i
      · have hgti : (j : Int) < (i : Int) := by omega
        have hgti' : (i : Int) > (j : Int) := by omega
        obtain ⟨P', X1, Y1, Z, R, e1, e2, e2', e3, e4, e5, e6⟩ := hr.big hgt
        obtain ⟨A, hAa⟩ : ∃ A, m - i = A := ⟨_, rfl⟩
        have hAi : (m : Int) - (i : Int) = (A : Int) := by omega
        have hwA : IntKind.i64.wrap (A : Int) = (A : Int) := IntWalk.i64_in _ (by omega)
        have HC := Lib.hid (swapRange_any g d' rest cap A m j P' X1 Y1 Z R e1 (by omega) e3 e4 (by omega) cv (by omega) (by omega) wr HA.out)
        rw [hszd] at HC
        have HE6 := Lib.hid e6
        have hij : (i : Int) - (j : Int) = ((i - j : Nat) : Int) := by omega
        clear hr e1 e2 e3 e4 e5 e6
        go_wp2_with fail
        refine HC.out.mono ?_
        rintro e w2 ⟨rfl, d2, h1, h2, h3, h4⟩
        have HR2 := Lib.hid (HE6.out d2 h1)
        have HA2 := Lib.hid h3
        have HM2 := Lib.hid (HM.out.trans h4)
        clear h1 h3 h4 HC HE6
        go_wp2_with fail
        go_roundw
        case rel => exact ⟨i - j, j, d2, by first | go_num | (rw [hij]), rfl, by omega, by omega, .inr (by omega), h2, HR2.out, HA2.out, HM2.out⟩
        case measure => simp [intOf]; omega
      · have hgti : ¬ (j : Int) < (i : Int) := by omega
        have hgti' : ¬ (i : Int) > (j : Int) := by omega
        obtain ⟨P', X1, Y1, Z, R, e1, e2, e2', e3, e4, e5, e6⟩ := hr.small (by omega)
        obtain ⟨A, hAa⟩ : ∃ A, m - i = A := ⟨_, rfl⟩
        obtain ⟨B, hBb⟩ : ∃ B, m + j - i = B := ⟨_, rfl⟩
        have hAi : (m : Int) - (i : Int) = (A : Int) := by omega
        have hBi : (m : Int) + (j : Int) - (i : Int) = (B : Int) := by omega
        have hwA : IntKind.i64.wrap (A : Int) = (A : Int) := IntWalk.i64_in _ (by omega)
        have hwM : IntKind.i64.wrap ((m : Int) + (j : Int)) = (m : Int) + (j : Int) := IntWalk.i64_in _ (by omega)
        have hwB : IntKind.i64.wrap (B : Int) = (B : Int) := IntWalk.i64_in _ (by omega)
        have HC := Lib.hid (swapRange_any g d' rest cap A B i P' X1 Y1 Z R e1 (by omega) e3 e4 (by omega) cv (by omega) (by omega) wr HA.out)
        rw [hszd] at HC
        have HE6 := Lib.hid e6
        have hij : (j : Int) - (i : Int) = ((j - i : Nat) : Int) := by omega
        clear hr e1 e2 e3 e4 e5 e6
        go_wp2_with fail
        refine HC.out.mono ?_
        rintro e w2 ⟨rfl, d2, h1, h2, h3, h4⟩
        have HR2 := Lib.hid (HE6.out d2 h1)
        have HA2 := Lib.hid h3
        have HM2 := Lib.hid (HM.out.trans h4)
        clear h1 h3 h4 HC HE6
        go_wp2_with fail
        go_roundw
        case rel => exact ⟨i, j - i, d2, rfl, by first | go_num | (rw [hij]), by omega, by omega, .inr (by omega), h2, HR2.out, HA2.out, HM2.out⟩
        case measure => simp [intOf]; omega
end Go.Proofs.Ytffianjbljgnaaa

/-! ### SymD -/
namespace Go.Proofs.Ytffianjbljgnaaa
set_option linter.unusedVariables false
set_option linter.unusedSimpArgs false
open Go.RowKit

section
variable {α : Type} {key : α → Int}
theorem ins_left {B : List α} (hB : SortedK key B) (x : α) (n : Nat) (hn : n ≤ B.length) (h1 : ∀ y ∈ B.take n, key y < key x) (h2 : ∀ y ∈ B.drop n, key x ≤ key y) :
    SortedK key (B.take n ++ x :: B.drop n) ∧ SameK key ([x] ++ B) (B.take n ++ x :: B.drop n) := by
  have hs := List.take_append_drop n B
  generalize B.take n = B1 at *
  generalize B.drop n = B2 at *
  subst hs
  have := sym_join (key := key) (A1 := []) (A2 := [x]) (B1 := B1) (B2 := B2) (M1 := B1) (M2 := x :: B2) (by simp [SortedK]) hB (by simpa using h1) (by simp) (sorted_left hB) (SameK.refl _) (List.pairwise_cons.2 ⟨h2, sorted_right hB⟩) (SameK.refl _)
  simpa using this
theorem ins_right {A : List α} (hA : SortedK key A) (y : α) (n : Nat) (hn : n ≤ A.length) (h1 : ∀ x ∈ A.take n, key x ≤ key y) (h2 : ∀ x ∈ A.drop n, key y < key x) :
    SortedK key (A.take n ++ y :: A.drop n) ∧ SameK key (A ++ [y]) (A.take n ++ y :: A.drop n) := by
  have hs := List.take_append_drop n A
  generalize A.take n = A1 at *
  generalize A.drop n = A2 at *
  subst hs
  have := sym_join (key := key) (A1 := A1) (A2 := A2) (B1 := [y]) (B2 := []) (M1 := A1 ++ [y]) (M2 := A2) hA (by simp [SortedK]) (by simpa using h2) (by simp) (List.pairwise_append.2 ⟨sorted_left hA, by simp, by simpa using h1⟩) (SameK.refl _) (sorted_right hA) (by simpa using SameK.refl A2)
  simpa using this
end
theorem take_pre {key : Nat → Int} {R : Int → Prop} (mono : ∀ x y, x ≤ y → R y → R x) {d : Array Nat} {B : List Nat} {o n : Nat} (hB : SortedK key B) (hg : ∀ (i : Nat) (hi : i < B.length), d[o + i]! = B[i]) (hn : n ≤ B.length) (h : n = 0 ∨ R (key d[o + n - 1]!)) : ∀ y ∈ B.take n, R (key y) := by
  intro y hy
  obtain ⟨j, hj, rfl⟩ := List.getElem_of_mem hy
  rw [List.length_take] at hj
  rw [List.getElem_take]
  rcases h with h | h
  · omega
  · have e : d[o + n - 1]! = B[n - 1]'(by omega) := by rw [← hg (n - 1) (by omega)]; congr 1; omega
    rw [e] at h
    exact mono _ _ (sorted_get hB (i := j) (j := n - 1) (by omega) (by omega)) h
theorem drop_suf {key : Nat → Int} {R : Int → Prop} (mono : ∀ x y, x ≤ y → R x → R y) {d : Array Nat} {B : List Nat} {o n : Nat} (hB : SortedK key B) (hg : ∀ (i : Nat) (hi : i < B.length), d[o + i]! = B[i]) (hn : n ≤ B.length) (h : n = B.length ∨ R (key d[o + n]!)) : ∀ y ∈ B.drop n, R (key y) := by
  intro y hy
  obtain ⟨j, hj, rfl⟩ := List.getElem_of_mem hy
  rw [List.length_drop] at hj
  rw [List.getElem_drop]
  rcases h with h | h
  · omega
  · rw [hg n (by omega)] at h
    exact mono _ _ (sorted_get hB (i := n) (j := n + j) (by omega) (by omega)) h
theorem bub_next (P B Q : List Nat) (x t : Nat) (ht : t < B.length) : P ++ (B.take t ++ (x :: (B.drop t ++ Q))) = (P ++ B.take t) ++ (x :: (B[t] :: (B.drop (t + 1) ++ Q))) ∧ P ++ (B.take (t + 1) ++ (x :: (B.drop (t + 1) ++ Q))) = (P ++ B.take t) ++ (B[t] :: (x :: (B.drop (t + 1) ++ Q))) := by
  refine ⟨?_, ?_⟩
  · rw [List.drop_eq_getElem_cons ht]
    simp only [List.append_assoc, List.cons_append]
  · rw [List.take_add_one, List.getElem?_eq_getElem ht]
    simp only [Option.toList, List.append_assoc, List.cons_append, List.nil_append]
theorem swp_up {d : Array Nat} {P R : List Nat} {x y : Nat} {i j : Nat} (hd : d.toList = P ++ (x :: (y :: R))) (hi : i = P.length) (hj : j = P.length + 1) : (Sort.swp d i j).toList = P ++ (y :: (x :: R)) := by
  have hsz : d.size = P.length + (R.length + 2) := by rw [← Array.length_toList, hd]; simp
  have h := (SwapR.start d i j).step (n := 1) (by omega) (by omega) (by omega)
  exact h.lists (P := P) (X := [x]) (Y := []) (Z := [y]) (Q := R) hd hi rfl rfl (by simp; omega)
theorem swp_comm (d : Array Nat) {i j : Nat} (hi : i < d.size) (hj : j < d.size) : Sort.swp d i j = Sort.swp d j i := by
  refine Array.ext (by rw [Sort.swp_size, Sort.swp_size]) fun k h1 h2 => ?_
  rw [← getElem!_pos _ k h1, ← getElem!_pos _ k h2, Sort.swp_get _ hi hj, Sort.swp_get _ hj hi]
  by_cases c1 : k = j
  · subst c1
    by_cases c2 : k = i
    · subst c2; rfl
    · rw [if_pos rfl, if_neg c2, if_pos rfl]
  · by_cases c2 : k = i
    · subst c2; rw [if_neg c1, if_pos rfl, if_pos rfl]
    · rw [if_neg c1, if_neg c2, if_neg c2, if_neg c1]
theorem swp_down {d : Array Nat} {P R : List Nat} {x y : Nat} {i j : Nat} (hd : d.toList = P ++ (x :: (y :: R))) (hi : i = P.length + 1) (hj : j = P.length) : (Sort.swp d i j).toList = P ++ (y :: (x :: R)) := by
  have hsz : d.size = P.length + (R.length + 2) := by rw [← Array.length_toList, hd]; simp
  rw [swp_comm d (by omega) (by omega)]
  exact swp_up hd hj hi
/-- What the comparison answers of the elements U, wherever the row alone was turned. -/
structure CmpOk (g : Nat) (W0 : World) (CB : Nat) (key : Nat → Int) (U : List Nat) : Prop where
  cmp : ∀ w', Mod [g] W0 w' → ∀ x y, x ∈ U → y ∈ U → Calls Try.prog 45 #[.int .i64 x, .int .i64 y, .pointer (some ⟨CB, 0, none⟩)] w' fun e w'' => e = .returned (.int .i64 (cmpI (key x) (key y))) ∧ Below w'.heap.size w' w''
theorem CmpOk.on {g : Nat} {W0 w : World} {CB : Nat} {key : Nat → Int} {U : List Nat} (h : CmpOk g W0 CB key U) (hm : Mod [g] W0 w) : CmpOk g w CB key U := ⟨fun w' hm' => h.cmp w' (hm.trans hm')⟩
def SymEnd (g n : Nat) (key : Nat → Int) (P AB Q : List Nat) (rest : List Value) (w : World) (e : Ending) (w' : World) : Prop :=
  e = .returned (.tuple #[]) ∧ ∃ (M : List Nat) (d' : Array Nat), SortedK key M ∧ SameK key AB M ∧ d'.toList = P ++ (M ++ Q) ∧ d'.size = n ∧ ArrI w' g d' rest ∧ Mod [g] w w'
def SymGoal (N : Nat) : Prop := ∀ (g : Nat) (d : Array Nat) (rest : List Value) (cap a m b : Nat) (P A B Q : List Nat) (CB : Nat) (key : Nat → Int) (w : World), b - a ≤ N → d.toList = P ++ (A ++ (B ++ Q)) → a = P.length → m = P.length + A.length → b = P.length + A.length + B.length → 0 < A.length → 0 < B.length → SortedK key A → SortedK key B →
  d.size ≤ cap → d.size ≤ 1000000 → CmpOk g w CB key d.toList → ArrI w g d rest →
  Calls Try.prog 73 #[.slice (some ⟨g, 0, none⟩) d.size cap, .int .i64 a, .int .i64 m, .int .i64 b, .func (.func 45) #[] #[.pointer (some ⟨CB, 0, none⟩)]] w (SymEnd g d.size key P (A ++ B) Q rest w)
theorem mem_get {d : Array Nat} {i : Nat} (hi : i < d.size) : d[i]! ∈ d.toList := by rw [getElem!_pos d i hi]; exact Array.getElem_mem_toList hi

end Go.Proofs.Ytffianjbljgnaaa
