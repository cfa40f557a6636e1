/-
  The stable sort's merges, in plain Lean: what keeps the order of equals, how a rotation and a merge by halves come out. No program here. No condition.
-/
import Derived.Test.YtffianjbljgnaaaGreatIns
import Derived.Sort.LotA
namespace Go.Proofs.YtffianjbljgnaaaGreat
set_option linter.unusedVariables false
set_option linter.unusedSimpArgs false
open Go.RowKit Go.Sort

section
variable {α : Type} (key : α → Int)
/-- The same things, those of one key in the same order. -/
def SameK (D E : List α) : Prop := ∀ k : Int, D.filter (fun x => decide (key x = k)) = E.filter (fun x => decide (key x = k))
variable {key}
theorem SameK.refl (D : List α) : SameK key D D := fun _ => rfl
theorem SameK.symm {D E : List α} (h : SameK key D E) : SameK key E D := fun k => (h k).symm
theorem SameK.trans {D E F : List α} (h : SameK key D E) (h' : SameK key E F) : SameK key D F := fun k => (h k).trans (h' k)
theorem SameK.app {D E D' E' : List α} (h : SameK key D E) (h' : SameK key D' E') : SameK key (D ++ D') (E ++ E') := fun k => by
  rw [List.filter_append, List.filter_append, h k, h' k]
theorem SameK.mem {D E : List α} (h : SameK key D E) (x : α) : x ∈ D ↔ x ∈ E := by
  have e : ∀ D : List α, x ∈ D ↔ x ∈ D.filter (fun y => decide (key y = key x)) := fun D => by simp
  rw [e D, e E, h (key x)]
theorem SameK.perm {D E : List α} (h : SameK key D E) : D.Perm E := by
  classical
  refine List.perm_iff_count.2 fun x => ?_
  have e : ∀ D : List α, D.count x = (D.filter (fun y => decide (key y = key x))).count x := fun D => (List.count_filter (by simp)).symm
  rw [e D, e E, h (key x)]
theorem SameK.swap {X Y : List α} (h : ∀ x ∈ X, ∀ y ∈ Y, key x ≠ key y) : SameK key (X ++ Y) (Y ++ X) := fun k => by
  rw [List.filter_append, List.filter_append]
  by_cases hx : ∃ x ∈ X, key x = k
  · obtain ⟨x, hx, rfl⟩ := hx
    have e : Y.filter (fun y => decide (key y = key x)) = [] := List.filter_eq_nil_iff.2 fun y hy => by
      have := h x hx y hy
      simp only [decide_eq_true_eq]
      exact fun e => this e.symm
    rw [e, List.append_nil, List.nil_append]
  · have e : X.filter (fun y => decide (key y = k)) = [] := List.filter_eq_nil_iff.2 fun x hx' => by
      simp only [decide_eq_true_eq]
      exact fun e => hx ⟨x, hx', e⟩
    rw [e, List.append_nil, List.nil_append]
variable (key)
def SortedK (D : List α) : Prop := D.Pairwise fun a b => key a ≤ key b
variable {key}
theorem sameK_unique {L L' : List α} (h : SortedK key L) (h' : SortedK key L') (hs : SameK key L L') : L = L' := by
  induction L generalizing L' with
  | nil => exact (hs.perm.symm.eq_nil).symm
  | cons a t ih =>
    cases L' with
    | nil => have := hs.perm.length_eq; simp at this
    | cons b t' =>
      obtain ⟨h1, h2⟩ := List.pairwise_cons.1 h
      obtain ⟨h3, h4⟩ := List.pairwise_cons.1 h'
      have e : key a = key b := by
        have a1 : a ∈ b :: t' := (hs.mem a).1 (by simp)
        have a2 : b ∈ a :: t := (hs.mem b).2 (by simp)
        have b1 : key b ≤ key a := by
          rcases List.mem_cons.1 a1 with rfl | a1
          · exact Int.le_refl _
          · exact h3 a a1
        have b2 : key a ≤ key b := by
          rcases List.mem_cons.1 a2 with rfl | a2
          · exact Int.le_refl _
          · exact h1 b a2
        omega
      have e2 := hs (key a)
      rw [List.filter_cons, List.filter_cons, if_pos (by simp), if_pos (by simp [e])] at e2
      injection e2 with e3 e4
      subst e3
      rw [ih h2 h4 (fun k => ?_)]
      have := hs k
      rw [List.filter_cons, List.filter_cons] at this
      split at this
      · injection this
      · exact this
theorem insRev_same (x : α) (R : List α) : SameK key (insRev (fun x y => decide (key x < key y)) x R) (x :: R) := by
  induction R with
  | nil => exact SameK.refl _
  | cons y t ih =>
    unfold insRev
    split
    · rename_i h
      have hne : key y ≠ key x := by have := of_decide_eq_true h; omega
      have h1 : SameK key ([y] ++ insRev (fun x y => decide (key x < key y)) x t) ([y] ++ (x :: t)) := SameK.app (SameK.refl [y]) ih
      have h2 : SameK key (([y] ++ [x]) ++ t) (([x] ++ [y]) ++ t) := SameK.app (SameK.swap (by simpa using hne)) (SameK.refl t)
      exact h1.trans h2
    · exact SameK.refl _
theorem SameK.rev {D E : List α} (h : SameK key D E) : SameK key D.reverse E.reverse := fun k => by rw [List.filter_reverse, List.filter_reverse, h k]
theorem isort_same (d : List α) : SameK key (isort (fun x y => decide (key x < key y)) d) d := by
  unfold isort
  have : ∀ (d R : List α), SameK key (d.foldl (fun R x => insRev (fun x y => decide (key x < key y)) x R) R).reverse (R.reverse ++ d) := by
    intro d
    induction d with
    | nil => intro R; rw [List.append_nil]; exact SameK.refl _
    | cons x t ih =>
      intro R
      rw [List.foldl_cons]
      refine (ih _).trans ?_
      have h2 := ((insRev_same (key := key) x R).rev).app (SameK.refl t)
      rw [List.reverse_cons, List.append_assoc] at h2
      exact h2
  exact this d []
theorem mem_insRevS {α : Type} (lt : α → α → Bool) (x y : α) (l : List α) : y ∈ insRev lt x l ↔ y = x ∨ y ∈ l := by
  induction l with
  | nil => simp [insRev]
  | cons z t ih =>
    unfold insRev
    split
    · simp only [List.mem_cons, ih]
      exact ⟨fun h => h.elim (fun h => .inr (.inl h)) (fun h => h.elim .inl (fun h => .inr (.inr h))), fun h => h.elim (fun h => .inr (.inl h)) (fun h => h.elim .inl (fun h => .inr (.inr h)))⟩
    · simp
theorem insRev_dsc (x : α) (R : List α) (h : R.Pairwise fun a b => key b ≤ key a) : (insRev (fun x y => decide (key x < key y)) x R).Pairwise fun a b => key b ≤ key a := by
  induction R with
  | nil => simp [insRev]
  | cons y t ih =>
    obtain ⟨h1, h2⟩ := List.pairwise_cons.1 h
    unfold insRev
    by_cases hl : key x < key y
    · rw [if_pos (by simp [hl])]
      refine List.pairwise_cons.2 ⟨fun b hb => ?_, ih h2⟩
      rcases (mem_insRevS _ _ _ _).1 hb with rfl | hb
      · omega
      · exact h1 b hb
    · rw [if_neg (by simp [hl])]
      refine List.pairwise_cons.2 ⟨fun b hb => ?_, h⟩
      rcases List.mem_cons.1 hb with rfl | hb
      · omega
      · have := h1 b hb; omega
theorem isort_ascK (d : List α) : SortedK key (isort (fun x y => decide (key x < key y)) d) := by
  unfold isort SortedK
  rw [List.pairwise_reverse]
  have : ∀ (d R : List α), R.Pairwise (fun a b => key b ≤ key a) → (d.foldl (fun R x => insRev (fun x y => decide (key x < key y)) x R) R).Pairwise (fun a b => key b ≤ key a) := by
    intro d
    induction d with
    | nil => intro R h; exact h
    | cons x t ih => intro R h; rw [List.foldl_cons]; exact ih _ (insRev_dsc x R h)
  exact this d [] List.Pairwise.nil
/-- Whatever is sorted and has kept the order of equals is the insertion sort. -/
theorem isort_of_same {D E : List α} (h : SortedK key E) (hs : SameK key D E) : E = isort (fun x y => decide (key x < key y)) D :=
  sameK_unique h (isort_ascK D) (hs.symm.trans (isort_same D).symm)
theorem sorted_left {A B : List α} (h : SortedK key (A ++ B)) : SortedK key A := (List.pairwise_append.1 h).1
theorem sorted_right {A B : List α} (h : SortedK key (A ++ B)) : SortedK key B := (List.pairwise_append.1 h).2.1
/-- A merge by halves, joined. -/
theorem sym_join {A1 A2 B1 B2 M1 M2 : List α} (hA : SortedK key (A1 ++ A2)) (hB : SortedK key (B1 ++ B2)) (h1 : ∀ x ∈ A2, ∀ y ∈ B1, key y < key x) (h2 : ∀ x ∈ A1, ∀ y ∈ B2, key x ≤ key y)
    (s1 : SortedK key M1) (e1 : SameK key (A1 ++ B1) M1) (s2 : SortedK key M2) (e2 : SameK key (A2 ++ B2) M2) :
    SortedK key (M1 ++ M2) ∧ SameK key ((A1 ++ A2) ++ (B1 ++ B2)) (M1 ++ M2) := by
  refine ⟨List.pairwise_append.2 ⟨s1, s2, fun x hx y hy => ?_⟩, ?_⟩
  · have hx := List.mem_append.1 ((e1.mem x).2 hx)
    have hy := List.mem_append.1 ((e2.mem y).2 hy)
    rcases hx with hx | hx <;> rcases hy with hy | hy
    · exact (List.pairwise_append.1 hA).2.2 x hx y hy
    · exact h2 x hx y hy
    · exact Int.le_of_lt (h1 y hy x hx)
    · exact (List.pairwise_append.1 hB).2.2 x hx y hy
  · have h3 : SameK key (A2 ++ B1) (B1 ++ A2) := SameK.swap fun x hx y hy => by have := h1 x hx y hy; omega
    have h4 : SameK key (A1 ++ ((A2 ++ B1) ++ B2)) (A1 ++ ((B1 ++ A2) ++ B2)) := (SameK.refl A1).app (h3.app (SameK.refl B2))
    have h5 : SameK key ((A1 ++ B1) ++ (A2 ++ B2)) (M1 ++ M2) := e1.app e2
    have h6 : (A1 ++ A2) ++ (B1 ++ B2) = A1 ++ ((A2 ++ B1) ++ B2) := by simp
    have h7 : A1 ++ ((B1 ++ A2) ++ B2) = (A1 ++ B1) ++ (A2 ++ B2) := by simp
    rw [h6]
    rw [h7] at h4
    exact h4.trans h5
end

section
variable {α : Type} {key : α → Int}
/-- How far a rotation has come. -/
structure RotAt (d : Array α) (P X Y Q : List α) (m i j : Nat) : Prop where
  ex : ∃ L X' Y' Q' : List α, d.toList = P ++ (L ++ (X' ++ (Y' ++ (Q' ++ Q)))) ∧ X'.length = i ∧ Y'.length = j ∧ P.length + L.length + i = m ∧ L ++ (Y' ++ (X' ++ Q')) = Y ++ X
theorem RotAt.start {d : Array α} {P X Y Q : List α} {m : Nat} (h : d.toList = P ++ (X ++ (Y ++ Q))) (hm : m = P.length + X.length) : RotAt d P X Y Q m X.length Y.length :=
  ⟨[], X, Y, [], by simpa using h, rfl, rfl, by simp [hm], by simp⟩
theorem RotAt.big {d : Array α} {P X Y Q : List α} {m i j : Nat} (h : RotAt d P X Y Q m i j) (hij : j < i) :
    ∃ P' X1 Mid Z R : List α, d.toList = P' ++ (X1 ++ (Mid ++ (Z ++ R))) ∧ m - i = P'.length ∧ i ≤ m ∧ X1.length = j ∧ Z.length = j ∧ m = P'.length + X1.length + Mid.length ∧ ∀ d' : Array α, d'.toList = P' ++ (Z ++ (Mid ++ (X1 ++ R))) → RotAt d' P X Y Q m (i - j) j := by
  obtain ⟨L, X', Y', Q', hd, hX, hY, hm, he⟩ := h.ex
  have hl1 : (X'.take j).length = j := by rw [List.length_take]; omega
  have hl2 : (X'.drop j).length = i - j := by rw [List.length_drop]; omega
  have hsp := List.take_append_drop j X'
  generalize X'.take j = X1 at *
  generalize X'.drop j = X2 at *
  subst hsp
  refine ⟨P ++ L, X1, X2, Y', Q' ++ Q, by rw [hd]; simp, by simp; omega, by omega, hl1, hY, by simp; omega, fun d' hd' => ⟨L ++ Y', X2, X1, Q', by rw [hd']; simp, hl2, hl1, by simp; omega, ?_⟩⟩
  rw [← he]; simp
theorem RotAt.small {d : Array α} {P X Y Q : List α} {m i j : Nat} (h : RotAt d P X Y Q m i j) (hij : i < j) :
    ∃ P' X1 Mid Z R : List α, d.toList = P' ++ (X1 ++ (Mid ++ (Z ++ R))) ∧ m - i = P'.length ∧ i ≤ m ∧ X1.length = i ∧ Z.length = i ∧ m + j - i = P'.length + X1.length + Mid.length ∧ ∀ d' : Array α, d'.toList = P' ++ (Z ++ (Mid ++ (X1 ++ R))) → RotAt d' P X Y Q m i (j - i) := by
  obtain ⟨L, X', Y', Q', hd, hX, hY, hm, he⟩ := h.ex
  have hl1 : (Y'.take (j - i)).length = j - i := by rw [List.length_take]; omega
  have hl2 : (Y'.drop (j - i)).length = i := by rw [List.length_drop]; omega
  have hsp := List.take_append_drop (j - i) Y'
  generalize Y'.take (j - i) = Y1 at *
  generalize Y'.drop (j - i) = Y2 at *
  subst hsp
  refine ⟨P ++ L, X', Y1, Y2, Q' ++ Q, by rw [hd]; simp, by simp; omega, by omega, hX, hl2, by simp; omega, fun d' hd' => ⟨L, Y2, Y1, X' ++ Q', by rw [hd']; simp, hl2, hl1, by omega, ?_⟩⟩
  rw [← he]; simp
theorem RotAt.same {d : Array α} {P X Y Q : List α} {m i : Nat} (h : RotAt d P X Y Q m i i) :
    ∃ P' X1 Z R : List α, d.toList = P' ++ (X1 ++ ([] ++ (Z ++ R))) ∧ m - i = P'.length ∧ i ≤ m ∧ X1.length = i ∧ Z.length = i ∧ m = P'.length + X1.length ∧ ∀ d' : Array α, d'.toList = P' ++ (Z ++ ([] ++ (X1 ++ R))) → d'.toList = P ++ (Y ++ (X ++ Q)) := by
  obtain ⟨L, X', Y', Q', hd, hX, hY, hm, he⟩ := h.ex
  refine ⟨P ++ L, X', Y', Q' ++ Q, by rw [hd]; simp, by simp; omega, by omega, hX, hY, by simp; omega, fun d' hd' => ?_⟩
  have : d'.toList = P ++ ((L ++ (Y' ++ (X' ++ Q'))) ++ Q) := by rw [hd']; simp
  rw [this, he]; simp
theorem sorted_get {A : List α} (h : SortedK key A) {i j : Nat} (hij : i ≤ j) (hj : j < A.length) : key (A[i]'(by omega)) ≤ key A[j] := by
  rcases Nat.lt_or_ge i j with h1 | h1
  · exact (List.pairwise_iff_getElem.1 h) i j (by omega) hj h1
  · have : i = j := by omega
    subst this
    exact Int.le_refl _
end
section
variable {α : Type} [Inhabited α] {key : α → Int}
theorem toList_get {d : Array α} {k : Nat} (hk : k < d.size) : d.toList[k]? = some d[k]! := by
  rw [Array.getElem?_toList, getElem!_pos d k hk, Array.getElem?_eq_getElem hk]
/-- Two parts of an array have changed places, as far as i. -/
structure SwapR (d d' : Array α) (a b i : Nat) : Prop where
  size : d'.size = d.size
  get : ∀ k, d'[k]! = if a ≤ k ∧ k < a + i then d[k - a + b]! else if b ≤ k ∧ k < b + i then d[k - b + a]! else d[k]!
theorem SwapR.start (d : Array α) (a b : Nat) : SwapR d d a b 0 := ⟨rfl, fun k => by rw [if_neg (by omega), if_neg (by omega)]⟩
theorem SwapR.step {d d' : Array α} {a b n i : Nat} (h : SwapR d d' a b i) (hab : a + n ≤ b) (hi : i < n) (hs : b + n ≤ d.size) : SwapR d (swp d' (a + i) (b + i)) a b (i + 1) := by
  refine ⟨by rw [swp_size, h.size], fun k => ?_⟩
  rw [swp_get _ (by rw [h.size]; omega) (by rw [h.size]; omega)]
  by_cases h1 : k = b + i
  · subst h1
    rw [if_pos rfl, h.get, if_neg (by omega), if_neg (by omega), if_neg (by omega), if_pos (by omega)]
    congr 1; omega
  · by_cases h2 : k = a + i
    · subst h2
      rw [if_neg h1, if_pos rfl, h.get, if_neg (by omega), if_neg (by omega), if_pos (by omega)]
      congr 1; omega
    · rw [if_neg h1, if_neg h2, h.get]
      by_cases h3 : a ≤ k ∧ k < a + i
      · rw [if_pos h3, if_pos (show a ≤ k ∧ k < a + (i + 1) by omega)]
      · rw [if_neg h3, if_neg (show ¬ (a ≤ k ∧ k < a + (i + 1)) by omega)]
        by_cases h4 : b ≤ k ∧ k < b + i
        · rw [if_pos h4, if_pos (show b ≤ k ∧ k < b + (i + 1) by omega)]
        · rw [if_neg h4, if_neg (show ¬ (b ≤ k ∧ k < b + (i + 1)) by omega)]
theorem SwapR.lists {d d' : Array α} {a b n : Nat} {P X Y Z Q : List α} (h : SwapR d d' a b n) (hd : d.toList = P ++ (X ++ (Y ++ (Z ++ Q)))) (ha : a = P.length) (hX : X.length = n) (hZ : Z.length = n) (hb : b = P.length + X.length + Y.length) :
    d'.toList = P ++ (Z ++ (Y ++ (X ++ Q))) := by
  have hsz : d.size = P.length + (n + (Y.length + (n + Q.length))) := by rw [← Array.length_toList, hd]; simp [hX, hZ]
  have hG : ∀ k, k < d.size → (P ++ (X ++ (Y ++ (Z ++ Q))))[k]? = some d[k]! := fun k hk => by rw [← hd]; exact toList_get hk
  refine List.ext_getElem? fun k => ?_
  by_cases hk : k < d.size
  · rw [toList_get (by rw [h.size]; exact hk), h.get]
    by_cases c1 : k < P.length
    · rw [if_neg (by omega), if_neg (by omega), ← hG k hk, List.getElem?_append_left c1, List.getElem?_append_left c1]
    · by_cases c2 : k < P.length + n
      · rw [if_pos (by omega), ← hG _ (by omega), List.getElem?_append_right (by omega), List.getElem?_append_right (by omega), List.getElem?_append_right (by omega), List.getElem?_append_left (by omega), List.getElem?_append_right (by omega), List.getElem?_append_left (by omega)]
        congr 1; omega
      · by_cases c3 : k < P.length + n + Y.length
        · rw [if_neg (by omega), if_neg (by omega), ← hG k hk, List.getElem?_append_right (by omega), List.getElem?_append_right (by omega), List.getElem?_append_left (by omega), List.getElem?_append_right (by omega), List.getElem?_append_right (by omega), List.getElem?_append_left (by omega)]
          congr 1; omega
        · by_cases c4 : k < P.length + n + Y.length + n
          · rw [if_neg (by omega), if_pos (by omega), ← hG _ (by omega), List.getElem?_append_right (by omega), List.getElem?_append_left (by omega), List.getElem?_append_right (by omega), List.getElem?_append_right (by omega), List.getElem?_append_right (by omega), List.getElem?_append_left (by omega)]
            congr 1; omega
          · rw [if_neg (by omega), if_neg (by omega), ← hG k hk, List.getElem?_append_right (by omega), List.getElem?_append_right (by omega), List.getElem?_append_right (by omega), List.getElem?_append_right (by omega), List.getElem?_append_right (by omega), List.getElem?_append_right (by omega), List.getElem?_append_right (by omega), List.getElem?_append_right (by omega)]
            congr 1; omega
  · have e1 : d'.toList.length = d.size := by rw [Array.length_toList, h.size]
    rw [List.getElem?_eq_none (by omega), List.getElem?_eq_none (by simp only [List.length_append]; omega)]
/-- Where an array reads in its two sorted parts. -/
theorem get_A {d : Array α} {P A R : List α} (hd : d.toList = P ++ (A ++ R)) {i : Nat} (hi : i < A.length) : d[P.length + i]! = A[i] := by
  have hsz : d.size = P.length + (A.length + R.length) := by rw [← Array.length_toList, hd]; simp
  have := toList_get (d := d) (k := P.length + i) (by omega)
  rw [hd, List.getElem?_append_right (by omega), List.getElem?_append_left (by omega), Nat.add_sub_cancel_left, List.getElem?_eq_getElem hi] at this
  injection this with this
  exact this.symm
theorem get_B {d : Array α} {P A B R : List α} (hd : d.toList = P ++ (A ++ (B ++ R))) {i : Nat} (hi : i < B.length) : d[P.length + A.length + i]! = B[i] := by
  have := get_A (P := P ++ A) (A := B) (R := R) (d := d) (by rw [hd]; simp) hi
  rw [List.length_append] at this
  exact this
/-- Where the search by halves ends, the parts are cut. -/
theorem sym_split {d : Array α} {P A B Q : List α} {a m b s e : Nat} (hd : d.toList = P ++ (A ++ (B ++ Q))) (ha : a = P.length) (hm : m = P.length + A.length) (hb : b = P.length + A.length + B.length) (hA : SortedK key A) (hB : SortedK key B)
    (h1 : a ≤ s) (h2 : s ≤ m) (h3 : m ≤ e) (h4 : e ≤ b) (c1 : s = a ∨ e = b ∨ key d[s - 1]! ≤ key d[e]!) (c2 : s = m ∨ e = m ∨ key d[e - 1]! < key d[s]!) :
    ∃ A1 A2 B1 B2 : List α, A = A1 ++ A2 ∧ B = B1 ++ B2 ∧ A1.length = s - a ∧ B1.length = e - m ∧ (∀ x ∈ A2, ∀ y ∈ B1, key y < key x) ∧ ∀ x ∈ A1, ∀ y ∈ B2, key x ≤ key y := by
  refine ⟨A.take (s - a), A.drop (s - a), B.take (e - m), B.drop (e - m), (List.take_append_drop _ _).symm, (List.take_append_drop _ _).symm, by rw [List.length_take]; omega, by rw [List.length_take]; omega, ?_, ?_⟩
  · intro x hx y hy
    obtain ⟨i, hi, rfl⟩ := List.getElem_of_mem hx
    obtain ⟨j, hj, rfl⟩ := List.getElem_of_mem hy
    rw [List.length_drop] at hi
    rw [List.length_take] at hj
    rw [List.getElem_drop, List.getElem_take]
    rcases c2 with c2 | c2 | c2
    · omega
    · omega
    · have e1 : d[s]! = A[s - a]'(by omega) := by
        have := get_A hd (i := s - a) (by omega)
        rw [← this]; congr 1; omega
      have e2 : d[e - 1]! = B[e - 1 - m]'(by omega) := by
        have := get_B hd (i := e - 1 - m) (by omega)
        rw [← this]; congr 1; omega
      have g1 := sorted_get hA (i := s - a) (j := s - a + i) (by omega) (by omega)
      have g2 := sorted_get hB (i := j) (j := e - 1 - m) (by omega) (by omega)
      rw [e1, e2] at c2
      omega
  · intro x hx y hy
    obtain ⟨i, hi, rfl⟩ := List.getElem_of_mem hx
    obtain ⟨j, hj, rfl⟩ := List.getElem_of_mem hy
    rw [List.length_take] at hi
    rw [List.length_drop] at hj
    rw [List.getElem_drop, List.getElem_take]
    rcases c1 with c1 | c1 | c1
    · omega
    · omega
    · have e1 : d[s - 1]! = A[s - 1 - a]'(by omega) := by
        have := get_A hd (i := s - 1 - a) (by omega)
        rw [← this]; congr 1; omega
      have e2 : d[e]! = B[e - m]'(by omega) := by
        have := get_B hd (i := e - m) (by omega)
        rw [← this]; congr 1; omega
      have g1 := sorted_get hA (i := i) (j := s - 1 - a) (by omega) (by omega)
      have g2 := sorted_get hB (i := e - m) (j := e - m + j) (by omega) (by omega)
      rw [e1, e2] at c1
      omega
end
end Go.Proofs.YtffianjbljgnaaaGreat
