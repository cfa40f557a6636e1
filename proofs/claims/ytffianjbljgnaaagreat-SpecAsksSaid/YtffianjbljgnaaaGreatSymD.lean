/-
  What symMergeCmpFunc ends with; plain lemmas. No condition. (Printed by gen_sym.py.)
-/
import Derived.Test.YtffianjbljgnaaaGreatSymS
import Derived.Test.YtffianjbljgnaaaGreatStab
import Derived.Deep.DeepCutAuto
import Derived.Deep.CutBlock
namespace Go.Proofs.YtffianjbljgnaaaGreat
set_option linter.unusedVariables false
set_option linter.unusedSimpArgs false
open Go.RowKit

section
variable {α : Type} {key : α → Int}
theorem ins_left {B : List α} (hB : SortedK key B) (x : α) (n : Nat) (hn : n ≤ B.length) (h1 : ∀ y ∈ B.take n, key y < key x) (h2 : ∀ y ∈ B.drop n, key x ≤ key y) :
    SortedK key (B.take n ++ x :: B.drop n) ∧ SameK key ([x] ++ B) (B.take n ++ x :: B.drop n) := by
  have hs := List.take_append_drop n B
  generalize B.take n = B1 at *
  generalize B.drop n = B2 at *
  subst hs
  have := sym_join (key := key) (A1 := []) (A2 := [x]) (B1 := B1) (B2 := B2) (M1 := B1) (M2 := x :: B2) (by simp [SortedK]) hB (by simpa using h1) (by simp) (sorted_left hB) (SameK.refl _) (List.pairwise_cons.2 ⟨h2, sorted_right hB⟩) (SameK.refl _)
  simpa using this
theorem ins_right {A : List α} (hA : SortedK key A) (y : α) (n : Nat) (hn : n ≤ A.length) (h1 : ∀ x ∈ A.take n, key x ≤ key y) (h2 : ∀ x ∈ A.drop n, key y < key x) :
    SortedK key (A.take n ++ y :: A.drop n) ∧ SameK key (A ++ [y]) (A.take n ++ y :: A.drop n) := by
  have hs := List.take_append_drop n A
  generalize A.take n = A1 at *
  generalize A.drop n = A2 at *
  subst hs
  have := sym_join (key := key) (A1 := A1) (A2 := A2) (B1 := [y]) (B2 := []) (M1 := A1 ++ [y]) (M2 := A2) hA (by simp [SortedK]) (by simpa using h2) (by simp) (List.pairwise_append.2 ⟨sorted_left hA, by simp, by simpa using h1⟩) (SameK.refl _) (sorted_right hA) (by simpa using SameK.refl A2)
  simpa using this
end
theorem take_pre {key : Nat → Int} {R : Int → Prop} (mono : ∀ x y, x ≤ y → R y → R x) {d : Array Nat} {B : List Nat} {o n : Nat} (hB : SortedK key B) (hg : ∀ (i : Nat) (hi : i < B.length), d[o + i]! = B[i]) (hn : n ≤ B.length) (h : n = 0 ∨ R (key d[o + n - 1]!)) : ∀ y ∈ B.take n, R (key y) := by
  intro y hy
  obtain ⟨j, hj, rfl⟩ := List.getElem_of_mem hy
  rw [List.length_take] at hj
  rw [List.getElem_take]
  rcases h with h | h
  · omega
  · have e : d[o + n - 1]! = B[n - 1]'(by omega) := by rw [← hg (n - 1) (by omega)]; congr 1; omega
    rw [e] at h
    exact mono _ _ (sorted_get hB (i := j) (j := n - 1) (by omega) (by omega)) h
theorem drop_suf {key : Nat → Int} {R : Int → Prop} (mono : ∀ x y, x ≤ y → R x → R y) {d : Array Nat} {B : List Nat} {o n : Nat} (hB : SortedK key B) (hg : ∀ (i : Nat) (hi : i < B.length), d[o + i]! = B[i]) (hn : n ≤ B.length) (h : n = B.length ∨ R (key d[o + n]!)) : ∀ y ∈ B.drop n, R (key y) := by
  intro y hy
  obtain ⟨j, hj, rfl⟩ := List.getElem_of_mem hy
  rw [List.length_drop] at hj
  rw [List.getElem_drop]
  rcases h with h | h
  · omega
  · rw [hg n (by omega)] at h
    exact mono _ _ (sorted_get hB (i := n) (j := n + j) (by omega) (by omega)) h
theorem bub_next (P B Q : List Nat) (x t : Nat) (ht : t < B.length) : P ++ (B.take t ++ (x :: (B.drop t ++ Q))) = (P ++ B.take t) ++ (x :: (B[t] :: (B.drop (t + 1) ++ Q))) ∧ P ++ (B.take (t + 1) ++ (x :: (B.drop (t + 1) ++ Q))) = (P ++ B.take t) ++ (B[t] :: (x :: (B.drop (t + 1) ++ Q))) := by
  refine ⟨?_, ?_⟩
  · rw [List.drop_eq_getElem_cons ht]
    simp only [List.append_assoc, List.cons_append]
  · rw [List.take_add_one, List.getElem?_eq_getElem ht]
    simp only [Option.toList, List.append_assoc, List.cons_append, List.nil_append]
theorem swp_up {d : Array Nat} {P R : List Nat} {x y : Nat} {i j : Nat} (hd : d.toList = P ++ (x :: (y :: R))) (hi : i = P.length) (hj : j = P.length + 1) : (Sort.swp d i j).toList = P ++ (y :: (x :: R)) := by
  have hsz : d.size = P.length + (R.length + 2) := by rw [← Array.length_toList, hd]; simp
  have h := (SwapR.start d i j).step (n := 1) (by omega) (by omega) (by omega)
  exact h.lists (P := P) (X := [x]) (Y := []) (Z := [y]) (Q := R) hd hi rfl rfl (by simp; omega)
theorem swp_comm (d : Array Nat) {i j : Nat} (hi : i < d.size) (hj : j < d.size) : Sort.swp d i j = Sort.swp d j i := by
  refine Array.ext (by rw [Sort.swp_size, Sort.swp_size]) fun k h1 h2 => ?_
  rw [← getElem!_pos _ k h1, ← getElem!_pos _ k h2, Sort.swp_get _ hi hj, Sort.swp_get _ hj hi]
  by_cases c1 : k = j
  · subst c1
    by_cases c2 : k = i
    · subst c2; rfl
    · rw [if_pos rfl, if_neg c2, if_pos rfl]
  · by_cases c2 : k = i
    · subst c2; rw [if_neg c1, if_pos rfl, if_pos rfl]
    · rw [if_neg c1, if_neg c2, if_neg c2, if_neg c1]
theorem swp_down {d : Array Nat} {P R : List Nat} {x y : Nat} {i j : Nat} (hd : d.toList = P ++ (x :: (y :: R))) (hi : i = P.length + 1) (hj : j = P.length) : (Sort.swp d i j).toList = P ++ (y :: (x :: R)) := by
  have hsz : d.size = P.length + (R.length + 2) := by rw [← Array.length_toList, hd]; simp
  rw [swp_comm d (by omega) (by omega)]
  exact swp_up hd hj hi
/-- What the comparison answers of the elements U, wherever the row alone was turned. -/
structure CmpOk (g : Nat) (W0 : World) (CB : Nat) (key : Nat → Int) (U : List Nat) : Prop where
  cmp : ∀ w', Mod [g] W0 w' → ∀ x y, x ∈ U → y ∈ U → Calls Tryz.prog 39 #[.int .i64 x, .int .i64 y, .pointer (some ⟨CB, 0, none⟩)] w' fun e w'' => e = .returned (.int .i64 (cmpI (key x) (key y))) ∧ Below w'.heap.size w' w''
theorem CmpOk.on {g : Nat} {W0 w : World} {CB : Nat} {key : Nat → Int} {U : List Nat} (h : CmpOk g W0 CB key U) (hm : Mod [g] W0 w) : CmpOk g w CB key U := ⟨fun w' hm' => h.cmp w' (hm.trans hm')⟩
def SymEnd (g n : Nat) (key : Nat → Int) (P AB Q : List Nat) (rest : List Value) (w : World) (e : Ending) (w' : World) : Prop :=
  e = .returned (.tuple #[]) ∧ ∃ (M : List Nat) (d' : Array Nat), SortedK key M ∧ SameK key AB M ∧ d'.toList = P ++ (M ++ Q) ∧ d'.size = n ∧ ArrI w' g d' rest ∧ Mod [g] w w'
def SymGoal (N : Nat) : Prop := ∀ (g : Nat) (d : Array Nat) (rest : List Value) (cap a m b : Nat) (P A B Q : List Nat) (CB : Nat) (key : Nat → Int) (w : World), b - a ≤ N → d.toList = P ++ (A ++ (B ++ Q)) → a = P.length → m = P.length + A.length → b = P.length + A.length + B.length → 0 < A.length → 0 < B.length → SortedK key A → SortedK key B →
  d.size ≤ cap → d.size ≤ 1000000 → CmpOk g w CB key d.toList → ArrI w g d rest →
  Calls Tryz.prog 74 #[.slice (some ⟨g, 0, none⟩) d.size cap, .int .i64 a, .int .i64 m, .int .i64 b, .func (.func 39) #[] #[.pointer (some ⟨CB, 0, none⟩)]] w (SymEnd g d.size key P (A ++ B) Q rest w)
theorem mem_get {d : Array Nat} {i : Nat} (hi : i < d.size) : d[i]! ∈ d.toList := by rw [getElem!_pos d i hi]; exact Array.getElem_mem_toList hi

end Go.Proofs.YtffianjbljgnaaaGreat
